/- The reference's Restore. -/
import Derived.Test.YtjdageiphebfpaaDoorMRf12
import Derived.Test.YtjdageiphebfpaaDoorMRf10
import Derived.Test.YtjdageiphebfpaaDoorMRf9
namespace Go.Proofs.YtjdageiphebfpaaDoor
open Go.RowKit
open Pl Mem

namespace Pl
theorem fqIter_in (b : Bytes) (q : Nat) (x : FQ) (h : ∀ y ∈ x.q, (0 : Int) ≤ y ∧ y ≤ 15) : ∀ y ∈ (fqIter b q x).q, (0 : Int) ≤ y ∧ y ≤ 15 := by
  induction q with
  | zero => exact h
  | succ q ih =>
    intro y hy
    simp only [fqIter, fqStep, List.mem_append, List.mem_singleton] at hy
    rcases hy with hy | rfl
    · exact ih y hy
    · have := nNum_hi b 0 15 (fqIter b q x).st (by omega)
      exact ⟨by omega, this⟩
theorem flHk_in (b : Bytes) (s : St) : LkIn (flHk b s) := by
  have h1 := nNum_hi b 0 15 (flName b s).2 (by omega)
  have h2 := nNum_hi b 0 15 (flTok b s).2 (by omega)
  have h3 := fqIter_len b (flCnt b s).1 ⟨(flCnt b s).2, []⟩
  refine ⟨⟨by show (0 : Int) ≤ ((flHold b s).1 : Nat); omega, h1⟩, fqIter_in b _ _ (by simp), ?_⟩
  show (fqIter b (flCnt b s).1 ⟨(flCnt b s).2, []⟩).q.length ≤ 15
  rw [h3]
  unfold flCnt
  simp
  omega
theorem fL_in (b : Bytes) : ∀ k ∈ (fL b).hs, LkIn k := by
  unfold fL
  generalize (fN2 b).1 = q
  induction q with
  | zero => intro k hk; cases hk
  | succ q ih =>
    intro k hk
    simp only [flIter, flStep, List.mem_append, List.mem_singleton] at hk
    rcases hk with hk | rfl
    · exact ih k hk
    · exact flHk_in b _
theorem fP_len (b : Bytes) : (fP b).ps.length ≤ 16 := by
  unfold fP
  rw [fpIter_len]
  have := nNum_hi b 0 16 (fTok b).2 (by omega)
  unfold fN1
  simp
  omega
theorem fL_len (b : Bytes) : (fL b).hs.length ≤ 8 := by
  unfold fL
  rw [flIter_len]
  have := nNum_hi b 0 8 (fP b).st (by omega)
  unfold fN2
  simp
  omega
/-- What makes a text a snapshot, by the reference. -/
def insR (b : Bytes) : Prop := (nEnd b (fS b).st).bad = false ∧ validF (fTok b).1 (fP b).ps (fL b).hs (fS b).al
def headR (bs : Bytes) : Prop := 11 ≤ bs.length ∧ bs.length ≤ 1070 ∧ (bs.getD 0 0).toNat = 81 ∧ (bs.getD 1 0).toNat = 83 ∧ (bs.getD 2 0).toNat = 1 ∧ sealP bs 4
def resR (bs : Bytes) : Prop := headR bs ∧ insR (bs.take (bs.length - 4))
end Pl

/-- What Restore hands back. -/
def ResRet (bs : Bytes) (w : World) (e : Ending) (w' : World) : Prop :=
  ∃ m E, e = .returned (.tuple #[.pointer m, .int .i64 E]) ∧ (E = 0 ∨ E = 131) ∧ (E = 0 ↔ resR bs) ∧
    (E = 0 → ∃ M base hs v1 v2, m = some ⟨M, 0, none⟩ ∧ w.heap.size ≤ M ∧ FMach w' M base (fTok (bs.take (bs.length - 4))).1 (fP (bs.take (bs.length - 4))).ps hs (fS (bs.take (bs.length - 4))).al v1 v2 ∧ hs.map HkV.k = (fL (bs.take (bs.length - 4))).hs) ∧ Below w.heap.size w w'
theorem ResRet.no {bs : Bytes} {w w' : World} (h : ¬ resR bs) (hb : Below w.heap.size w w') : ResRet bs w (.returned (.tuple #[.pointer none, .int .i64 131])) w' :=
  ⟨none, 131, rfl, Or.inr rfl, ⟨fun e => (by cases e), fun h1 => absurd h1 h⟩, fun e => (by cases e), hb⟩

set_option maxRecDepth 100000 in
set_option maxHeartbeats 2000000 in
theorem nrestore (A : Option Addr) (n c : Nat) (bs : Bytes) (T : Nat → Prop) (w : World) (hr : Rd w T 1 A n (u8s bs)) (hn : n ≤ 1099511627776) (hcap : n ≤ c) :
    Calls Tryd.prog 20 #[.slice A n c] w (ResRet bs w) := by
  have hl := hr.len8
  subst hl
  by_cases h11 : bs.length < 11
  · have HF : Hid (¬ resR bs) := fun h => by have := h.1.1; omega
    clear hr
    go_enter Tryd.func20, Tryd.ntmps20
    go_wp2_with fail
    go_ret2
    exact ResRet.no HF.out (Below.refl _ _)
  have h11' : (11 : Int) ≤ bs.length := by omega
  have h11n : 11 ≤ bs.length := by omega
  by_cases hbig : 1070 < bs.length
  · have HF : Hid (¬ resR bs) := fun h => by have := h.1.2.1; omega
    clear hr
    go_enter Tryd.func20, Tryd.ntmps20
    go_wp2_with fail
    go_ret2
    exact ResRet.no HF.out (Below.refl _ _)
  have hbig' : (bs.length : Int) ≤ 1070 := by omega
  obtain ⟨ad, rfl, k0⟩ := Rd.byteD hr (k := 0) (by omega)
  rw [show ad.add 0 = ad from rfl] at k0
  obtain ⟨ad', e', k1⟩ := Rd.byteD hr (k := 1) (by omega)
  cases e'
  rw [show ad.add 1 = ⟨ad.block, ad.off + 1, none⟩ from rfl] at k1
  obtain ⟨ad', e', k2⟩ := Rd.byteD hr (k := 2) (by omega)
  cases e'
  rw [show ad.add 2 = ⟨ad.block, ad.off + 2, none⟩ from rfl] at k2
  have HS := Lib.hid (nseal (some ad) bs.length c bs T w hr (by omega) hcap (by omega))
  have HH : Hid (headR bs ↔ (bs.getD 0 0).toNat = 81 ∧ (bs.getD 1 0).toNat = 83 ∧ (bs.getD 2 0).toNat = 1 ∧ sealP bs 4) := ⟨fun h => h.2.2, fun h => ⟨by omega, by omega, h⟩⟩
  generalize (bs.getD 0 0).toNat = x0 at k0 HH
  generalize (bs.getD 1 0).toNat = x1 at k1 HH
  generalize (bs.getD 2 0).toNat = x2 at k2 HH
  by_cases h0 : x0 = 81
  case neg =>
    have HF : Hid (¬ resR bs) := fun h => h0 (HH.out.1 h.1).1
    have h0' : ((x0 : Int) != 81) = true := by simp; omega
    clear hr h0
    go_enter Tryd.func20, Tryd.ntmps20
    go_wp2_with fail
    go_ret2
    exact ResRet.no HF.out (Below.refl _ _)
  have h0' : ((x0 : Int) != 81) = false := by simp [h0]
  by_cases h1 : x1 = 83
  case neg =>
    have HF : Hid (¬ resR bs) := fun h => h1 (HH.out.1 h.1).2.1
    have h1' : ((x1 : Int) != 83) = true := by simp; omega
    clear hr h0 h1
    go_enter Tryd.func20, Tryd.ntmps20
    go_wp2_with fail
    go_ret2
    exact ResRet.no HF.out (Below.refl _ _)
  have h1' : ((x1 : Int) != 83) = false := by simp [h1]
  by_cases h2 : x2 = 1
  case neg =>
    have HF : Hid (¬ resR bs) := fun h => h2 (HH.out.1 h.1).2.2.1
    have h2' : ((x2 : Int) != 1) = true := by simp; omega
    clear hr h0 h1 h2
    go_enter Tryd.func20, Tryd.ntmps20
    go_wp2_with fail
    go_ret2
    exact ResRet.no HF.out (Below.refl _ _)
  have h2' : ((x2 : Int) != 1) = false := by simp [h2]
  by_cases h3 : sealP bs 4
  case neg =>
    have HF : Hid (¬ resR bs) := fun h => h3 (HH.out.1 h.1).2.2.2
    rw [decide_eq_false h3] at HS
    clear hr h0 h1 h2 h3
    go_enter Tryd.func20, Tryd.ntmps20
    go_wp2_with fail
    refine HS.out.mono ?_
    rintro e w1 ⟨rfl, m, rfl⟩
    go_wp2_with fail
    go_ret2
    exact ResRet.no HF.out (below_drewN (Below.refl _ _) m)
  rw [decide_eq_true h3] at HS
  have HHd : Hid (headR bs) := HH.out.2 ⟨h0, h1, h2, h3⟩
  clear h0 h1 h2 h3 HH
  obtain ⟨b, hb⟩ : ∃ b, b = bs.take (bs.length - 4) := ⟨_, rfl⟩
  have hbl : b.length = bs.length - 4 := by rw [hb, List.length_take]; omega
  have hrb : Rd w (· < w.heap.size) 1 (some ad) b.length (u8s b) := by rw [hbl, hb]; exact (hr.take8 (by omega)).more (fun k hk _ => hk)
  have HRb : Hid (resR bs ↔ insR b) := by
    show resR bs ↔ insR b
    unfold resR
    rw [← hb]
    exact ⟨fun h => h.2, fun h => ⟨HHd.out, h⟩⟩
  have HB := Lib.hid hb
  clear hb hr HHd
  have hcc : (bs.length : Int) - 4 ≤ c := by omega
  have hcz : (0 : Int) ≤ (bs.length : Int) - 4 := by omega
  have hct : ((bs.length : Int) - 4).toNat = b.length := by omega
  go_enter Tryd.func20, Tryd.ntmps20
  go_wp2_with fail
  refine HS.out.mono ?_
  rintro e w1 ⟨rfl, m, rfl⟩
  go_wp2_with fail
  have hbw : Below w.heap.size w (w.drewN m) := below_drewN (Below.refl _ _) m
  have hrd := hrb.drewN m
  have hsz : (w.drewN m).heap.size = w.heap.size := rfl
  clear k0 k1 k2 HS hrb hcc hcz hct
  have hN0 : NRd ((w.drewN m).alloc (.cells #[.slice (some ad) (bs.length - 4) c, .int .i64 3, .int .i64 0] 53)) w.heap.size (· < w.heap.size) b ⟨3, false⟩ :=
    ⟨by omega, by simp only []; omega, by omega, some ad, c, 0, by omega, by simp, by rw [hbl]; exact Blk.new_ hsz _ _, hrd.alloc _⟩
  have hb0 := hbw.alloc (Nat.le_of_eq hsz.symm) (.cells #[.slice (some ad) (bs.length - 4) c, .int .i64 3, .int .i64 0] 53)
  have hz0 : ((w.drewN m).alloc (.cells #[.slice (some ad) (bs.length - 4) c, .int .i64 3, .int .i64 0] 53)).heap.size = w.heap.size + 1 := by simp
  clear hrd hbw hsz
  generalize (w.drewN m).alloc (.cells #[.slice (some ad) (bs.length - 4) c, .int .i64 3, .int .i64 0] 53) = W0 at hN0 hb0 hz0 ⊢
  refine (nread w.heap.size (· < w.heap.size) b W0 (by omega) hN0 (fun k hk => by omega)).mono ?_
  rintro e W1 ⟨M, hM, rfl, hs, hI, hmap⟩
  have HMP := Lib.hid hmap
  have HZ0 := Lib.hid hz0
  clear hN0 hmap hM
  have hgW : w.heap.size < W0.heap.size := by omega
  clear hz0
  have HE := Lib.hid (nend w.heap.size (· < w.heap.size) b (fS b).st W1 hI.rd)
  go_wp2_with fail
  refine HE.out.mono ?_
  rintro e W2 ⟨rfl, hN2, hk2⟩
  have hI2 := hI.call hgW hN2 hk2
  clear hI hN2 hk2 HE
  obtain ⟨_, _, _, A3, c3, E, _, hE, hbE, _⟩ := hI2.rd
  have cE : W2.cell? ⟨w.heap.size, 2, none⟩ = some (.int .i64 E) := hbE.cell 2
  clear hbE
  obtain ⟨v1, v2, hm⟩ := hI2.mach
  have hbW2 : Below w.heap.size w W2 := hb0.trans ((hI2.keep.mono (B' := w.heap.size) (S' := fun _ => False) (by omega) (fun k hk e => by omega)).to_below (fun _ _ h => h))
  by_cases hbad : (nEnd b (fS b).st).bad = true
  · have hE0 : E ≠ 0 := fun e => by have := hE.2 e; rw [hbad] at this; cases this
    have hE1 : ((E : Int) != 0) = true := by simp; omega
    have HF : Hid (¬ resR bs) := fun h => by have := (HRb.out.1 h).1; rw [hbad] at this; cases this
    clear hbad hE hm hI2
    go_wp2_with fail
    go_ret2
    exact ResRet.no HF.out hbW2
  · have hbad' : (nEnd b (fS b).st).bad = false := by simpa using hbad
    obtain rfl : E = 0 := hE.1 hbad'
    clear hE hbad
    have HIN : Hid (resR bs ↔ validF (fTok b).1 (fP b).ps (fL b).hs (fS b).al) := by
      show resR bs ↔ _
      rw [HRb.out]
      exact ⟨fun h => h.2, fun h => ⟨hbad', h⟩⟩
    clear hbad'
    have hlen : hs.length ≤ 8 := by have h1 := congrArg List.length HMP.out; rw [List.length_map] at h1; have := fL_len b; omega
    have HV := Lib.hid (nvalid W0.heap.size (W0.heap.size + 1) (fTok b).1 (fP b).ps hs (fS b).al v1 v2 W2 hm (fP_len b) hlen (fun x hx => fL_in b x.k (by rw [← HMP.out]; exact List.mem_map_of_mem hx)))
    go_wp2_with fail
    refine HV.out.mono ?_
    rintro e W3 ⟨bv, rfl, hiff, hb3⟩
    rw [HMP.out] at hiff
    have HIF := Lib.hid hiff
    clear hiff HV
    have hm3 := hm.keep (S := fun _ => False) (Keep.of_below hb3) (Nat.le_refl _) (fun h => h) (fun _ _ _ h => h)
    have hb3' : Below w.heap.size w W3 := hbW2.trans (hb3.mono hbW2.size)
    clear hm hI2 hbW2 hb3 cE
    have HM3 := Lib.hid hm3
    clear hm3
    cases bv with
    | false =>
      have HF : Hid (¬ resR bs) := fun h => by have := HIF.out.2 (HIN.out.1 h); cases this
      go_wp2_with fail
      go_ret2
      exact ResRet.no HF.out hb3'
    | true =>
      have HT : Hid (resR bs) := HIN.out.2 (HIF.out.1 rfl)
      go_wp2_with fail
      go_ret2
      exact ⟨some ⟨W0.heap.size, 0, none⟩, 0, rfl, Or.inl rfl, ⟨fun _ => HT.out, fun _ => rfl⟩, fun _ => ⟨W0.heap.size, W0.heap.size + 1, hs, v1, v2, rfl, by omega, by rw [← HB.out]; exact HM3.out, by rw [← HB.out]; exact HMP.out⟩, hb3'⟩
end Go.Proofs.YtjdageiphebfpaaDoor
