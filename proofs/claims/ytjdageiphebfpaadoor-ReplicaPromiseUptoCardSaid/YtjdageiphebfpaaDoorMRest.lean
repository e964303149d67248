/- machine.New and machine.Restore. -/
import Derived.Test.YtjdageiphebfpaaDoorMSess
import Derived.Test.YtjdageiphebfpaaDoorMMach
namespace Go.Proofs.YtjdageiphebfpaaDoor
open Go.RowKit
open Pl Mem

namespace Pl
def rTok (b : Bytes) : Nat × St := mCount b 99999999 ⟨3, false⟩
def rP (b : Bytes) : PSt := pRun b (rTok b).2 []
def rL (b : Bytes) : LSt := lRun b (rTok b).1 (rP b).st
def rS (b : Bytes) : SSt := sRun b (rL b).st (List.replicate 16 zeroSes)
def rSt (b : Bytes) : St := ⟨(rS b).st.p, (rS b).st.bad || lacksL (rS b).ss (rL b).L⟩
/-- What lies between the frame's marks is read whole. -/
def resIn (b : Bytes) : Bool := !(rSt b).bad && decide ((rSt b).p = b.length)
/-- Is it a snapshot? -/
def resOk (bs : Bytes) : Bool := sealedC bs && resIn (bs.take (bs.length - 4))
end Pl

/-- A machine in memory. -/
def MachIs (w : World) (gm bp bl : Nat) (tok : Int) (L : List (Bytes × Bytes)) (K : List (Bytes × Lk)) (ss : List Ses) : Prop :=
  MachB w gm bp bl tok ss ∧ MapIs kS str w bp L ∧ ∃ E, Locks w bl E ∧ plainL E = K

theorem zeroM (a b : Option Nat) : (Tryd.zeroCells95.setIfInBounds 0 (Value.map a)).setIfInBounds 1 (Value.map b) = (([Value.map a, Value.map b, .int .i64 0] ++ (List.replicate 16 zeroSes).flatMap sesC).toArray) := rfl

theorem MachB.tok {w : World} {gm bp bl : Nat} {tok : Int} {ss : List Ses} (h : MachB w gm bp bl tok ss) (t : Int) : MachB (w.setCell ⟨gm, 2, none⟩ (.int .i64 t)) gm bp bl t ss := ⟨by
  have := h.1.set_ 2 (.int .i64 t)
  simpa [machL] using this, h.2⟩

theorem cnew (w : World) :
    Calls Tryd.prog 34 #[] w fun e w' =>
      ∃ gm bp bl, e = .returned (.pointer (some ⟨gm, 0, none⟩)) ∧ w.heap.size ≤ gm ∧ w.heap.size ≤ bp ∧ w.heap.size ≤ bl ∧ gm ≠ bp ∧ gm ≠ bl ∧ bp ≠ bl ∧ MachB w' gm bp bl 0 (List.replicate 16 zeroSes) ∧ MapIs kS str w' bp [] ∧ MapIs kS evL w' bl [] ∧ Below w.heap.size w w' := by
  go_enter Tryd.func34, Tryd.ntmps34
  have hmm := @run_makeMap Tryd.prog
  go_wp2
  rw [zeroM]
  go_ret
  refine ⟨_, _, _, rfl, by omega, Nat.le_refl _, by omega, by omega, by omega, by omega, ⟨Blk.new_ (by simp) _ _, rfl⟩, ((MapIs.new _ _ w).alloc _).alloc _, (MapIs.new_ _ _ (by simp)).alloc _, (((Below.refl _ _).alloc (Nat.le_refl _) _).alloc (by simp) _).alloc (by simp; omega) _⟩

set_option maxRecDepth 100000 in
set_option maxHeartbeats 2000000 in
theorem crestore (A : Option Addr) (c : Nat) (bs : Bytes) (w : World) (hr : Rd w (fun _ => True) 1 A bs.length (u8s bs)) (hn : bs.length ≤ 281474976710656) (hcap : bs.length ≤ c)
    (hnib : ∀ i : Nat, i < 16 → w.cell? ⟨0, i, none⟩ = some (.int .u32 (nib i).toNat)) :
    Calls Tryd.prog 24 #[.slice A bs.length c] w fun e w' => ∃ m,
      e = .returned (.tuple #[.pointer m, .int .i64 (if resOk bs then 0 else 131)]) ∧ (resOk bs = false → m = none) ∧
      (resOk bs = true → ∃ gm bp bl, m = some ⟨gm, 0, none⟩ ∧ MachIs w' gm bp bl (rTok (bs.take (bs.length - 4))).1 (rP (bs.take (bs.length - 4))).L (rL (bs.take (bs.length - 4))).L (rS (bs.take (bs.length - 4))).ss ∧ w.heap.size ≤ gm ∧ w.heap.size ≤ bp ∧ w.heap.size ≤ bl) ∧
      Below w.heap.size w w' := by
  have HS := Lib.hid (csealed A c bs (fun _ => True) w hr hn hcap hnib)
  unfold resOk
  cases hs : sealedC bs with
  | false =>
    rw [hs] at HS
    go_enter Tryd.func24, Tryd.ntmps24
    go_wp2_with fail
    refine HS.out.mono ?_
    rintro e w1 ⟨rfl, rfl⟩
    go_wp2_with fail
    go_ret2
    refine ⟨none, rfl, rfl, ?_⟩
    first | exact Below.refl _ _ | exact ⟨trivial, Below.refl _ _⟩ | exact ⟨fun h => by cases h, Below.refl _ _⟩
  | true =>
    have h11 : 11 ≤ bs.length := by
      unfold sealedC at hs
      simp at hs
      omega
    rw [hs] at HS
    clear hs
    have HW := Lib.hid (fun W => cnew W)
    have hlen : (bs.take (bs.length - 4)).length = bs.length - 4 := by rw [List.length_take]; omega
    rw [Bool.true_and]
    obtain ⟨b, hb⟩ : ∃ b, b = bs.take (bs.length - 4) := ⟨_, rfl⟩
    have hbl : b.length = bs.length - 4 := by rw [hb]; exact hlen
    have hrb : Rd w (fun _ => True) 1 A b.length (u8s b) := by rw [hbl, hb]; exact hr.take8 (by omega)
    rw [← hb]
    obtain ⟨o, hri⟩ : ∃ o, (!(rSt b).bad && decide ((rSt b).p = b.length)) = o := ⟨_, rfl⟩
    have HRI := Lib.hid hri
    rw [show resIn b = o from hri]
    clear hri
    cases o with
    | true =>
      go_enter Tryd.func24, Tryd.ntmps24
      go_wp2_with fail
      refine HS.out.mono ?_
      rintro e w1 ⟨rfl, rfl⟩
      go_wp2_with fail
      refine (HW.out _).mono ?_
      rintro e w2 ⟨gm, bp, bl, rfl, g1, g2, g3, n1, n2, n3, hMB, hMP, hML, hb2⟩
      go_wp2_with fail
      have hMB0 := hMB
      have hg2 := hMB.1.lt
      have hp2 := hMP.lt
      have hl2 := hML.lt
      have hs12 := hb2.size
      have hMrd : MRd (w2.alloc (.cells #[.slice A (bs.length - 4) c, .int .i64 3, .bool false] 85)) w2.heap.size (· < w1.heap.size) b ⟨3, false⟩ := by
        refine ⟨by omega, by simp only []; omega, by omega, A, c, by omega, ?_, ?_⟩
        · rw [hbl]; exact Blk.new w2 _ _
        · exact (Rd.more (T' := (· < w1.heap.size)) hrb (fun k hk _ => hk)).keep (S := fun _ => False) ((Keep.of_below hb2).alloc hs12 _) (Nat.le_refl _) (fun _ _ _ h => h)
      have hbW : Below w1.heap.size w1 (w2.alloc (.cells #[.slice A (bs.length - 4) c, .int .i64 3, .bool false] 85)) := hb2.alloc hs12 _
      clear hrb hr hb HS HW hlen hb2
      have hMBa := hMB.keep (S := fun _ => False) ((Keep.refl _ _ w2).alloc (Nat.le_refl _) (.cells #[.slice A (bs.length - 4) c, .int .i64 3, .bool false] 85)) (Nat.le_refl _) (fun h => h)
      have hMPa := hMP.alloc (.cells #[.slice A (bs.length - 4) c, .int .i64 3, .bool false] 85)
      have hMLa := hML.alloc (.cells #[.slice A (bs.length - 4) c, .int .i64 3, .bool false] 85)
      have hszW : (w2.alloc (.cells #[.slice A (bs.length - 4) c, .int .i64 3, .bool false] 85)).heap.size = w2.heap.size + 1 := by simp
      generalize w2.alloc (.cells #[.slice A (bs.length - 4) c, .int .i64 3, .bool false] 85) = W0 at *
      clear hMB hMP hML hMB0
      have HC := mcount w2.heap.size (· < w1.heap.size) b ⟨3, false⟩ 99999999 W0 hMrd (by omega) (by omega)
      refine HC.mono ?_
      rintro e w3 ⟨rfl, hM3, hk3⟩
      clear HC hMrd
      have hMB3 := hMBa.keep hk3 (Nat.le_refl _) (by omega)
      have hMP3 := hMPa.keep hk3 hMPa.lt (by omega)
      have hML3 := hMLa.keep hk3 hMLa.lt (by omega)
      have f2 := hMB3.1.frozen 2
      have c2 := hMB3.c2
      have hbW3 : Below w1.heap.size w1 w3 := hbW.trans (hk3.mono (S' := (· = w2.heap.size)) (by omega) (fun _ _ h => h) |>.to_below (fun k hk e => by omega))
      change MRd w3 _ _ b (rTok b).2 at hM3
      go_wp2_with fail
      have hk4 : Keep w3.heap.size (· = gm) w3 (w3.setCell ⟨gm, 2, none⟩ (.int .i64 (mCount b 99999999 ⟨3, false⟩).1)) := (Keep.refl _ _ _).own 2 _
      change Keep w3.heap.size (· = gm) w3 (w3.setCell ⟨gm, 2, none⟩ (.int .i64 (rTok b).1)) at hk4
      change Calls _ _ _ (w3.setCell ⟨gm, 2, none⟩ (.int .i64 (rTok b).1)) _
      have hMB4 := hMB3.tok (rTok b).1
      have hM4 := hM3.keep hk4 (Nat.le_refl _) (by omega) (fun k hk (h : k < _) e => by omega)
      have hMP4 := hMP3.keep hk4 hMP3.lt (by omega)
      have hML4 := hML3.keep hk4 hML3.lt (by omega)
      have hk34 := hk3.size
      have hbW4 : Below w1.heap.size w1 (w3.setCell ⟨gm, 2, none⟩ (.int .i64 (rTok b).1)) := hbW3.trans (hk4.mono (S' := (· = gm)) (by omega) (fun _ _ h => h) |>.to_below (fun k hk e => by omega))
      have hk4s := hk4.size
      generalize w3.setCell ⟨gm, 2, none⟩ (.int .i64 (rTok b).1) = w4 at *
      have c40 := hMB4.c0
      have hg4 := hMB4.1.lt
      have HC := creadPairs gm w2.heap.size bp w1.heap.size b (rTok b).2 [] w4 c40 hg4 (by omega) (by omega) (by omega) g2 hM4 hMP4
      clear hM3 hMB3 hMP3 hML3 f2 c2 hbW3 hk4 hk3 hMBa hMPa hMLa
      refine HC.mono ?_
      rintro e w5 ⟨rfl, hM5, hMP5, hk5⟩
      clear HC hM4 hMP4 c40
      change MRd w5 _ _ b (rP b).st at hM5
      change MapIs kS str w5 bp (rP b).L at hMP5
      have hMB5 := hMB4.keep hk5 (Nat.le_refl _) (by omega)
      have hML5 := hML4.keep hk5 hML4.lt (by omega)
      have hk5s := hk5.size
      have hbW5 : Below w1.heap.size w1 w5 := hbW4.trans (hk5.mono (by omega) (fun _ _ h => h) |>.to_below (fun k hk e => by omega))
      go_wp2_with fail
      have hMP5s := hMP5.lt
      have hg5 := hMB5.1.lt
      have htokle : (rTok b).1 ≤ 99999999 := mCount_le b 99999999 _
      have HC := creadLocks gm w2.heap.size bl w1.heap.size (rTok b).1 b (rP b).st w5 htokle hMB5.c1 hMB5.c2 hg5 (by omega) (by omega) (by omega) g3 hM5 hML5
      clear hMB4 hML4 hbW4 hk5
      refine HC.mono ?_
      rintro e w6 ⟨rfl, hM6, ⟨E, hLk6, hpl6, hft6⟩, hk6⟩
      clear HC hM5 hML5
      change MRd w6 _ _ b (rL b).st at hM6
      change plainL E = (rL b).L at hpl6
      have hMB6 := hMB5.keep hk6 (Nat.le_refl _) (by omega)
      have hMP6 := hMP5.keep hk6 hMP5.lt (by omega)
      have hk6s := hk6.size
      have hbW6 : Below w1.heap.size w1 w6 := hbW5.trans (hk6.mono (by omega) (fun _ _ h => h) |>.to_below (fun k hk e => by omega))
      have hok : ∀ p ∈ E, LkOk p.2.lk := by
        intro p hp
        have h1 : (p.1, p.2.lk) ∈ (rL b).L := by rw [← hpl6]; exact List.mem_map.2 ⟨p, hp, rfl⟩
        exact lIter_ok b (rTok b).1 _ ⟨(mCount b 8 (rP b).st).2, [], [], []⟩ (by simp) _ h1
      go_wp2_with fail
      have HC := creadSessions gm w2.heap.size bp bl w1.heap.size (rTok b).1 b (rL b).st (List.replicate 16 zeroSes) E w6 (by omega) g1 hM6 hMB6 hLk6 hok (fun k hk => by rcases hft6 k hk with h | h <;> omega)
      refine HC.mono ?_
      rintro e w7 ⟨rfl, hM7, hMB7, hk7⟩
      clear HC
      have hk7s := hk7.size
      have hMP7 := hMP6.keep hk7 hMP6.lt (by omega)
      have hLk7 := hLk6.keep hk7 (Nat.le_refl _) (fun k hk => by have := hft6 k hk; omega)
      have hbW7 : Below w1.heap.size w1 w7 := hbW6.trans (hk7.mono (by omega) (fun _ _ h => h) |>.to_below (fun k hk e => by omega))
      rw [hpl6] at hM7
      change MRd w7 _ _ b (rSt b) at hM7
      change MachB w7 gm bp bl _ (rS b).ss at hMB7
      clear hM6 hMB6 hMP6 hLk6 hbW6 hk7 hk6 hMB5 hMP5 hbW5 hft6 hok
      go_wp2_with fail
      have HO := Lib.hid (msound w2.heap.size (· < w1.heap.size) b (rSt b) w7 hM7)
      rw [HRI.out] at HO
      clear hM7
      refine HO.out.mono ?_
      rintro e w8 ⟨rfl, m8, rfl⟩
      go_wp2_with fail
      refine bodyPost_ret (v := .tuple #[.pointer (some ⟨gm, 0, none⟩), .int .i64 0]) (by simp [results, Tryd.results24, go_sem]) rfl ?_
      exact ⟨some ⟨gm, 0, none⟩, rfl, ⟨gm, rfl, bp, bl, ⟨hMB7, hMP7, E, hLk7, hpl6⟩, g1, g2, g3⟩, ((Keep.of_below (S := fun _ => False) hbW7).drewN m8).to_below (fun _ _ h => h)⟩
    | false =>
      go_enter Tryd.func24, Tryd.ntmps24
      go_wp2_with fail
      refine HS.out.mono ?_
      rintro e w1 ⟨rfl, rfl⟩
      go_wp2_with fail
      refine (HW.out _).mono ?_
      rintro e w2 ⟨gm, bp, bl, rfl, g1, g2, g3, n1, n2, n3, hMB, hMP, hML, hb2⟩
      go_wp2_with fail
      have hMB0 := hMB
      have hg2 := hMB.1.lt
      have hp2 := hMP.lt
      have hl2 := hML.lt
      have hs12 := hb2.size
      have hMrd : MRd (w2.alloc (.cells #[.slice A (bs.length - 4) c, .int .i64 3, .bool false] 85)) w2.heap.size (· < w1.heap.size) b ⟨3, false⟩ := by
        refine ⟨by omega, by simp only []; omega, by omega, A, c, by omega, ?_, ?_⟩
        · rw [hbl]; exact Blk.new w2 _ _
        · exact (Rd.more (T' := (· < w1.heap.size)) hrb (fun k hk _ => hk)).keep (S := fun _ => False) ((Keep.of_below hb2).alloc hs12 _) (Nat.le_refl _) (fun _ _ _ h => h)
      have hbW : Below w1.heap.size w1 (w2.alloc (.cells #[.slice A (bs.length - 4) c, .int .i64 3, .bool false] 85)) := hb2.alloc hs12 _
      clear hrb hr hb HS HW hlen hb2
      have hMBa := hMB.keep (S := fun _ => False) ((Keep.refl _ _ w2).alloc (Nat.le_refl _) (.cells #[.slice A (bs.length - 4) c, .int .i64 3, .bool false] 85)) (Nat.le_refl _) (fun h => h)
      have hMPa := hMP.alloc (.cells #[.slice A (bs.length - 4) c, .int .i64 3, .bool false] 85)
      have hMLa := hML.alloc (.cells #[.slice A (bs.length - 4) c, .int .i64 3, .bool false] 85)
      have hszW : (w2.alloc (.cells #[.slice A (bs.length - 4) c, .int .i64 3, .bool false] 85)).heap.size = w2.heap.size + 1 := by simp
      generalize w2.alloc (.cells #[.slice A (bs.length - 4) c, .int .i64 3, .bool false] 85) = W0 at *
      clear hMB hMP hML hMB0
      have HC := mcount w2.heap.size (· < w1.heap.size) b ⟨3, false⟩ 99999999 W0 hMrd (by omega) (by omega)
      refine HC.mono ?_
      rintro e w3 ⟨rfl, hM3, hk3⟩
      clear HC hMrd
      have hMB3 := hMBa.keep hk3 (Nat.le_refl _) (by omega)
      have hMP3 := hMPa.keep hk3 hMPa.lt (by omega)
      have hML3 := hMLa.keep hk3 hMLa.lt (by omega)
      have f2 := hMB3.1.frozen 2
      have c2 := hMB3.c2
      have hbW3 : Below w1.heap.size w1 w3 := hbW.trans (hk3.mono (S' := (· = w2.heap.size)) (by omega) (fun _ _ h => h) |>.to_below (fun k hk e => by omega))
      change MRd w3 _ _ b (rTok b).2 at hM3
      go_wp2_with fail
      have hk4 : Keep w3.heap.size (· = gm) w3 (w3.setCell ⟨gm, 2, none⟩ (.int .i64 (mCount b 99999999 ⟨3, false⟩).1)) := (Keep.refl _ _ _).own 2 _
      change Keep w3.heap.size (· = gm) w3 (w3.setCell ⟨gm, 2, none⟩ (.int .i64 (rTok b).1)) at hk4
      change Calls _ _ _ (w3.setCell ⟨gm, 2, none⟩ (.int .i64 (rTok b).1)) _
      have hMB4 := hMB3.tok (rTok b).1
      have hM4 := hM3.keep hk4 (Nat.le_refl _) (by omega) (fun k hk (h : k < _) e => by omega)
      have hMP4 := hMP3.keep hk4 hMP3.lt (by omega)
      have hML4 := hML3.keep hk4 hML3.lt (by omega)
      have hk34 := hk3.size
      have hbW4 : Below w1.heap.size w1 (w3.setCell ⟨gm, 2, none⟩ (.int .i64 (rTok b).1)) := hbW3.trans (hk4.mono (S' := (· = gm)) (by omega) (fun _ _ h => h) |>.to_below (fun k hk e => by omega))
      have hk4s := hk4.size
      generalize w3.setCell ⟨gm, 2, none⟩ (.int .i64 (rTok b).1) = w4 at *
      have c40 := hMB4.c0
      have hg4 := hMB4.1.lt
      have HC := creadPairs gm w2.heap.size bp w1.heap.size b (rTok b).2 [] w4 c40 hg4 (by omega) (by omega) (by omega) g2 hM4 hMP4
      clear hM3 hMB3 hMP3 hML3 f2 c2 hbW3 hk4 hk3 hMBa hMPa hMLa
      refine HC.mono ?_
      rintro e w5 ⟨rfl, hM5, hMP5, hk5⟩
      clear HC hM4 hMP4 c40
      change MRd w5 _ _ b (rP b).st at hM5
      change MapIs kS str w5 bp (rP b).L at hMP5
      have hMB5 := hMB4.keep hk5 (Nat.le_refl _) (by omega)
      have hML5 := hML4.keep hk5 hML4.lt (by omega)
      have hk5s := hk5.size
      have hbW5 : Below w1.heap.size w1 w5 := hbW4.trans (hk5.mono (by omega) (fun _ _ h => h) |>.to_below (fun k hk e => by omega))
      go_wp2_with fail
      have hMP5s := hMP5.lt
      have hg5 := hMB5.1.lt
      have htokle : (rTok b).1 ≤ 99999999 := mCount_le b 99999999 _
      have HC := creadLocks gm w2.heap.size bl w1.heap.size (rTok b).1 b (rP b).st w5 htokle hMB5.c1 hMB5.c2 hg5 (by omega) (by omega) (by omega) g3 hM5 hML5
      clear hMB4 hML4 hbW4 hk5
      refine HC.mono ?_
      rintro e w6 ⟨rfl, hM6, ⟨E, hLk6, hpl6, hft6⟩, hk6⟩
      clear HC hM5 hML5
      change MRd w6 _ _ b (rL b).st at hM6
      change plainL E = (rL b).L at hpl6
      have hMB6 := hMB5.keep hk6 (Nat.le_refl _) (by omega)
      have hMP6 := hMP5.keep hk6 hMP5.lt (by omega)
      have hk6s := hk6.size
      have hbW6 : Below w1.heap.size w1 w6 := hbW5.trans (hk6.mono (by omega) (fun _ _ h => h) |>.to_below (fun k hk e => by omega))
      have hok : ∀ p ∈ E, LkOk p.2.lk := by
        intro p hp
        have h1 : (p.1, p.2.lk) ∈ (rL b).L := by rw [← hpl6]; exact List.mem_map.2 ⟨p, hp, rfl⟩
        exact lIter_ok b (rTok b).1 _ ⟨(mCount b 8 (rP b).st).2, [], [], []⟩ (by simp) _ h1
      go_wp2_with fail
      have HC := creadSessions gm w2.heap.size bp bl w1.heap.size (rTok b).1 b (rL b).st (List.replicate 16 zeroSes) E w6 (by omega) g1 hM6 hMB6 hLk6 hok (fun k hk => by rcases hft6 k hk with h | h <;> omega)
      refine HC.mono ?_
      rintro e w7 ⟨rfl, hM7, hMB7, hk7⟩
      clear HC
      have hk7s := hk7.size
      have hMP7 := hMP6.keep hk7 hMP6.lt (by omega)
      have hLk7 := hLk6.keep hk7 (Nat.le_refl _) (fun k hk => by have := hft6 k hk; omega)
      have hbW7 : Below w1.heap.size w1 w7 := hbW6.trans (hk7.mono (by omega) (fun _ _ h => h) |>.to_below (fun k hk e => by omega))
      rw [hpl6] at hM7
      change MRd w7 _ _ b (rSt b) at hM7
      change MachB w7 gm bp bl _ (rS b).ss at hMB7
      clear hM6 hMB6 hMP6 hLk6 hbW6 hk7 hk6 hMB5 hMP5 hbW5 hft6 hok
      go_wp2_with fail
      have HO := Lib.hid (msound w2.heap.size (· < w1.heap.size) b (rSt b) w7 hM7)
      rw [HRI.out] at HO
      clear hM7
      refine HO.out.mono ?_
      rintro e w8 ⟨rfl, m8, rfl⟩
      go_wp2_with fail
      refine bodyPost_ret (v := .tuple #[.pointer none, .int .i64 131]) (by simp [results, Tryd.results24, go_sem]) rfl ?_
      exact ⟨none, rfl, rfl, ((Keep.of_below (S := fun _ => False) hbW7).drewN m8).to_below (fun _ _ h => h)⟩
end Go.Proofs.YtjdageiphebfpaaDoor
