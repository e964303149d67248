/- The walk of wire.TakeInt. -/
import Derived.Test.YtjdageiphebfpaaDoorChecked
import Derived.Test.YtjdageiphebfpaaDoorMBase
import Derived.Deep.QuietTactic
import Derived.BigQuiet
import Derived.Outline
namespace Go.Proofs.YtjdageiphebfpaaDoor
open Go.RowKit
open Pl Mem

theorem tk (A : Option Addr) (n c : Nat) (bs : Bytes) (T : Nat → Prop) (k : Int) (w : World) (hr : Rd w T 1 A n (u8s bs)) (hn : n ≤ 281474976710656) (h0 : 0 ≤ k) (hk : k ≤ n) :
    Calls Tryd.prog 21 #[.slice A n c, .int .i64 k] w fun e w' => e = .returned (.tuple #[.int .i64 (takeInt bs k.toNat).v, .int .i64 (takeInt bs k.toNat).n, .int .i64 (takeInt bs k.toNat).e]) ∧ w' = w := by
  obtain ⟨k, rfl⟩ := Int.eq_ofNat_of_zero_le h0
  rw [Int.toNat_natCast]
  have hk' : k ≤ n := by omega
  have hb := hr.len8
  subst hb
  go_enter Tryd.func21, Tryd.ntmps21
  go_wp2
  go_loop [7, 18] (fun x i => ∃ q v : Nat, q ≤ 9 ∧ v < 128 ^ q ∧ i = .int .i64 q ∧ x = .int .i64 v ∧ Hid (takeInt bs k = tkGo bs k (9 - q) q v)) (fun _ i => 9 - (intOf i).toNat)
  case atStart => exact ⟨0, 0, by omega, by simp, rfl, rfl, rfl⟩
  case round =>
    obtain ⟨q, v, hq, hv, rfl, rfl, H⟩ := hrel
    by_cases h9 : q < 9
    · by_cases hl : k + q < bs.length
      · obtain ⟨ad, rfl, _, _, hc⟩ := hr.byte hl
        have hg : bs[k + q]? = some bs[k + q] := List.getElem?_eq_getElem hl
        generalize bs[k + q] = y at hc hg
        have hx : y.toNat < 256 := y.toNat_lt
        have hE := Ar.tkStep h9 hv hx
        have hlt := step_lt (i := q) (v := v) (c := y.toNat) hv
        have HS : Hid (tkGo bs k (9 - q) q v = if 127 < y.toNat then tkGo bs k (9 - (q + 1)) (q + 1) (v + y.toNat % 128 * 128 ^ q)
      else if (y.toNat = 0 ∧ 0 < q) ∨ 4611686018427387904 < v + y.toNat % 128 * 128 ^ q then .err 14
      else .ok (v + y.toNat % 128 * 128 ^ q) (k + q + 1)) := by
          rw [show 9 - q = (9 - (q + 1)) + 1 from by omega]
          show tkGo bs k ((9 - (q + 1)) + 1) q v = _
          rw [tkGo, hg]
        clear hg
        generalize v + y.toNat % 128 * 128 ^ q = r at hE hlt HS
        generalize y.toNat = x at hE HS hx hc
        have HL : Hid (r < 128 ^ (q + 1)) := hlt
        clear hlt
        by_cases h1 : 127 < x
        · have HF : Hid (takeInt bs k = tkGo bs k (9 - (q + 1)) (q + 1) r) := by rw [H.out, HS.out, if_pos h1]; exact rfl
          go_wp2
          exact ⟨⟨q + 1, r, by omega, HL.out, by go_num, rfl, HF⟩, by simp [intOf]; omega⟩
        · by_cases h2 : x = 0 ∧ 0 < q
          · have HF : Hid (takeInt bs k = .err 14) := by rw [H.out, HS.out, if_neg h1, if_pos (Or.inl h2)]; exact rfl
            have h3 : ((x : Int) == 0) = true := by rw [h2.1]; rfl
            have h4 := h2.2
            clear h2
            go_wp2
            go_ret3
            exact ⟨by rw [HF.out]; rfl, rfl⟩
          · by_cases h4 : 4611686018427387904 < r
            · have HF : Hid (takeInt bs k = .err 14) := by rw [H.out, HS.out, if_neg h1, if_pos (Or.inr h4)]; exact rfl
              go_wp2
              all_goals go_ret3
              all_goals exact ⟨by rw [HF.out]; rfl, rfl⟩
            · have HF : Hid (takeInt bs k = .ok r (k + q + 1)) := by rw [H.out, HS.out, if_neg h1, if_neg (by omega)]; exact rfl
              go_wp2
              all_goals go_ret3
              all_goals refine ⟨?_, rfl⟩
              all_goals (rw [HF.out]; simp [Tk.v, Tk.n, Tk.e] <;> omega)
      · have HF : Hid (takeInt bs k = .err 10) := by
          rw [H.out, show 9 - q = (9 - (q + 1)) + 1 from by omega]
          show tkGo bs k ((9 - (q + 1)) + 1) q v = _
          rw [tkGo, List.getElem?_eq_none (by omega)]
        go_wp2
        go_ret3
        exact ⟨by rw [HF.out]; rfl, rfl⟩
    · have HF : Hid (takeInt bs k = .err 14) := by rw [H.out, show 9 - q = 0 from by omega]; exact rfl
      go_wp2
      go_ret3
      exact ⟨by rw [HF.out]; rfl, rfl⟩
end Go.Proofs.YtjdageiphebfpaaDoor

namespace Go.Proofs.YtjdageiphebfpaaDoor
open Go.RowKit
open Pl Mem

theorem quiet1 {P : Program} {f : FuncId} {args : Array Value} {w : World} {k : Nat} {v : Value}
    (h : Calls P f args (w.drewN k) fun e w' => e = .returned v ∧ w' = w.drewN k) : Calls P f args (w.drewN k) fun e w'' => e = .returned v ∧ ∃ m, w'' = w.drewN m :=
  h.mono fun _ _ ⟨he, hm⟩ => ⟨he, k, hm⟩

/-- A machine's reader at block g: it reads bs, and stands at s. -/
def MRd (w : World) (g : Nat) (T : Nat → Prop) (bs : Bytes) (s : St) : Prop :=
  ¬ T g ∧ s.p ≤ bs.length ∧ bs.length ≤ 281474976710656 ∧ ∃ A c, bs.length ≤ c ∧ Blk w g 85 #[.slice A bs.length c, .int .i64 s.p, .bool s.bad] ∧ Rd w T 1 A bs.length (u8s bs)

theorem MRd.keep {w w' : World} {g B : Nat} {T S : Nat → Prop} {bs : Bytes} {s : St} (h : MRd w g T bs s) (hk : Keep B S w w') (hB : w.heap.size ≤ B) (hg : ¬ S g) (hS : ∀ k, k < w.heap.size → T k → ¬ S k) : MRd w' g T bs s := by
  obtain ⟨h1, h2, h3, A, c, hc, hb, hr⟩ := h
  exact ⟨h1, h2, h3, A, c, hc, hb.keep hk (Nat.lt_of_lt_of_le hb.lt hB) hg, hr.keep hk hB hS⟩
theorem MRd.lt {w : World} {g : Nat} {T : Nat → Prop} {bs : Bytes} {s : St} (h : MRd w g T bs s) : g < w.heap.size := by
  obtain ⟨_, _, _, A, c, _, hb, _⟩ := h
  exact hb.lt

theorem mcount (g : Nat) (T : Nat → Prop) (bs : Bytes) (s : St) (most : Int) (w : World) (h : MRd w g T bs s) (h0 : 0 ≤ most) (hm : most ≤ 9223372036854775807) :
    Calls Tryd.prog 35 #[.pointer (some ⟨g, 0, none⟩), .int .i64 most] w fun e w' =>
      e = .returned (.int .i64 (mCount bs most.toNat s).1) ∧ MRd w' g T bs (mCount bs most.toNat s).2 ∧ Keep w.heap.size (· = g) w w' := by
  obtain ⟨most, rfl⟩ := Int.eq_ofNat_of_zero_le h0
  rw [Int.toNat_natCast]
  obtain ⟨h1, h2, h3, A, c, hcap, hb, hr⟩ := h
  obtain ⟨p, bad⟩ := s
  simp only [] at h2 hb
  have c0 : w.cell? ⟨g, 0, none⟩ = some (.slice A bs.length c) := hb.cell 0
  have c1 : w.cell? ⟨g, 1, none⟩ = some (.int .i64 p) := hb.cell 1
  have c2 : w.cell? ⟨g, 2, none⟩ = some (.bool bad) := hb.cell 2
  have f1 := hb.frozen 1
  have f2 := hb.frozen 2
  have HT := fun (m : Nat) => tk A bs.length c bs T p (w.drewN m) hr h3 (by omega) (by omega)
  have hp := takeInt_good bs p
  unfold mCount
  simp only []
  cases ht : takeInt bs p with
  | err e =>
    simp only [Int.toNat_natCast, ht, Tk.v, Tk.n, Tk.e] at HT
    rw [ht] at hp
    have hp1 : 0 < e := hp.1
    have H := Lib.hid HT
    clear HT ht hp
    have hE : ((e : Int) == 0) = false := by simp; omega
    have hE' : ((e : Int) != 0) = true := by simp; omega
    simp only []
    go_enter Tryd.func35, Tryd.ntmps35
    go_wp2_with fail
    go_quiet ((go_at_call 21; exact quiet1 (H.out _)))
    cases bad
    · go_wp2
      go_ret
      exact ⟨rfl, ⟨h1, h2, h3, A, c, hcap, (hb.drewN nq).set_ 2 _, (hr.drewN nq).setCell (fun _ e => h1 e) _⟩, ((Keep.refl _ _ _).drewN nq).own _ _⟩
    · go_wp2
      go_ret
      exact ⟨rfl, ⟨h1, h2, h3, A, c, hcap, (hb.drewN nq).set_ 2 _, (hr.drewN nq).setCell (fun _ e => h1 e) _⟩, ((Keep.refl _ _ _).drewN nq).own _ _⟩
  | ok v n =>
    simp only [Int.toNat_natCast, ht, Tk.v, Tk.n, Tk.e] at HT
    rw [ht] at hp
    obtain ⟨hv, hn1, hn2⟩ := hp
    have H := Lib.hid HT
    clear HT ht
    simp only []
    cases bad
    · by_cases hmost : most < v
      · rw [if_pos (Or.inr hmost)]
        go_enter Tryd.func35, Tryd.ntmps35
        go_wp2_with fail
        go_quiet ((go_at_call 21; exact quiet1 (H.out _)))
        go_wp2
        go_ret
        exact ⟨rfl, ⟨h1, h2, h3, A, c, hcap, (hb.drewN nq).set_ 2 _, (hr.drewN nq).setCell (fun _ e => h1 e) _⟩, ((Keep.refl _ _ _).drewN nq).own _ _⟩
      · rw [if_neg (by simp; omega)]
        go_enter Tryd.func35, Tryd.ntmps35
        go_wp2_with fail
        go_quiet ((go_at_call 21; exact quiet1 (H.out _)))
        go_wp2
        go_ret
        exact ⟨rfl, ⟨h1, hn2, h3, A, c, hcap, (hb.drewN nq).set_ 1 _, (hr.drewN nq).setCell (fun _ e => h1 e) _⟩, ((Keep.refl _ _ _).drewN nq).own _ _⟩
    · rw [if_pos (Or.inl rfl)]
      go_enter Tryd.func35, Tryd.ntmps35
      go_wp2_with fail
      go_quiet ((go_at_call 21; exact quiet1 (H.out _)))
      go_wp2
      go_ret
      exact ⟨rfl, ⟨h1, h2, h3, A, c, hcap, (hb.drewN nq).set_ 2 _, (hr.drewN nq).setCell (fun _ e => h1 e) _⟩, ((Keep.refl _ _ _).drewN nq).own _ _⟩
end Go.Proofs.YtjdageiphebfpaaDoor

namespace Go.Proofs.YtjdageiphebfpaaDoor
open Go.RowKit
open Pl Mem

/-- A list of bytes as a string. -/
def str (l : Bytes) : Value := .string ⟨l.toArray⟩

theorem foldl_push (l : Bytes) : ∀ a : ByteArray, (l.map fun c => (c.toNat : Int)).foldl (fun r n => r.push (UInt8.ofNat n.toNat)) a = ⟨a.data ++ l.toArray⟩ := by
  induction l with
  | nil => intro a; simp
  | cons c l ih =>
    intro a
    simp only [List.map_cons, List.foldl_cons, ih]
    simp [ByteArray.push]

theorem run_str {P : Program} {src dst e : TypeId} (hs : P.underlying src = some (.slice e)) (he : P.underlying e = some (.int .u8)) (hd : P.underlying dst = some .string) {w : World} {T : Nat → Prop} {A : Option Addr} {n c : Nat} {l : Bytes}
    (h : Rd w T 1 A n (u8s l)) : (convert src dst (.slice A n c)).run P w = .ok (str l) w := by
  rw [run_convert_bytes_string w src dst e A n c hs he hd]
  have hl := h.len8
  cases A with
  | none =>
    have h0 : n = 0 := by
      rcases Nat.eq_zero_or_pos n with h0 | h0
      · exact h0
      · obtain ⟨ad, e, _⟩ := h.2 h0; cases e
    subst h0
    obtain rfl : l = [] := List.eq_nil_of_length_eq_zero hl
    simp [Conv.bytesToString, str]
    rfl
  | some ad =>
    have hc : (loadCells ad n).run P w = .ok ((l.map fun c => (c.toNat : Int)).map (Value.int .u8)).toArray w := by
      have hx := run_loadCells_list (P := P) (w := w) ad (u8s l) (fun j v hv => by
        have hj : j < l.length := by
          rcases Nat.lt_or_ge j (u8s l).length with h1 | h1
          · rw [u8s_len] at h1; exact h1
          · rw [List.getElem?_eq_none h1] at hv; cases hv
        obtain ⟨ad', e, _, _, hcell⟩ := h.2 (by omega)
        cases e
        exact hcell j v hv)
      rw [u8s_len, hl] at hx
      rw [hx]
      congr 2
      simp [u8s, u8]
    rw [run_bytesToString w ad n c _ hc, foldl_push]
    simp [str]

theorem mtext (g : Nat) (T : Nat → Prop) (bs : Bytes) (s : St) (most : Int) (w : World) (h : MRd w g T bs s) (h0 : 0 ≤ most) (hm : most ≤ 9223372036854775807) :
    Calls Tryd.prog 45 #[.pointer (some ⟨g, 0, none⟩), .int .i64 most] w fun e w' =>
      e = .returned (str (mText bs most.toNat s).1) ∧ MRd w' g T bs (mText bs most.toNat s).2 ∧ Keep w.heap.size (· = g) w w' := by
  have HC := Lib.hid (mcount g T bs s most w h h0 hm)
  have hlen := mText_p bs most.toNat s h.2.1
  unfold mText at hlen ⊢
  simp only [] at hlen ⊢
  generalize mCount bs most.toNat s = r at HC hlen ⊢
  obtain ⟨x, p, bad⟩ := r
  simp only [] at hlen HC ⊢
  cases bad
  · by_cases hx : bs.length - p < x
    · rw [if_pos (Or.inr hx)]
      go_enter Tryd.func45, Tryd.ntmps45
      go_wp2_with fail
      refine HC.out.mono ?_
      rintro e w1 ⟨rfl, ⟨h1, h2, h3, A, c, hcap, hb, hr⟩, hk1⟩
      simp only [] at h2 hb
      have c0 : w1.cell? ⟨g, 0, none⟩ = some (.slice A bs.length c) := hb.cell 0
      have c1 : w1.cell? ⟨g, 1, none⟩ = some (.int .i64 p) := hb.cell 1
      have c2 : w1.cell? ⟨g, 2, none⟩ = some (.bool false) := hb.cell 2
      have f1 := hb.frozen 1
      have f2 := hb.frozen 2
      have hxI : (bs.length : Int) - p < x := by omega
      go_wp2_with fail
      go_quiet (fail)
      go_wp2
      go_ret
      exact ⟨rfl, ⟨h1, h2, h3, A, c, hcap, (hb.drewN _).set_ 2 _, (hr.drewN _).setCell (fun _ e => h1 e) _⟩, (hk1.drewN _).own _ _⟩
    · rw [if_neg (by simp; omega)]
      rw [if_neg (by simp; omega)] at hlen
      simp only [] at hlen
      go_enter Tryd.func45, Tryd.ntmps45
      go_wp2_with fail
      refine HC.out.mono ?_
      rintro e w1 ⟨rfl, ⟨h1, h2, h3, A, c, hcap, hb, hr⟩, hk1⟩
      simp only [] at h2 hb
      have c0 : w1.cell? ⟨g, 0, none⟩ = some (.slice A bs.length c) := hb.cell 0
      have c1 : w1.cell? ⟨g, 1, none⟩ = some (.int .i64 p) := hb.cell 1
      have c2 : w1.cell? ⟨g, 2, none⟩ = some (.bool false) := hb.cell 2
      have f1 := hb.frozen 1
      have f2 := hb.frozen 2
      have hcut := hr.sub (p := p) (x := x) (c := c) (by omega) hcap
      have hxI : (x : Int) ≤ (bs.length : Int) - p := by omega
      have HV := Lib.hid fun m : Nat => run_str (P := Tryd.prog) (src := 27) Tryd.underlying27 Tryd.underlying5 Tryd.underlying9 (c := c - p) (hcut.drewN m)
      go_wp2_with fail
      go_quiet (fail)
      go_wp2_with fail
      have hV := HV.out
      have hw1 : IntKind.i64.wrap ((p : Int) + x) = (p : Int) + x := IntWalk.i64_in _ (by omega)
      have hw2 : (0 : Int) ≤ (p : Int) + x := by omega
      have hw3 : ((p : Int) + x).toNat = p + x := by omega
      have hw4 : (p : Int) + x ≤ (c : Int) := by omega
      go_quiet (fail)
      clear hV hw1 hw3
      go_wp2
      all_goals go_ret
      all_goals exact ⟨rfl, ⟨h1, hlen, h3, A, c, hcap, (hb.drewN _).set_ 1 _, (hr.drewN _).setCell (fun _ e => h1 e) _⟩, (hk1.drewN _).own _ _⟩
  · rw [if_pos (Or.inl rfl)]
    · go_enter Tryd.func45, Tryd.ntmps45
      go_wp2_with fail
      refine HC.out.mono ?_
      rintro e w1 ⟨rfl, ⟨h1, h2, h3, A, c, hcap, hb, hr⟩, hk1⟩
      simp only [] at h2 hb
      have c0 : w1.cell? ⟨g, 0, none⟩ = some (.slice A bs.length c) := hb.cell 0
      have c1 : w1.cell? ⟨g, 1, none⟩ = some (.int .i64 p) := hb.cell 1
      have c2 : w1.cell? ⟨g, 2, none⟩ = some (.bool true) := hb.cell 2
      have f1 := hb.frozen 1
      have f2 := hb.frozen 2
      go_wp2_with fail
      go_quiet (fail)
      go_wp2
      go_ret
      exact ⟨rfl, ⟨h1, h2, h3, A, c, hcap, (hb.drewN _).set_ 2 _, (hr.drewN _).setCell (fun _ e => h1 e) _⟩, (hk1.drewN _).own _ _⟩

theorem msound (g : Nat) (T : Nat → Prop) (bs : Bytes) (s : St) (w : World) (h : MRd w g T bs s) :
    Calls Tryd.prog 39 #[.pointer (some ⟨g, 0, none⟩)] w fun e w' => e = .returned (.bool (!s.bad && decide (s.p = bs.length))) ∧ ∃ m, w' = w.drewN m := by
  obtain ⟨h1, h2, h3, A, c, hcap, hb, hr⟩ := h
  obtain ⟨p, bad⟩ := s
  simp only [] at h2 hb ⊢
  have c0 : w.cell? ⟨g, 0, none⟩ = some (.slice A bs.length c) := hb.cell 0
  have c1 : w.cell? ⟨g, 1, none⟩ = some (.int .i64 p) := hb.cell 1
  have c2 : w.cell? ⟨g, 2, none⟩ = some (.bool bad) := hb.cell 2
  cases bad
  · by_cases hp : p = bs.length
    · have hE : ((p : Int) == (bs.length : Int)) = true := by rw [hp]; simp
      have hF : (!false && decide (p = bs.length)) = true := by simp [hp]
      rw [hF]
      clear hp hF
      go_enter Tryd.func39, Tryd.ntmps39
      go_wp2_with fail
      go_quiet (fail)
      go_wp2
      go_ret
      exact ⟨rfl, _, rfl⟩
    · have hE : ((p : Int) == (bs.length : Int)) = false := by simp; omega
      have hF : (!false && decide (p = bs.length)) = false := by simp [hp]
      rw [hF]
      clear hp hF
      go_enter Tryd.func39, Tryd.ntmps39
      go_wp2_with fail
      go_quiet (fail)
      go_wp2
      go_ret
      exact ⟨rfl, _, rfl⟩
  · have hF : (!true && decide (p = bs.length)) = false := rfl
    rw [hF]
    clear hF
    go_enter Tryd.func39, Tryd.ntmps39
    go_wp2_with fail
    go_quiet (fail)
    go_wp2
    go_ret
    exact ⟨rfl, _, rfl⟩
end Go.Proofs.YtjdageiphebfpaaDoor

namespace Go.Proofs.YtjdageiphebfpaaDoor
open Go.RowKit
open Pl Mem

theorem sumStep (v : BitVec 32) : ∃ i n : Nat, i < 16 ∧ n < 4294967296 ∧ n = (nib i).toNat ∧ bits .and .u32 (v.toNat : Int) 15 = (i : Int) ∧ bits .xor .u32 ((v.toNat : Int) / 16) (n : Int) = ((nStep v).toNat : Int) := by
  refine ⟨(v &&& 15#32).toNat, (nib (v &&& 15#32).toNat).toNat, ?_, (nib _).isLt, rfl, ?_, ?_⟩
  · rw [BitVec.toNat_and]
    exact Nat.lt_of_le_of_lt Nat.and_le_right (by decide)
  · exact (Ar.and32 v.toNat 15 v.isLt (by omega)).trans (by rw [BitVec.toNat_and]; rfl)
  · have h := Ar.xor32 (v.toNat / 16) (nib (v &&& 15#32).toNat).toNat (by have := v.isLt; omega) (nib _).isLt
    rw [Int.natCast_ediv] at h
    refine h.trans ?_
    unfold nStep
    rw [BitVec.toNat_xor, BitVec.toNat_ushiftRight, Nat.shiftRight_eq_div_pow]
theorem sumByte (v : BitVec 32) (c : UInt8) : bits .xor .u32 (v.toNat : Int) ((c.toNat : Int) % 4294967296) = ((v ^^^ BitVec.ofNat 32 c.toNat).toNat : Int) := by
  have hc := c.toNat_lt
  have h := Ar.xor32 v.toNat c.toNat v.isLt (by omega)
  rw [show ((c.toNat : Int) % 4294967296) = (c.toNat : Int) from by omega, h, BitVec.toNat_xor, BitVec.toNat_ofNat, Nat.mod_eq_of_lt (by omega)]
theorem sumEnd (bs : Bytes) : wrap64 (bits .xor .u32 IntKind.u32.max (crcS bs : Int)) = (crc bs : Int) := by
  have hx : crcS bs < 4294967296 := (crcN _ bs).isLt
  have h := Ar.xor32 4294967295 (crcS bs) (by omega) hx
  rw [show (IntKind.u32.max : Int) = ((4294967295 : Nat) : Int) from rfl, h]
  have hc := crc_lt bs
  have e : 4294967295 ^^^ crcS bs = crc bs := by
    unfold crc crcS
    rw [← BitVec.xor_allOnes, BitVec.toNat_xor, Nat.xor_comm]
    rfl
  rw [e]
  exact IntWalk.wrap64_in _ ⟨by omega, by omega⟩

theorem csum (A : Option Addr) (c : Nat) (bs : Bytes) (T : Nat → Prop) (w : World) (hr : Rd w T 1 A bs.length (u8s bs)) (hn : bs.length ≤ 281474976710656)
    (hnib : ∀ i : Nat, i < 16 → w.cell? ⟨0, i, none⟩ = some (.int .u32 (nib i).toNat)) :
    Calls Tryd.prog 44 #[.slice A bs.length c] w fun e w' => e = .returned (.int .i64 (crc bs)) ∧ w' = w := by
  have HN := Lib.hid hnib
  have HE := Lib.hid (sumEnd bs)
  clear hnib
  go_enter Tryd.func44, Tryd.ntmps44
  go_wp2
  go_loop [3, 8] (fun x i => ∃ q : Nat, q ≤ bs.length ∧ i = .int .i64 q ∧ x = .int .u32 (crcS (bs.take q))) (fun _ i => bs.length - (intOf i).toNat)
  case atStart => exact ⟨0, by omega, rfl, rfl⟩
  case round =>
    obtain ⟨q, hq, rfl, rfl⟩ := hrel
    by_cases hl : q < bs.length
    · obtain ⟨ad, rfl, _, _, hc⟩ := hr.byte hl
      have hS : Hid (crcS (bs.take (q + 1)) = (nByte (crcN (BitVec.allOnes 32) (bs.take q)) bs[q]).toNat) := by
        show crcS _ = _
        unfold crcS crcN
        rw [List.take_succ_eq_append_getElem hl, List.foldl_append]
        rfl
      unfold crcS
      generalize crcN (BitVec.allOnes 32) (bs.take q) = v at hS
      generalize bs[q] = y at hc hS
      have e1 := sumByte v y
      unfold nByte at hS
      generalize v ^^^ BitVec.ofNat 32 y.toNat = v1 at e1 hS
      obtain ⟨i1, n1, hi1, hn1, hm1, e2, e3⟩ := sumStep v1
      generalize nStep v1 = v2 at e3 hS
      obtain ⟨i2, n2, hi2, hn2, hm2, e4, e5⟩ := sumStep v2
      have k1 := HN.out i1 hi1
      have k2 := HN.out i2 hi2
      rw [← hm1] at k1
      rw [← hm2] at k2
      clear hm1 hm2
      generalize nStep v2 = v3 at e5 hS
      generalize v.toNat = x0 at e1
      generalize y.toNat = x at e1 hc
      generalize v1.toNat = x1 at e1 e2 e3
      generalize v2.toNat = x2 at e3 e4 e5
      generalize v3.toNat = x3 at e5 hS
      go_wp2
      go_round
      case rel => exact ⟨q + 1, by omega, by go_num, by have h := hS.out; unfold crcS at h; rw [h]⟩
      case measure => simp [intOf]; omega
    · obtain rfl : q = bs.length := by omega
      rw [List.take_length]
      generalize crcS bs = x at HE
      have he := HE.out
      go_wp2
      go_ret
      exact ⟨rfl, rfl⟩
end Go.Proofs.YtjdageiphebfpaaDoor

namespace Go.Proofs.YtjdageiphebfpaaDoor
open Go.RowKit
open Pl Mem

theorem Rd.byteD {w : World} {T : Nat → Prop} {A : Option Addr} {n : Nat} {l : List UInt8} (h : Rd w T 1 A n (u8s l)) {k : Nat} (hk : k < l.length) :
    ∃ ad, A = some ad ∧ w.cell? (ad.add k) = some (.int .u8 (l.getD k 0).toNat) := by
  obtain ⟨ad, e, _, _, hc⟩ := h.byte hk
  exact ⟨ad, e, by rw [hc]; simp [List.getD, hk]⟩

theorem sealTest (y s q : Nat) : ((y : Int) != (s : Int) / 2 ^ (8 * q) % 256) = false ↔ y = s / 256 ^ q % 256 := by
  have e : (2 : Int) ^ (8 * q) = ((256 ^ q : Nat) : Int) := by
    rw [Int.natCast_pow, Int.pow_mul]; rfl
  rw [bne_eq_false_iff_eq, e]
  constructor
  · intro h; omega
  · intro h; omega

theorem csum_n (A : Option Addr) (n c : Nat) (bs : Bytes) (T : Nat → Prop) (w : World) (hr : Rd w T 1 A n (u8s bs)) (hn : n ≤ 281474976710656)
    (hnib : ∀ i : Nat, i < 16 → w.cell? ⟨0, i, none⟩ = some (.int .u32 (nib i).toNat)) :
    Calls Tryd.prog 44 #[.slice A n c] w fun e w' => e = .returned (.int .i64 (crc bs)) ∧ w' = w := by
  have hl := hr.len8
  subst hl
  exact csum A c bs T w hr hn hnib

theorem csealed (A : Option Addr) (c : Nat) (bs : Bytes) (T : Nat → Prop) (w : World) (hr : Rd w T 1 A bs.length (u8s bs)) (hn : bs.length ≤ 281474976710656) (hcap : bs.length ≤ c)
    (hnib : ∀ i : Nat, i < 16 → w.cell? ⟨0, i, none⟩ = some (.int .u32 (nib i).toNat)) :
    Calls Tryd.prog 33 #[.slice A bs.length c] w fun e w' => e = .returned (.bool (sealedC bs)) ∧ w' = w := by
  have HN := Lib.hid hnib
  clear hnib
  unfold sealedC
  by_cases h11 : 11 ≤ bs.length
  · rw [decide_eq_true h11]
    obtain ⟨ad, rfl, k0⟩ := Rd.byteD hr (k := 0) (by omega)
    rw [show ad.add 0 = ad from rfl] at k0
    obtain ⟨ad', e', k1⟩ := Rd.byteD hr (k := 1) (by omega)
    cases e'
    rw [show ad.add 1 = ⟨ad.block, ad.off + 1, none⟩ from rfl] at k1
    obtain ⟨ad', e', k2⟩ := Rd.byteD hr (k := 2) (by omega)
    cases e'
    rw [show ad.add 2 = ⟨ad.block, ad.off + 2, none⟩ from rfl] at k2
    generalize (bs.getD 0 0).toNat = x0 at k0 ⊢
    generalize (bs.getD 1 0).toNat = x1 at k1 ⊢
    generalize (bs.getD 2 0).toNat = x2 at k2 ⊢
    by_cases h0 : x0 = 81
    · have h0' : ((x0 : Int) != 81) = false := by simp [h0]
      rw [decide_eq_true h0]; clear h0
      by_cases h1 : x1 = 83
      · have h1' : ((x1 : Int) != 83) = false := by simp [h1]
        rw [decide_eq_true h1]; clear h1
        by_cases h2 : x2 = 1
        · have h2' : ((x2 : Int) != 1) = false := by simp [h2]
          rw [decide_eq_true h2]; clear h2
          go_enter Tryd.func33, Tryd.ntmps33
          go_wp2_with fail
          refine (csum_n _ _ _ (bs.take (bs.length - 4)) T w (hr.take8 (by omega)) (by omega) HN.out).mono ?_
          rintro e w' ⟨rfl, rfl⟩
          have h4 : bs.length - (bs.length - 4) = 4 := by omega
          go_wp2
          go_loop [39] (fun i => ∃ q : Nat, q ≤ 4 ∧ i = .int .i64 q ∧ Hid (sealP bs q)) (fun i => 4 - (intOf i).toNat)
          case atStart => exact ⟨0, by omega, rfl, fun i hi => absurd hi (by omega)⟩
          case round =>
            obtain ⟨q, hq, rfl, HQ⟩ := hrel
            by_cases hl : q < 4
            · obtain ⟨ad', e', kq⟩ := Rd.byteD hr (k := bs.length - 4 + q) (by omega)
              cases e'
              rw [← add_add] at kq
              by_cases hE : (bs.getD (bs.length - 4 + q) 0).toNat = crc (bs.take (bs.length - 4)) / 256 ^ q % 256
              · have hP : Hid (sealP bs (q + 1)) := fun i hi => by
                  by_cases h : i = q
                  · rw [h]; exact hE
                  · exact HQ.out i (by omega)
                have hT := (sealTest _ _ q).2 hE
                clear hE HQ
                generalize crc (bs.take (bs.length - 4)) = s at hT
                generalize (bs.getD (bs.length - 4 + q) 0).toNat = y at kq hT
                go_wp2
                exact ⟨⟨q + 1, by omega, by go_num, hP⟩, by simp [intOf]; omega⟩
              · have hP : Hid (decide (sealP bs 4) = false) := decide_eq_false fun h => hE (h q hl)
                have hT : ((bs.getD (bs.length - 4 + q) 0).toNat != (crc (bs.take (bs.length - 4)) : Int) / 2 ^ (8 * q) % 256) = true := by
                  cases hc : ((bs.getD (bs.length - 4 + q) 0).toNat != (crc (bs.take (bs.length - 4)) : Int) / 2 ^ (8 * q) % 256) with
                  | true => rfl
                  | false => exact absurd ((sealTest _ _ q).1 hc) hE
                clear hE HQ
                generalize crc (bs.take (bs.length - 4)) = s at hT
                generalize (bs.getD (bs.length - 4 + q) 0).toNat = y at kq hT
                go_wp2
                go_ret
                exact ⟨by rw [hP.out]; rfl, rfl⟩
            · obtain rfl : q = 4 := by omega
              have hP : Hid (decide (sealP bs 4) = true) := decide_eq_true HQ.out
              go_wp2
              go_ret
              exact ⟨by rw [hP.out]; rfl, rfl⟩
        · have h2' : ((x2 : Int) != 1) = true := by simp; omega
          rw [decide_eq_false h2]; clear h2
          go_enter Tryd.func33, Tryd.ntmps33
          go_wp2
          go_ret
          exact ⟨by simp, rfl⟩
      · have h1' : ((x1 : Int) != 83) = true := by simp; omega
        rw [decide_eq_false h1]; clear h1
        go_enter Tryd.func33, Tryd.ntmps33
        go_wp2
        go_ret
        exact ⟨by simp, rfl⟩
    · have h0' : ((x0 : Int) != 81) = true := by simp; omega
      rw [decide_eq_false h0]; clear h0
      go_enter Tryd.func33, Tryd.ntmps33
      go_wp2
      go_ret
      exact ⟨by simp, rfl⟩
  · rw [decide_eq_false h11]
    go_enter Tryd.func33, Tryd.ntmps33
    go_wp2
    go_ret
    exact ⟨by simp, rfl⟩
end Go.Proofs.YtjdageiphebfpaaDoor
