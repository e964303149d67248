/- The reference's TakeInt. -/
import Derived.Test.YtjdageiphebfpaaDoorMMach
import Derived.Test.YtjdageiphebfpaaDoorMWords
import Derived.Deep.RegionHeld3
import Derived.Test.YtjdageiphebfpaaDoorMBase
import Derived.Laws.Strings
namespace Go.Proofs.YtjdageiphebfpaaDoor
open Go.RowKit
open Pl Mem

set_option maxRecDepth 100000 in
theorem rtk (A : Option Addr) (n c : Nat) (bs : Bytes) (T : Nat → Prop) (k : Nat) (w : World) (hr : Rd w T 1 A n (u8s bs)) (hn : n ≤ 281474976710656) (hk : k ≤ n) :
    Calls Tryd.prog 26 #[.slice A n c, .int .i64 k] w fun e w' => e = .returned (.tuple #[.int .i64 (takeInt bs k).v, .int .i64 (takeInt bs k).n, .int .i64 (takeInt bs k).e]) ∧ w' = w := by
  have hb := hr.len8
  subst hb
  go_enter Tryd.func26, Tryd.ntmps26
  go_wp2
  go_loop [7, 8, 9] (fun x y i => ∃ q v : Nat, q ≤ 9 ∧ v < 128 ^ q ∧ i = .int .i64 q ∧ x = .int .i64 v ∧ y = .int .i64 ((128 ^ min q 8 : Nat) : Int) ∧ Hid (takeInt bs k = tkGo bs k (9 - q) q v)) (fun _ _ i => 9 - (intOf i).toNat)
  case atStart => exact ⟨0, 0, by omega, by simp, rfl, rfl, rfl, rfl⟩
  case round =>
    obtain ⟨q, v, hq, hv, rfl, rfl, rfl, H⟩ := hrel
    by_cases h9 : q < 9
    · by_cases hl : k + q < bs.length
      · obtain ⟨ad, rfl, _, _, hc⟩ := hr.byte hl
        have hg : bs[k + q]? = some bs[k + q] := List.getElem?_eq_getElem hl
        generalize bs[k + q] = y at hc hg
        have hx : y.toNat < 256 := y.toNat_lt
        have hlt := step_lt (i := q) (v := v) (c := y.toNat) hv
        have HS : Hid (tkGo bs k (9 - q) q v = if 127 < y.toNat then tkGo bs k (9 - (q + 1)) (q + 1) (v + y.toNat % 128 * 128 ^ q)
      else if (y.toNat = 0 ∧ 0 < q) ∨ 4611686018427387904 < v + y.toNat % 128 * 128 ^ q then .err 14
      else .ok (v + y.toNat % 128 * 128 ^ q) (k + q + 1)) := by
          rw [show 9 - q = (9 - (q + 1)) + 1 from by omega]
          show tkGo bs k ((9 - (q + 1)) + 1) q v = _
          rw [tkGo, hg]
        clear hg
        have hm8 : min q 8 = q := by omega
        rw [hm8]
        have hp9 : 128 ^ (q + 1) ≤ 128 ^ 9 := Nat.pow_le_pow_right (by omega) (by omega)
        have hP := Ar.pow128_le h9
        have hps : 128 ^ (q + 1) = 128 ^ q * 128 := Nat.pow_succ ..
        have hPS : Hid (128 ^ (q + 1) = 128 ^ q * 128) := hps
        clear hps hp9
        have hmul : y.toNat % 128 * 128 ^ q ≤ 127 * 128 ^ q := Nat.mul_le_mul_right _ (by omega)
        generalize y.toNat = x at *
        have hmI : ((x : Int) % 128) * ((128 ^ q : Nat) : Int) = ((x % 128 * 128 ^ q : Nat) : Int) := by push_cast; rfl
        have hq7 : q < 8 → 128 ^ q ≤ 562949953421312 := fun h => Nat.le_trans (Nat.pow_le_pow_right (by omega) (show q ≤ 7 by omega)) (by decide)
        have HQ7 := Lib.hid hq7
        clear hq7
        generalize hPq : 128 ^ q = P at *
        have HPQ := Lib.hid hPq
        clear hPq
        generalize x % 128 * P = M at hmI hmul HS hlt
        have HLT := Lib.hid hlt
        clear hlt
        by_cases h1 : 127 < x
        · have H1 := Lib.hid h1
          have h1' : ((x : Int) < 128) = False := by simp; omega
          have HF : Hid (takeInt bs k = tkGo bs k (9 - (q + 1)) (q + 1) (v + M)) := by rw [H.out, HS.out, if_pos h1]; exact rfl
          by_cases h8 : q < 8
          · have hw : wrap64 ((P : Int) * 128) = (P : Int) * 128 := IntWalk.wrap64_in _ (by have := HQ7.out h8; omega)
            go_wp2
            refine ⟨⟨q + 1, v + M, by omega, HLT.out, by go_num, by go_num, ?_, HF⟩, by simp [intOf]; omega⟩
            rw [show min (q + 1) 8 = q + 1 from by omega, hPS.out]
            push_cast
            rw [hw]
          · go_wp2
            refine ⟨⟨q + 1, v + M, by omega, HLT.out, by go_num, by go_num, ?_, HF⟩, by simp [intOf]; omega⟩
            rw [show min (q + 1) 8 = q from by omega, HPQ.out]
        · by_cases h2 : x = 0 ∧ 0 < q
          · have HF : Hid (takeInt bs k = .err 14) := by rw [H.out, HS.out, if_neg h1, if_pos (Or.inl h2)]; exact rfl
            have h4 := h2.2
            obtain ⟨rfl, _⟩ := h2
            go_wp2
            all_goals go_ret3
            all_goals exact ⟨by rw [HF.out]; rfl, rfl⟩
          · by_cases h4 : 4611686018427387904 < v + M
            · have HF : Hid (takeInt bs k = .err 14) := by rw [H.out, HS.out, if_neg h1, if_pos (Or.inr h4)]; exact rfl
              go_wp2
              all_goals go_ret3
              all_goals exact ⟨by rw [HF.out]; rfl, rfl⟩
            · have HF : Hid (takeInt bs k = .ok (v + M) (k + q + 1)) := by rw [H.out, HS.out, if_neg h1, if_neg (by omega)]; exact rfl
              go_wp2
              all_goals go_ret3
              all_goals exact ⟨by rw [HF.out]; simp [Tk.v, Tk.n, Tk.e]; first | done | omega, rfl⟩
      · have HF : Hid (takeInt bs k = .err 10) := by
          rw [H.out, show 9 - q = (9 - (q + 1)) + 1 from by omega, tkGo, List.getElem?_eq_none (by omega)]; exact rfl
        go_wp2
        all_goals go_ret3
        all_goals exact ⟨by rw [HF.out]; rfl, rfl⟩
    · obtain rfl : q = 9 := by omega
      have HF : Hid (takeInt bs k = .err 14) := by rw [H.out]; rfl
      go_wp2
      all_goals go_ret3
      all_goals exact ⟨by rw [HF.out]; rfl, rfl⟩
end Go.Proofs.YtjdageiphebfpaaDoor

namespace Go.Proofs.YtjdageiphebfpaaDoor
open Go.RowKit
open Pl Mem

namespace Pl
def nNum (b : Bytes) (lo hi : Int) (s : St) : Nat × St :=
  if s.bad = true then (0, s) else
  match takeInt b s.p with
  | .err _ => (0, ⟨s.p, true⟩)
  | .ok v n => if lo ≤ v ∧ (v : Int) ≤ hi then (v, ⟨n, false⟩) else (0, ⟨n, true⟩)
def nEnd (b : Bytes) (s : St) : St := ⟨s.p, s.bad || decide (s.p ≠ b.length)⟩
end Pl

/-- A reader of the reference at block g: it reads bs, and stands at s. -/
def NRd (w : World) (g : Nat) (T : Nat → Prop) (bs : Bytes) (s : St) : Prop :=
  ¬ T g ∧ s.p ≤ bs.length ∧ bs.length ≤ 281474976710656 ∧ ∃ A c, ∃ E : Nat, bs.length ≤ c ∧ (s.bad = false ↔ E = 0) ∧ Blk w g 53 #[.slice A bs.length c, .int .i64 s.p, .int .i64 E] ∧ Rd w T 1 A bs.length (u8s bs)

theorem NRd.keep {w w' : World} {g B : Nat} {T S : Nat → Prop} {bs : Bytes} {s : St} (h : NRd w g T bs s) (hk : Keep B S w w') (hB : w.heap.size ≤ B) (hg : ¬ S g) (hS : ∀ k, k < w.heap.size → T k → ¬ S k) : NRd w' g T bs s := by
  obtain ⟨h1, h2, h3, A, c, E, hc, hE, hb, hr⟩ := h
  exact ⟨h1, h2, h3, A, c, E, hc, hE, hb.keep hk (Nat.lt_of_lt_of_le hb.lt hB) hg, hr.keep hk hB hS⟩
theorem NRd.lt {w : World} {g : Nat} {T : Nat → Prop} {bs : Bytes} {s : St} (h : NRd w g T bs s) : g < w.heap.size := by
  obtain ⟨_, _, _, A, c, E, _, _, hb, _⟩ := h
  exact hb.lt

theorem nnum (g : Nat) (T : Nat → Prop) (bs : Bytes) (s : St) (lo hi : Int) (w : World) (h : NRd w g T bs s) :
    Calls Tryd.prog 16 #[.pointer (some ⟨g, 0, none⟩), .int .i64 lo, .int .i64 hi] w fun e w' =>
      e = .returned (.int .i64 (nNum bs lo hi s).1) ∧ NRd w' g T bs (nNum bs lo hi s).2 ∧ Keep w.heap.size (· = g) w w' := by
  obtain ⟨h1, h2, h3, A, c, E, hcap, hE, hb, hr⟩ := h
  obtain ⟨p, bad⟩ := s
  simp only [] at h2 hb hE
  have c0 : w.cell? ⟨g, 0, none⟩ = some (.slice A bs.length c) := hb.cell 0
  have c1 : w.cell? ⟨g, 1, none⟩ = some (.int .i64 p) := hb.cell 1
  have c2 : w.cell? ⟨g, 2, none⟩ = some (.int .i64 E) := hb.cell 2
  have f1 := hb.frozen 1
  have f2 := hb.frozen 2
  unfold nNum
  cases bad with
  | true =>
    rw [if_pos rfl]
    have hE0 : E ≠ 0 := fun e => by have := hE.2 e; cases this
    have hE1 : ((E : Int) != 0) = true := by simp; omega
    go_enter Tryd.func16, Tryd.ntmps16
    go_wp2
    go_ret
    exact ⟨rfl, ⟨h1, h2, h3, A, c, E, hcap, hE, hb, hr⟩, Keep.refl _ _ _⟩
  | false =>
    rw [if_neg (by simp)]
    have hE0 : E = 0 := hE.1 rfl
    subst hE0
    have HT := Lib.hid (fun (m : Nat) => rtk A bs.length c bs T p (w.drewN m) hr h3 (by omega))
    have hp := takeInt_good bs p
    simp only []
    cases ht : takeInt bs p with
    | err e =>
      simp only [ht, Tk.v, Tk.n, Tk.e] at HT
      rw [ht] at hp
      have hp1 : 0 < e := hp.1
      clear ht hp
      simp only []
      go_enter Tryd.func16, Tryd.ntmps16
      have hE' : ((e : Int) != 0) = true := by simp; omega
      go_wp2_with fail
      go_quiet ((go_at_call 26; exact quiet1 (HT.out _)))
      go_wp2
      go_ret
      exact ⟨rfl, ⟨h1, h2, h3, A, c, e, hcap, by simp; omega, (hb.drewN nq).set_ 2 _, (hr.drewN nq).setCell (fun _ e => h1 e) _⟩, ((Keep.refl _ _ _).drewN nq).own 2 _⟩
    | ok v n =>
      simp only [ht, Tk.v, Tk.n, Tk.e] at HT
      rw [ht] at hp
      obtain ⟨hv, hn1, hn2⟩ := hp
      clear ht
      simp only []
      by_cases hlo : lo ≤ v ∧ (v : Int) ≤ hi
      · rw [if_pos hlo]
        obtain ⟨hl1, hl2⟩ := hlo
        go_enter Tryd.func16, Tryd.ntmps16
        go_wp2_with fail
        go_quiet ((go_at_call 26; exact quiet1 (HT.out _)))
        go_wp2
        go_ret
        exact ⟨rfl, ⟨h1, hn2, h3, A, c, 0, hcap, by simp, (hb.drewN nq).set_ 1 _, (hr.drewN nq).setCell (fun _ e => h1 e) _⟩, ((Keep.refl _ _ _).drewN nq).own 1 _⟩
      · rw [if_neg hlo]
        by_cases hl1 : lo ≤ v
        · have hl2 : hi < v := by omega
          clear hlo
          go_enter Tryd.func16, Tryd.ntmps16
          go_wp2_with fail
          go_quiet ((go_at_call 26; exact quiet1 (HT.out _)))
          go_wp2
          go_ret
          exact ⟨rfl, ⟨h1, hn2, h3, A, c, 16, hcap, by simp, ((hb.drewN nq).set_ 1 _).set_ 2 _, ((hr.drewN nq).setCell (fun _ e => h1 e) _).setCell (fun _ e => h1 e) _⟩, (((Keep.refl _ _ _).drewN nq).own 1 _).own 2 _⟩
        · have hl2 : (v : Int) < lo := by omega
          clear hlo
          go_enter Tryd.func16, Tryd.ntmps16
          go_wp2_with fail
          go_quiet ((go_at_call 26; exact quiet1 (HT.out _)))
          go_wp2
          go_ret
          exact ⟨rfl, ⟨h1, hn2, h3, A, c, 16, hcap, by simp, ((hb.drewN nq).set_ 1 _).set_ 2 _, ((hr.drewN nq).setCell (fun _ e => h1 e) _).setCell (fun _ e => h1 e) _⟩, (((Keep.refl _ _ _).drewN nq).own 1 _).own 2 _⟩
end Go.Proofs.YtjdageiphebfpaaDoor

namespace Go.Proofs.YtjdageiphebfpaaDoor
open Go.RowKit
open Pl Mem

theorem nend (g : Nat) (T : Nat → Prop) (bs : Bytes) (s : St) (w : World) (h : NRd w g T bs s) :
    Calls Tryd.prog 19 #[.pointer (some ⟨g, 0, none⟩)] w fun e w' =>
      e = .returned (.tuple #[]) ∧ NRd w' g T bs (nEnd bs s) ∧ Keep w.heap.size (· = g) w w' := by
  obtain ⟨h1, h2, h3, A, c, E, hcap, hE, hb, hr⟩ := h
  obtain ⟨p, bad⟩ := s
  simp only [] at h2 hb hE
  have c0 : w.cell? ⟨g, 0, none⟩ = some (.slice A bs.length c) := hb.cell 0
  have c1 : w.cell? ⟨g, 1, none⟩ = some (.int .i64 p) := hb.cell 1
  have c2 : w.cell? ⟨g, 2, none⟩ = some (.int .i64 E) := hb.cell 2
  have f2 := hb.frozen 2
  unfold nEnd
  cases bad with
  | true =>
    have hE0 : E ≠ 0 := fun e => by have := hE.2 e; cases this
    have hE1 : ((E : Int) == 0) = false := by simp; omega
    go_enter Tryd.func19, Tryd.ntmps19
    go_wp2_with fail
    first | go_quiet (fail) | skip
    go_wp2
    all_goals go_end0
    all_goals exact ⟨rfl, ⟨h1, h2, h3, A, c, E, hcap, by simpa using hE0, hb, hr⟩, by first | exact Keep.refl _ _ _ | exact (Keep.refl _ _ _).drewN _⟩
  | false =>
    have hE0 : E = 0 := hE.1 rfl
    subst hE0
    by_cases hp : p = bs.length
    · have hd : ((p : Int) != bs.length) = false := by simp [hp]
      rw [decide_eq_false (by simp [hp])]
      go_enter Tryd.func19, Tryd.ntmps19
      go_wp2_with fail
      first | go_quiet (fail) | skip
      go_wp2
      all_goals go_end0
      all_goals exact ⟨rfl, ⟨h1, h2, h3, A, c, 0, hcap, by simp, hb, hr⟩, by first | exact Keep.refl _ _ _ | exact (Keep.refl _ _ _).drewN _⟩
    · have hd : ((p : Int) != bs.length) = true := by simp; omega
      rw [decide_eq_true (by simp [hp])]
      go_enter Tryd.func19, Tryd.ntmps19
      go_wp2_with fail
      first | go_quiet (fail) | skip
      go_wp2
      all_goals go_end0
      all_goals exact ⟨rfl, ⟨h1, h2, h3, A, c, 15, hcap, by simp, (hb.drewN _).set_ 2 _, (hr.drewN _).setCell (fun _ e => h1 e) _⟩, ((Keep.refl _ _ _).drewN _).own 2 _⟩
end Go.Proofs.YtjdageiphebfpaaDoor

namespace Go.Proofs.YtjdageiphebfpaaDoor
open Go.RowKit
open Pl Mem

theorem own_slice_ {w : World} {base : Nat} {e : TypeId} {size n : Nat} {v : Value} {xs : List Value} (h : w.ownsRow base e size v n xs) : ∃ A c, v = .slice A n c ∧ n ≤ c := by
  rcases h.2 with ⟨rfl, rfl⟩ | ⟨g, cap, cur, rfl, _, _, hle, _⟩
  · exact ⟨none, 0, rfl, Nat.le_refl _⟩
  · exact ⟨_, cap, rfl, hle⟩
theorem own_lower_ {w : World} {base base' : Nat} {e : TypeId} {size n : Nat} {v : Value} {xs : List Value} (h : w.ownsRow base e size v n xs) (hb : base' ≤ base) : w.ownsRow base' e size v n xs := by
  refine ⟨h.1, ?_⟩
  rcases h.2 with h1 | ⟨g, cap, cur, h1, h2, h3⟩
  · exact .inl h1
  · exact .inr ⟨g, cap, cur, h1, Nat.le_trans hb h2, h3⟩
theorem u8_info2 : (Tryd.prog.info? 5).map (fun i => (i.zero, i.size, i.bytes)) = some (some (.int .u8 0), 1, 1) := by kernel_rfl

set_option maxRecDepth 100000 in
theorem rcopied (A : Option Addr) (n c : Nat) (bs : Bytes) (T : Nat → Prop) (w : World) (hr : Rd w T 1 A n (u8s bs)) (hn : n ≤ 1099511627776) :
    Calls Tryd.prog 27 #[.slice A n c] w fun e w' => ∃ A' c', e = .returned (.slice A' n c') ∧ w'.ownsRow w.heap.size 5 1 (.slice A' n c') n (u8s bs) ∧ Below w.heap.size w w' := by
  obtain ⟨i1, hi1, hz1, hz2, hz3⟩ := info_parts u8_info2
  go_enter Tryd.func27, Tryd.ntmps27
  have hown0 : (w.alloc (.cells #[] 5)).ownsRow w.heap.size 5 1 (.slice (some ⟨w.heap.size, 0, none⟩) 0 0) 0 [] := ⟨rfl, Or.inr ⟨w.heap.size, 0, #[], rfl, Nat.le_refl _, heap_alloc_new w _, Nat.le_refl _, by unfold maxLen; omega, rfl, rfl⟩⟩
  have hr1 := hr.alloc (.cells #[] 5)
  have hb0 : Below w.heap.size w (w.alloc (.cells #[] 5)) := (Below.refl _ _).alloc (Nat.le_refl _) _
  go_wp2_with (
    at_builtin
    refine wpList_append_rd (by rfl) (.tmp 3) (.tmp 4) w.heap.size 27 5 i1 (.int .u8 0) 1 1 (by rfl) Tryd.underlying27 hi1 hz1 hz2 hz3 (by rfl) (by omega) (.slice (some ⟨w.heap.size, 0, none⟩) 0 0) 0 [] (by rfl) hown0 T A n c (u8s bs) (by rfl) hr1 (one_u8s _) (by unfold maxLen; omega) (by omega) (by simp) ?_
    intro vs w4 hown4 hg4 hob4
    rw [Nat.zero_add, List.nil_append] at hown4)
  obtain ⟨A', c', rfl, _⟩ := own_slice_ hown4
  have hk4 := (Keep.of_row hg4).mono (B' := w.heap.size) (S' := fun _ => False) (by simp) (fun k hk e => by simp [Value.ownBlock] at e; omega)
  go_ret
  exact ⟨A', c', rfl, hown4, hb0.trans (hk4.to_below (fun _ _ h => h))⟩
end Go.Proofs.YtjdageiphebfpaaDoor

namespace Go.Proofs.YtjdageiphebfpaaDoor
open Go.RowKit
open Pl Mem

namespace Pl
def nBytes (b : Bytes) (lo hi : Int) (s : St) : Bytes × St :=
  if (nNum b lo hi s).2.bad = true then ([], (nNum b lo hi s).2) else
  if b.length < (nNum b lo hi s).2.p + (nNum b lo hi s).1 then ([], ⟨(nNum b lo hi s).2.p, true⟩) else
  ((b.drop (nNum b lo hi s).2.p).take (nNum b lo hi s).1, ⟨(nNum b lo hi s).2.p + (nNum b lo hi s).1, false⟩)
theorem nNum_le (b : Bytes) (lo hi : Int) (s : St) : (nNum b lo hi s).1 ≤ 4611686018427387904 := by
  unfold nNum
  split
  · simp
  · split
    · simp
    · rename_i v n ht
      split
      · exact (takeInt_ok ht).1
      · simp
end Pl

set_option maxRecDepth 100000 in
theorem nbytes (g : Nat) (T : Nat → Prop) (bs : Bytes) (s : St) (lo hi : Int) (w : World) (hbs : bs.length ≤ 1099511627776) (h : NRd w g T bs s) :
    Calls Tryd.prog 17 #[.pointer (some ⟨g, 0, none⟩), .int .i64 lo, .int .i64 hi] w fun e w' => ∃ A' c',
      e = .returned (.slice A' (nBytes bs lo hi s).1.length c') ∧ w'.ownsRow w.heap.size 5 1 (.slice A' (nBytes bs lo hi s).1.length c') (nBytes bs lo hi s).1.length (u8s (nBytes bs lo hi s).1) ∧ NRd w' g T bs (nBytes bs lo hi s).2 ∧ Keep w.heap.size (· = g) w w' := by
  have HC := Lib.hid (nnum g T bs s lo hi w h)
  have hle := nNum_le bs lo hi s
  unfold nBytes
  generalize nNum bs lo hi s = r at HC hle ⊢
  obtain ⟨x, p, bad⟩ := r
  simp only [] at HC hle ⊢
  cases bad with
  | true =>
    rw [if_pos rfl]
    go_enter Tryd.func17, Tryd.ntmps17
    go_wp2_with fail
    refine HC.out.mono ?_
    rintro e w1 ⟨rfl, hM1, hk1⟩
    have HM := Lib.hid hM1
    obtain ⟨h1, h2, h3, A, c, E, hcap, hE, hb, hr⟩ := hM1
    simp only [] at hE hb
    have c2 : w1.cell? ⟨g, 2, none⟩ = some (.int .i64 E) := hb.cell 2
    have hE0 : E ≠ 0 := fun e => by have := hE.2 e; cases this
    have hE1 : ((E : Int) != 0) = true := by simp; omega
    go_wp2
    go_ret
    exact ⟨none, 0, rfl, ⟨rfl, Or.inl ⟨rfl, rfl⟩⟩, HM.out, hk1⟩
  | false =>
    rw [if_neg (by simp)]
    by_cases hx : bs.length < p + x
    · rw [if_pos hx]
      go_enter Tryd.func17, Tryd.ntmps17
      go_wp2_with fail
      refine HC.out.mono ?_
      rintro e w1 ⟨rfl, hM1, hk1⟩
      obtain ⟨h1, h2, h3, A, c, E, hcap, hE, hb, hr⟩ := hM1
      simp only [] at hE hb h2
      obtain rfl : E = 0 := hE.1 (by trivial)
      have c0 : w1.cell? ⟨g, 0, none⟩ = some (.slice A bs.length c) := hb.cell 0
      have c1 : w1.cell? ⟨g, 1, none⟩ = some (.int .i64 p) := hb.cell 1
      have c2 : w1.cell? ⟨g, 2, none⟩ = some (.int .i64 (0 : Nat)) := hb.cell 2
      have f2 := hb.frozen 2
      have hw1 : IntKind.i64.wrap ((p : Int) + x) = (p : Int) + x := IntWalk.i64_in _ (by omega)
      have hxI : (bs.length : Int) < (p : Int) + x := by omega
      go_wp2_with fail
      go_quiet (fail)
      go_wp2
      go_ret
      exact ⟨none, 0, rfl, ⟨rfl, Or.inl ⟨rfl, rfl⟩⟩, ⟨h1, h2, h3, A, c, 10, hcap, by simp, (hb.drewN _).set_ 2 _, (hr.drewN _).setCell (fun _ e => h1 e) _⟩, (hk1.drewN _).own 2 _⟩
    · rw [if_neg hx]
      have hL : ((bs.drop p).take x).length = x := by rw [List.length_take, List.length_drop]; omega
      rw [hL]
      have HCP := Lib.hid (fun A n c bs T w hr hn => rcopied A n c bs T w hr hn)
      go_enter Tryd.func17, Tryd.ntmps17
      go_wp2_with fail
      refine HC.out.mono ?_
      rintro e w1 ⟨rfl, hM1, hk1⟩
      obtain ⟨h1, h2, h3, A, c, E, hcap, hE, hb, hr⟩ := hM1
      simp only [] at hE hb h2
      obtain rfl : E = 0 := hE.1 (by trivial)
      have c0 : w1.cell? ⟨g, 0, none⟩ = some (.slice A bs.length c) := hb.cell 0
      have c1 : w1.cell? ⟨g, 1, none⟩ = some (.int .i64 p) := hb.cell 1
      have c2 : w1.cell? ⟨g, 2, none⟩ = some (.int .i64 (0 : Nat)) := hb.cell 2
      have f1 := hb.frozen 1
      have hcut := hr.sub (p := p) (x := x) (c := c) (by omega) hcap
      have hw1 : IntKind.i64.wrap ((p : Int) + x) = (p : Int) + x := IntWalk.i64_in _ (by omega)
      have hw2 : (0 : Int) ≤ (p : Int) + x := by omega
      have hw3 : ((p : Int) + x).toNat = p + x := by omega
      have hw4 : (p : Int) + x ≤ (c : Int) := by omega
      have hxI : (p : Int) + x ≤ (bs.length : Int) := by omega
      go_wp2_with fail
      go_quiet (fail)
      go_wp2_with fail
      have hx0 : (w1.drewN nq).cell? ⟨g, 0, none⟩ = some (.slice A bs.length c) := c0
      have hx1 : (w1.drewN nq).cell? ⟨g, 1, none⟩ = some (.int .i64 p) := c1
      by_cases hcp : c = p
      · rw [if_pos hcp] at hcut
        subst hcp
        have hpl : (c : Int) ≤ (c : Int) + x := by omega
        go_region_held3 (fun w' => w'.cell? ⟨g, 0, none⟩ = some (.slice A bs.length c) ∧ w'.cell? ⟨g, 1, none⟩ = some (.int .i64 c))
          (first | exact ⟨c0, c1⟩ | exact ⟨by assumption, by assumption⟩)
          (first
            | (go_at_call 27; (with_reducible refine (HCP.out _ _ _ ((bs.drop c).take x) T _ ?_ ?_).mono ?_); exact hcut; omega; rintro e2 w2 ⟨A2, c2', rfl, hown2, hb2⟩
               have d0 : w2.cell? ⟨g, 0, none⟩ = some (.slice A bs.length c) := ((Keep.of_below (S := fun _ => False) hb2).cell (p := ⟨g, 0, none⟩) hb.lt (fun h => h)).trans c0
               have d1 : w2.cell? ⟨g, 1, none⟩ = some (.int .i64 c) := ((Keep.of_below (S := fun _ => False) hb2).cell (p := ⟨g, 1, none⟩) hb.lt (fun h => h)).trans c1))
        have hk2 := Keep.of_below (S := fun _ => False) hb2
        have f1' : w2.frozen? ⟨g, 1, none⟩ = false := (hk2.frozen (p := ⟨g, 1, none⟩) hb.lt (fun h => h)).trans f1
        have HO := Lib.hid hown2
        clear hown2 hcut
        have hb3 := (hb.drewN (nq + 1)).below hb2 hb.lt
        have hr3 : Rd w2 T 1 A bs.length (u8s bs) := (hr.drewN (nq + 1)).keep hk2 (Nat.le_refl _) (fun _ _ _ h => h)
        have hsz : w.heap.size ≤ w1.heap.size := hk1.size
        have hgs := hb.lt
        have hgw := h.lt
        clear hw1
        go_wp2
        go_ret
        exact ⟨A2, c2', rfl, ownsRow_keep (own_lower_ HO.out hsz) ((Keep.refl w2.heap.size (· = g) w2).own 1 _) (Nat.le_refl _) (fun k hk e => by omega), ⟨h1, by simp only []; omega, h3, A, c, 0, hcap, by simp, hb3.set_ 1 _, hr3.setCell (fun _ e => h1 e) _⟩, ((hk1.drewN (nq + 1)).and hk2 hsz (fun _ _ h => h.elim)).own 1 _⟩
      · rw [if_neg hcp] at hcut
        have hpl : (p : Int) ≤ (p : Int) + x := by omega
        go_region_held3 (fun w' => w'.cell? ⟨g, 0, none⟩ = some (.slice A bs.length c) ∧ w'.cell? ⟨g, 1, none⟩ = some (.int .i64 p))
          (first | exact ⟨c0, c1⟩ | exact ⟨by assumption, by assumption⟩)
          (first
            | (go_at_call 27; (with_reducible refine (HCP.out _ _ _ ((bs.drop p).take x) T _ ?_ ?_).mono ?_); exact hcut; omega; rintro e2 w2 ⟨A2, c2', rfl, hown2, hb2⟩
               have d0 : w2.cell? ⟨g, 0, none⟩ = some (.slice A bs.length c) := ((Keep.of_below (S := fun _ => False) hb2).cell (p := ⟨g, 0, none⟩) hb.lt (fun h => h)).trans c0
               have d1 : w2.cell? ⟨g, 1, none⟩ = some (.int .i64 p) := ((Keep.of_below (S := fun _ => False) hb2).cell (p := ⟨g, 1, none⟩) hb.lt (fun h => h)).trans c1))
        have hk2 := Keep.of_below (S := fun _ => False) hb2
        have f1' : w2.frozen? ⟨g, 1, none⟩ = false := (hk2.frozen (p := ⟨g, 1, none⟩) hb.lt (fun h => h)).trans f1
        have HO := Lib.hid hown2
        clear hown2 hcut
        have hb3 := (hb.drewN (nq + 1)).below hb2 hb.lt
        have hr3 : Rd w2 T 1 A bs.length (u8s bs) := (hr.drewN (nq + 1)).keep hk2 (Nat.le_refl _) (fun _ _ _ h => h)
        have hsz : w.heap.size ≤ w1.heap.size := hk1.size
        have hgs := hb.lt
        have hgw := h.lt
        clear hw1
        go_wp2
        go_ret
        exact ⟨A2, c2', rfl, ownsRow_keep (own_lower_ HO.out hsz) ((Keep.refl w2.heap.size (· = g) w2).own 1 _) (Nat.le_refl _) (fun k hk e => by omega), ⟨h1, by simp only []; omega, h3, A, c, 0, hcap, by simp, hb3.set_ 1 _, hr3.setCell (fun _ e => h1 e) _⟩, ((hk1.drewN (nq + 1)).and hk2 hsz (fun _ _ h => h.elim)).own 1 _⟩
end Go.Proofs.YtjdageiphebfpaaDoor

namespace Go.Proofs.YtjdageiphebfpaaDoor
open Go.RowKit
open Pl Mem

namespace Pl
def nText (b : Bytes) (most : Int) (s : St) : Bytes × St := nBytes b 0 most s
end Pl

set_option maxRecDepth 100000 in
theorem ntext (g : Nat) (T : Nat → Prop) (bs : Bytes) (s : St) (most : Int) (w : World) (hbs : bs.length ≤ 1099511627776) (h : NRd w g T bs s) :
    Calls Tryd.prog 28 #[.pointer (some ⟨g, 0, none⟩), .int .i64 most] w fun e w' =>
      e = .returned (str (nText bs most s).1) ∧ NRd w' g T bs (nText bs most s).2 ∧ Keep w.heap.size (· = g) w w' := by
  have HC := Lib.hid (nbytes g T bs s 0 most w hbs h)
  unfold nText
  generalize nBytes bs 0 most s = r at HC ⊢
  obtain ⟨x, s'⟩ := r
  simp only [] at HC ⊢
  go_enter Tryd.func28, Tryd.ntmps28
  go_wp2_with fail
  refine HC.out.mono ?_
  rintro e w1 ⟨A, c, rfl, hown, hN, hk⟩
  have hV := run_str (P := Tryd.prog) (src := 27) Tryd.underlying27 Tryd.underlying5 Tryd.underlying9 (c := c) (Rd.of_own hown)
  have HN := Lib.hid hN
  clear hown hN
  go_wp2
  go_ret
  exact ⟨rfl, HN.out, hk⟩

theorem canD_drop {l : Bytes} (hd : dig19 l = true) (k : Nat) {c : UInt8} (hc : l[k]? = some c) (hb : c.toNat < 48 ∨ 57 < c.toNat) : canD l = none := by
  unfold canD
  rw [if_pos hd]
  cases hm : Lib.decFrom 0 l with
  | none => rfl
  | some m =>
    obtain ⟨d, h⟩ := Lib.digit_of_decFrom l 0 m hm k c hc
    unfold Lib.digitVal at h
    rw [if_neg (by omega)] at h
    cases h

def numR (s : Bytes) : Value := .tuple #[.int .i64 ((canN s).getD 0), .bool (canN s).isSome]
theorem canD_no {d : Bytes} (h : ∀ c, d[0]? = some c → c.toNat < 49 ∨ 57 < c.toNat) : canD d = none := by
  unfold canD
  cases d with
  | nil => rfl
  | cons c r =>
    have := h c rfl
    rw [if_neg (by simp [dig19]; omega)]
theorem dig19_yes {d : Bytes} {c : UInt8} (h : d[0]? = some c) (h1 : 49 ≤ c.toNat) (h2 : c.toNat ≤ 57) : dig19 d = true := by
  cases d with
  | nil => cases h
  | cons c' r =>
    obtain rfl := Option.some.inj h
    simp [dig19, h1, h2]
theorem canN_neg {l : Bytes} {c : UInt8} (h8 : l.length ≤ 8) (hn : l ≠ [48]) (h : l[0]? = some c) (hc : c.toNat = 45) : canN l = (canD (l.drop 1)).map (fun (m : Nat) => -(m : Int)) := by
  cases l with
  | nil => cases h
  | cons c' r =>
    obtain rfl := Option.some.inj h
    unfold canN
    rw [if_neg (by simp at h8 ⊢; omega), if_neg hn]
    simp [hc]
theorem canN_pos {l : Bytes} {c : UInt8} (h8 : l.length ≤ 8) (hn : l ≠ [48]) (h : l[0]? = some c) (hc : c.toNat ≠ 45) : canN l = (canD (l.drop 0)).map (fun (m : Nat) => (m : Int)) := by
  cases l with
  | nil => cases h
  | cons c' r =>
    obtain rfl := Option.some.inj h
    unfold canN
    rw [if_neg (by simp at h8 ⊢; omega), if_neg hn]
    simp [hc]
theorem ret_num {a a' : Int} {b b' : Bool} (h1 : a = a') (h2 : b = b') : Ending.returned (.tuple #[.int .i64 a, .bool b]) = .returned (.tuple #[.int .i64 a', .bool b']) := by rw [h1, h2]

set_option maxRecDepth 100000 in
set_option maxHeartbeats 1000000 in
theorem nnumber (s : ByteArray) (w : World) :
    Calls Tryd.prog 41 #[.string s] w fun e w' => e = .returned (numR s.data.toList) ∧ w' = w := by
  generalize hl : s.data.toList = l
  have HL := Lib.hid hl
  have hz : s.size = l.length := by rw [← hl]; simp
  have HZ := Lib.hid hz
  have HG : Hid (∀ (k : Nat) (h : k < s.size), l[k]? = some s[k]) := by
    intro k h
    subst hl
    rw [List.getElem?_eq_getElem (by simpa using h)]
    rfl
  clear hl hz
  by_cases h0 : s.size = 0
  · have HF : Hid (numR l = .tuple #[.int .i64 0, .bool false]) := by
      have := HZ.out; unfold numR canN; rw [if_pos (Or.inl (by omega))]; rfl
    clear HG
    go_enter Tryd.func41, Tryd.ntmps41
    go_wp2
    go_ret2
    exact ⟨by rw [HF.out]; rfl, rfl⟩
  by_cases h8 : 8 < s.size
  · have HF : Hid (numR l = .tuple #[.int .i64 0, .bool false]) := by
      have := HZ.out; unfold numR canN; rw [if_pos (Or.inr (by omega))]; rfl
    clear HG
    go_enter Tryd.func41, Tryd.ntmps41
    go_wp2
    all_goals go_ret2
    all_goals exact ⟨by rw [HF.out]; rfl, rfl⟩
  by_cases hs0 : s = ⟨#[48]⟩
  · subst hs0
    have HF : Hid (numR l = .tuple #[.int .i64 0, .bool true]) := by rw [← HL.out]; rfl
    clear HL HZ h0 h8 HG
    go_enter Tryd.func41, Tryd.ntmps41
    go_wp2
    all_goals go_ret2
    all_goals exact ⟨by rw [HF.out]; rfl, rfl⟩
  have h1 : 0 < s.size := by omega
  have h8' : (s.size : Int) ≤ 8 := by omega
  have h0' : ((s.size : Int) == 0) = false := by simpa using h0
  have HN48 : Hid (l ≠ [48]) := by
    intro e
    apply hs0
    have e2 := HL.out.trans e
    cases s with
    | mk d => simp at e2; rw [ByteArray.mk.injEq]; exact Array.ext' (by simpa using e2)
  have hT1 : (s.toList == [48]) = false := by
    rw [ByteArray.toList_eq, HL.out]
    simpa using HN48.out
  clear h0 h8 hs0 HL
  by_cases hm : (s[0]'h1).toNat = 45
  · skip
    have hcan : Hid (canN l = (canD (l.drop 1)).map (fun (m : Nat) => -(m : Int))) := canN_neg (by rw [← HZ.out]; omega) HN48.out (HG.out 0 h1) hm
    have hn : (((s[0]'h1).toNat : Int) == 45) = true := by simp; omega
    by_cases hi : 1 < s.size
    · by_cases hb : 49 ≤ (s[1]'hi).toNat ∧ (s[1]'hi).toNat ≤ 57
      · obtain ⟨hb1, hb2⟩ := hb
        have HD : Hid (dig19 (l.drop 1) = true) := dig19_yes (by rw [List.getElem?_drop]; exact HG.out 1 hi) hb1 hb2
        have hb1' : (49 : Int) ≤ (s[1]'hi).toNat := by omega
        have hb2' : ((s[1]'hi).toNat : Int) ≤ 57 := by omega
        have hi' : (1 : Int) < s.size := by omega
        go_enter Tryd.func41, Tryd.ntmps41
        go_wp2
        go_loop [5, 6] (fun x i => ∃ k v : Nat, 1 ≤ k ∧ k ≤ s.size ∧ v < 10 ^ (k - 1) ∧ i = .int .i64 k ∧ x = .int .i64 v ∧ Hid (Lib.decFrom 0 ((l.drop 1).take (k - 1)) = some v)) (fun _ i => s.size - (intOf i).toNat)
        case atStart => exact ⟨1, 0, Nat.le_refl _, by omega, by simp, rfl, rfl, by simp [Hid, Lib.decFrom]⟩
        case round =>
          obtain ⟨k, v, hk1, hk2, hv, rfl, rfl, H⟩ := hrel
          have hv8 : v < 100000000 := Nat.lt_of_lt_of_le hv (Nat.pow_le_pow_right (n := 10) (by omega) (show k - 1 ≤ 8 by omega))
          have HV := Lib.hid hv
          clear hv
          by_cases hlt : k < s.size
          · have hg := HG.out k hlt
            have HG' : Hid ((l.drop 1)[k - 1]? = some s[k]) := by show (l.drop 1)[k - 1]? = _; rw [List.getElem?_drop, show 1 + (k - 1) = k by omega]; exact hg
            clear hg
            by_cases hd : (s[k]'hlt).toNat < 48 ∨ 57 < (s[k]'hlt).toNat
            · have HF : Hid (canN l = none) := by show canN l = none; rw [hcan.out, canD_drop HD.out _ HG'.out hd]; rfl
              rcases hd with hd | hd
              · have hd' : ((s[k]'hlt).toNat : Int) < 48 := by omega
                go_wp2
                all_goals go_ret2
                all_goals exact ⟨by unfold numR; rw [HF.out]; rfl, rfl⟩
              · have hd' : (57 : Int) < ((s[k]'hlt).toNat : Int) := by omega
                go_wp2
                all_goals go_ret2
                all_goals exact ⟨by unfold numR; rw [HF.out]; rfl, rfl⟩
            · have hd1 : (48 : Int) ≤ ((s[k]'hlt).toNat : Int) := by omega
              have hd2 : ((s[k]'hlt).toNat : Int) ≤ 57 := by omega
              have HF : Hid (Lib.decFrom 0 ((l.drop 1).take (k + 1 - 1)) = some (v * 10 + ((s[k]'hlt).toNat - 48))) := by
                show Lib.decFrom 0 _ = _
                rw [show k + 1 - 1 = (k - 1) + 1 by omega]
                exact Lib.decFrom_take _ _ _ _ _ _ H.out HG'.out (by unfold Lib.digitVal; rw [if_pos (by omega)])
              have HV' : Hid (v * 10 + ((s[k]'hlt).toNat - 48) < 10 ^ (k + 1 - 1)) := by
                have := HV.out
                show _ < 10 ^ (k + 1 - 1)
                rw [show k + 1 - 1 = (k - 1) + 1 by omega, Nat.pow_succ]; omega
              go_wp2
              go_round
              case rel => exact ⟨k + 1, v * 10 + ((s[k]'hlt).toNat - 48), by omega, by omega, HV'.out, by go_num, by go_num, HF⟩
              case measure => simp [intOf]; omega
          · have HF : Hid (canN l = some (-(v : Int))) := by
              show canN l = _
              rw [hcan.out]
              unfold canD
              rw [if_pos HD.out]
              have := H.out
              rw [List.take_of_length_le (by rw [List.length_drop, ← HZ.out]; omega)] at this
              rw [this]; rfl
            obtain rfl : k = s.size := by omega
            go_wp2
            all_goals go_ret2
            all_goals exact ⟨by unfold numR; rw [HF.out]; first | rfl | (simp; omega), rfl⟩
      · have HF : Hid (canN l = none) := by
          show canN l = none
          rw [hcan.out, canD_no (fun c hc => by rw [List.getElem?_drop, Nat.add_zero, HG.out 1 hi] at hc; obtain rfl := Option.some.inj hc; omega)]; rfl
        by_cases hb1 : 49 ≤ (s[1]'hi).toNat
        · have hb2 : (57 : Int) < ((s[1]'hi).toNat : Int) := by omega
          have hb1' : (49 : Int) ≤ (s[1]'hi).toNat := by omega
          clear hb
          have hi' : (1 : Int) < s.size := by omega
          go_enter Tryd.func41, Tryd.ntmps41
          go_wp2
          all_goals go_ret2
          all_goals exact ⟨by unfold numR; rw [HF.out]; rfl, rfl⟩
        · have hb2 : ((s[1]'hi).toNat : Int) < 49 := by omega
          clear hb
          have hi' : (1 : Int) < s.size := by omega
          go_enter Tryd.func41, Tryd.ntmps41
          go_wp2
          all_goals go_ret2
          all_goals exact ⟨by unfold numR; rw [HF.out]; rfl, rfl⟩
    · have HF : Hid (canN l = none) := by
        show canN l = none
        rw [hcan.out, canD_no (fun c hc => by rw [List.getElem?_drop, List.getElem?_eq_none (by rw [← HZ.out]; omega)] at hc; cases hc)]; rfl
      have hi' : (s.size : Int) ≤ 1 := by omega
      clear hi
      go_enter Tryd.func41, Tryd.ntmps41
      go_wp2
      all_goals go_ret2
      all_goals exact ⟨by unfold numR; rw [HF.out]; rfl, rfl⟩
  · skip
    have hcan : Hid (canN l = (canD (l.drop 0)).map (fun (m : Nat) => (m : Int))) := canN_pos (by rw [← HZ.out]; omega) HN48.out (HG.out 0 h1) hm
    have hn : (((s[0]'h1).toNat : Int) == 45) = false := by simp; omega
    have hne : ¬ s = ByteArray.empty := by rintro rfl; simp at h1
    by_cases hi : 0 < s.size
    · by_cases hb : 49 ≤ (s[0]'hi).toNat ∧ (s[0]'hi).toNat ≤ 57
      · obtain ⟨hb1, hb2⟩ := hb
        have HD : Hid (dig19 (l.drop 0) = true) := dig19_yes (by rw [List.getElem?_drop]; exact HG.out 0 hi) hb1 hb2
        have hb1' : (49 : Int) ≤ (s[0]'hi).toNat := by omega
        have hb2' : ((s[0]'hi).toNat : Int) ≤ 57 := by omega
        skip
        go_enter Tryd.func41, Tryd.ntmps41
        go_wp2
        go_loop [5, 6] (fun x i => ∃ k v : Nat, 0 ≤ k ∧ k ≤ s.size ∧ v < 10 ^ (k - 0) ∧ i = .int .i64 k ∧ x = .int .i64 v ∧ Hid (Lib.decFrom 0 ((l.drop 0).take (k - 0)) = some v)) (fun _ i => s.size - (intOf i).toNat)
        case atStart => exact ⟨0, 0, Nat.le_refl _, by omega, by simp, rfl, rfl, by simp [Hid, Lib.decFrom]⟩
        case round =>
          obtain ⟨k, v, hk1, hk2, hv, rfl, rfl, H⟩ := hrel
          have hv8 : v < 100000000 := Nat.lt_of_lt_of_le hv (Nat.pow_le_pow_right (n := 10) (by omega) (show k - 0 ≤ 8 by omega))
          have HV := Lib.hid hv
          clear hv
          by_cases hlt : k < s.size
          · have hg := HG.out k hlt
            have HG' : Hid ((l.drop 0)[k - 0]? = some s[k]) := by show (l.drop 0)[k - 0]? = _; rw [List.getElem?_drop, show 0 + (k - 0) = k by omega]; exact hg
            clear hg
            by_cases hd : (s[k]'hlt).toNat < 48 ∨ 57 < (s[k]'hlt).toNat
            · have HF : Hid (canN l = none) := by show canN l = none; rw [hcan.out, canD_drop HD.out _ HG'.out hd]; rfl
              rcases hd with hd | hd
              · have hd' : ((s[k]'hlt).toNat : Int) < 48 := by omega
                go_wp2
                all_goals go_ret2
                all_goals exact ⟨by unfold numR; rw [HF.out]; rfl, rfl⟩
              · have hd' : (57 : Int) < ((s[k]'hlt).toNat : Int) := by omega
                go_wp2
                all_goals go_ret2
                all_goals exact ⟨by unfold numR; rw [HF.out]; rfl, rfl⟩
            · have hd1 : (48 : Int) ≤ ((s[k]'hlt).toNat : Int) := by omega
              have hd2 : ((s[k]'hlt).toNat : Int) ≤ 57 := by omega
              have HF : Hid (Lib.decFrom 0 ((l.drop 0).take (k + 1 - 0)) = some (v * 10 + ((s[k]'hlt).toNat - 48))) := by
                show Lib.decFrom 0 _ = _
                rw [show k + 1 - 0 = (k - 0) + 1 by omega]
                exact Lib.decFrom_take _ _ _ _ _ _ H.out HG'.out (by unfold Lib.digitVal; rw [if_pos (by omega)])
              have HV' : Hid (v * 10 + ((s[k]'hlt).toNat - 48) < 10 ^ (k + 1 - 0)) := by
                have := HV.out
                show _ < 10 ^ (k + 1 - 0)
                rw [show k + 1 - 0 = (k - 0) + 1 by omega, Nat.pow_succ]; omega
              go_wp2
              go_round
              case rel => exact ⟨k + 1, v * 10 + ((s[k]'hlt).toNat - 48), by omega, by omega, HV'.out, by go_num, by go_num, HF⟩
              case measure => simp [intOf]; omega
          · have HF : Hid (canN l = some ((v : Int))) := by
              show canN l = _
              rw [hcan.out]
              unfold canD
              rw [if_pos HD.out]
              have := H.out
              rw [List.take_of_length_le (by rw [List.length_drop, ← HZ.out]; omega)] at this
              rw [this]; rfl
            obtain rfl : k = s.size := by omega
            go_wp2
            all_goals go_ret2
            all_goals exact ⟨by unfold numR; rw [HF.out]; first | rfl | (simp; omega), rfl⟩
      · have HF : Hid (canN l = none) := by
          show canN l = none
          rw [hcan.out, canD_no (fun c hc => by rw [List.getElem?_drop, Nat.add_zero, HG.out 0 hi] at hc; obtain rfl := Option.some.inj hc; omega)]; rfl
        by_cases hb1 : 49 ≤ (s[0]'hi).toNat
        · have hb2 : (57 : Int) < ((s[0]'hi).toNat : Int) := by omega
          have hb1' : (49 : Int) ≤ (s[0]'hi).toNat := by omega
          clear hb
          skip
          go_enter Tryd.func41, Tryd.ntmps41
          go_wp2
          all_goals go_ret2
          all_goals exact ⟨by unfold numR; rw [HF.out]; rfl, rfl⟩
        · have hb2 : ((s[0]'hi).toNat : Int) < 49 := by omega
          clear hb
          skip
          go_enter Tryd.func41, Tryd.ntmps41
          go_wp2
          all_goals go_ret2
          all_goals exact ⟨by unfold numR; rw [HF.out]; rfl, rfl⟩
    · exact absurd h1 hi
end Go.Proofs.YtjdageiphebfpaaDoor

namespace Go.Proofs.YtjdageiphebfpaaDoor
namespace Pl
open Go
def eC1 (b : Bytes) : Nat × St := nNum b 0 15 ⟨0, false⟩
def eC2 (b : Bytes) : Nat × St := nNum b 1 4611686018427387904 (eC1 b).2
def eC3 (b : Bytes) : Nat × St := nNum b 1 4611686018427387904 (eC2 b).2
def eC4 (b : Bytes) : Nat × St := nNum b 1 9 (eC3 b).2
def eT1 (b : Bytes) : Bytes × St := nText b 8 (eC4 b).2
def eT2 (b : Bytes) : Bytes × St := nText b 8 (eT1 b).2
def eT3 (b : Bytes) : Bytes × St := nText b 8 (eT2 b).2
def eE (b : Bytes) : St := nEnd b (eT3 b).2
def eCmd (b : Bytes) : Cmd := ⟨(eC1 b).1, (eC2 b).1, (eC3 b).1, (eC4 b).1, (eT1 b).1, (eT2 b).1, (eT3 b).1⟩
def eOk (b : Bytes) : Bool := !(eE b).bad && validC (eCmd b)
def eV (b : Bytes) : Cmd := if eOk b = true then eCmd b else zeroCmd
def eEr (b : Bytes) : Nat := if eOk b = true then 0 else 130

theorem nNum_hi (b : Bytes) (lo hi : Int) (s : St) (h : 0 ≤ hi) : ((nNum b lo hi s).1 : Int) ≤ hi := by
  unfold nNum
  split
  · simpa using h
  · split
    · simpa using h
    · split
      · simp only []; omega
      · simpa using h

/-! ### a snapshot's inside -/
structure FP where
  st : St
  ps : List (Bytes × Bytes)
def fTok (b : Bytes) : Nat × St := nNum b 0 99999999 ⟨3, false⟩
def fN1 (b : Bytes) : Nat × St := nNum b 0 16 (fTok b).2
def fpK (b : Bytes) (x : FP) : Bytes × St := nBytes b 1 8 x.st
def fpV (b : Bytes) (x : FP) : Bytes × St := nText b 8 (fpK b x).2
def fpStep (b : Bytes) (x : FP) : FP := ⟨(fpV b x).2, x.ps ++ [((fpK b x).1, (fpV b x).1)]⟩
def fpIter (b : Bytes) : Nat → FP → FP
  | 0, x => x
  | q + 1, x => fpStep b (fpIter b q x)
def fP (b : Bytes) : FP := fpIter b (fN1 b).1 ⟨(fN1 b).2, []⟩
def fN2 (b : Bytes) : Nat × St := nNum b 0 8 (fP b).st

/-- A lock. -/
structure Hk where
  name : Bytes
  holder : Int
  token : Int
  queue : List Int
structure FQ where
  st : St
  q : List Int
def fqStep (b : Bytes) (x : FQ) : FQ := ⟨(nNum b 0 15 x.st).2, x.q ++ [((nNum b 0 15 x.st).1 : Int)]⟩
def fqIter (b : Bytes) : Nat → FQ → FQ
  | 0, x => x
  | q + 1, x => fqStep b (fqIter b q x)
structure FL where
  st : St
  hs : List Hk
def flName (b : Bytes) (s : St) : Bytes × St := nBytes b 1 8 s
def flHold (b : Bytes) (s : St) : Nat × St := nNum b 0 15 (flName b s).2
def flTok (b : Bytes) (s : St) : Nat × St := nNum b 1 99999999 (flHold b s).2
def flCnt (b : Bytes) (s : St) : Nat × St := nNum b 0 15 (flTok b s).2
def flQ (b : Bytes) (s : St) : FQ := fqIter b (flCnt b s).1 ⟨(flCnt b s).2, []⟩
def flHk (b : Bytes) (s : St) : Hk := ⟨(flName b s).1, (flHold b s).1, (flTok b s).1, (flQ b s).q⟩
def flStep (b : Bytes) (x : FL) : FL := ⟨(flQ b x.st).st, x.hs ++ [flHk b x.st]⟩
def flIter (b : Bytes) : Nat → FL → FL
  | 0, x => x
  | q + 1, x => flStep b (flIter b q x)
def fL (b : Bytes) : FL := flIter b (fN2 b).1 ⟨(fN2 b).2, []⟩
def fN3 (b : Bytes) : Nat × St := nNum b 0 16 (fL b).st

/-- A session, and whether it is there. -/
structure Ak where
  has : Bool
  s : Ses
def zeroAk : Ak := ⟨false, zeroSes⟩
structure FS where
  st : St
  next : Nat
  al : List Ak
def fsQ (b : Bytes) (x : FS) : Nat × St := nNum b x.next 15 x.st
def fsI (b : Bytes) (x : FS) : Nat × St := nNum b 1 4611686018427387904 (fsQ b x).2
def fsR (b : Bytes) (x : FS) : Nat × St := nNum b 1 4611686018427387904 (fsI b x).2
def fsC (b : Bytes) (x : FS) : Nat × St := nNum b 1 11 (fsR b x).2
def fsV (b : Bytes) (x : FS) : Bytes × St := nText b 8 (fsC b x).2
def fsN (b : Bytes) (x : FS) : Nat × St := nNum b 0 99999999 (fsV b x).2
def fsSes (b : Bytes) (x : FS) : Ses := ⟨(fsI b x).1, (fsR b x).1, (fsC b x).1, (fsV b x).1, (fsN b x).1⟩
def fsStep (b : Bytes) (x : FS) : FS := ⟨(fsN b x).2, (fsQ b x).1 + 1, x.al.set (fsQ b x).1 ⟨true, fsSes b x⟩⟩
def fsIter (b : Bytes) : Nat → FS → FS
  | 0, x => x
  | q + 1, x => fsStep b (fsIter b q x)
def fS (b : Bytes) : FS := fsIter b (fN3 b).1 ⟨(fN3 b).2, 0, List.replicate 16 zeroAk⟩

theorem fpIter_len (b : Bytes) (q : Nat) (x : FP) : (fpIter b q x).ps.length = x.ps.length + q := by
  induction q with
  | zero => rfl
  | succ q ih => simp only [fpIter, fpStep, List.length_append, ih, List.length_singleton]; omega
theorem fqIter_len (b : Bytes) (q : Nat) (x : FQ) : (fqIter b q x).q.length = x.q.length + q := by
  induction q with
  | zero => rfl
  | succ q ih => simp only [fqIter, fqStep, List.length_append, ih, List.length_singleton]; omega
theorem flIter_len (b : Bytes) (q : Nat) (x : FL) : (flIter b q x).hs.length = x.hs.length + q := by
  induction q with
  | zero => rfl
  | succ q ih => simp only [flIter, flStep, List.length_append, ih, List.length_singleton]; omega
theorem fsIter_len (b : Bytes) (q : Nat) (x : FS) : (fsIter b q x).al.length = x.al.length := by
  induction q with
  | zero => rfl
  | succ q ih => simp only [fsIter, fsStep, List.length_set, ih]
theorem fsIter_next (b : Bytes) (q : Nat) (x : FS) (h : x.next ≤ 16) : (fsIter b q x).next ≤ 16 := by
  cases q with
  | zero => exact h
  | succ q => have := nNum_hi b (fsIter b q x).next 15 (fsIter b q x).st (by omega); simp only [fsIter, fsStep, fsQ]; omega
end Pl
end Go.Proofs.YtjdageiphebfpaaDoor
