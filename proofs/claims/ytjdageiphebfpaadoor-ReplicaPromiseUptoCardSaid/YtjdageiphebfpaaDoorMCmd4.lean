/- The walks of machine.fits (all shapes) and machine.valid. -/
import Derived.Test.YtjdageiphebfpaaDoorMCmd3
namespace Go.Proofs.YtjdageiphebfpaaDoor
open Go.RowKit
open Pl Mem

theorem Env.shape {w : World} (e : Env w) (i : Nat) (h : i < 10) : w.cell? ⟨1, i, none⟩ = some (.int .i64 ([0, 3, 1, 7, 1, 9, 1, 1, 17, 32].getD i 0)) :=
  e.shapes.cell gShapes i h

theorem cfits (c : Cmd) (w : World) (e : Env w) (h1 : 1 ≤ c.op) (h9 : c.op ≤ 9) (hl : c.key.length ≤ 140737488355328) :
    Calls Tryd.prog 48 #[cmdV c] w fun e w' => e = .returned (.bool (fitsC c)) ∧ Below w.heap.size w w' := by
  have hop : ∀ n : Nat, c.op = (n : Int) → n < 10 := fun n h => by omega
  unfold fitsC
  by_cases o1 : c.op = 1
  · rw [if_pos o1]
    cases hk : keyOk c.key with
    | false => exact fits_3_key c 1 w e o1 (by omega) (e.shape 1 (by omega)) hk hl
    | true =>
      by_cases ho : c.old = []
      · rw [ho]; exact fits_3_pass c 1 w e o1 (by omega) (e.shape 1 (by omega)) hk ho hl
      · rw [show c.old.isEmpty = false from by simpa using ho]; exact fits_3_old c 1 w e o1 (by omega) (e.shape 1 (by omega)) hk ho hl
  rw [if_neg o1]
  by_cases o3 : c.op = 3
  · rw [if_pos o3]
    cases hk : keyOk c.key with
    | false => exact fits_7_key c 3 w e o3 (by omega) (e.shape 3 (by omega)) hk hl
    | true =>
      by_cases ho : c.old.length ≤ 8
      · rw [decide_eq_true ho]; exact fits_7_pass c 3 w e o3 (by omega) (e.shape 3 (by omega)) hk ho hl
      · rw [decide_eq_false ho]; exact fits_7_old c 3 w e o3 (by omega) (e.shape 3 (by omega)) hk ho hl
  rw [if_neg o3]
  by_cases o5 : c.op = 5
  · rw [if_pos o5]
    cases hk : keyOk c.key with
    | false => exact fits_9_key c 5 w e o5 (by omega) (e.shape 5 (by omega)) hk hl
    | true =>
      by_cases ho : c.old = []
      · rw [ho]; exact fits_9_pass c 5 w e o5 (by omega) (e.shape 5 (by omega)) hk ho hl
      · rw [show c.old.isEmpty = false from by simpa using ho]; exact fits_9_old c 5 w e o5 (by omega) (e.shape 5 (by omega)) hk ho hl
  rw [if_neg o5]
  by_cases o8 : c.op = 8
  · rw [if_pos o8]
    cases hk : keyOk c.key with
    | false => exact fits_17_key c 8 w e o8 (by omega) (e.shape 8 (by omega)) hk hl
    | true =>
      by_cases ho : c.old = []
      · rw [ho]; exact fits_17_pass c 8 w e o8 (by omega) (e.shape 8 (by omega)) hk ho hl
      · rw [show c.old.isEmpty = false from by simpa using ho]; exact fits_17_old c 8 w e o8 (by omega) (e.shape 8 (by omega)) hk ho hl
  rw [if_neg o8]
  by_cases o9 : c.op = 9
  · rw [if_pos o9]
    by_cases hx : c.key = []
    · by_cases ho : c.old = []
      · rw [hx, ho]; exact fits_32_pass c 9 w e o9 (by omega) (e.shape 9 (by omega)) hx ho hl
      · rw [hx, show c.old.isEmpty = false from by simpa using ho]; exact fits_32_old c 9 w e o9 (by omega) (e.shape 9 (by omega)) hx ho hl
    · rw [show c.key.isEmpty = false from by simpa using hx]
      cases hk : keyOk c.key with
      | true => exact fits_32_key c 9 w e o9 (by omega) (e.shape 9 (by omega)) hk hl
      | false => exact fits_32_keyx c 9 w e o9 (by omega) (e.shape 9 (by omega)) hk hx hl
  rw [if_neg o9]
  have hq : ∃ q : Nat, c.op = (q : Int) ∧ (q = 2 ∨ q = 4 ∨ q = 6 ∨ q = 7) := ⟨c.op.toNat, by omega, by omega⟩
  obtain ⟨q, hq, hq2⟩ := hq
  have hsh : w.cell? ⟨1, q, none⟩ = some (.int .i64 1) := by
    rcases hq2 with rfl | rfl | rfl | rfl
    · exact e.shape 2 (by omega)
    · exact e.shape 4 (by omega)
    · exact e.shape 6 (by omega)
    · exact e.shape 7 (by omega)
  have hq3 : q < 10 := by omega
  cases hk : keyOk c.key with
  | false => exact fits_1_key c q w e hq hq3 hsh hk hl
  | true =>
    by_cases ho : c.old = []
    · rw [ho]; exact fits_1_pass c q w e hq hq3 hsh hk ho hl
    · rw [show c.old.isEmpty = false from by simpa using ho]; exact fits_1_old c q w e hq hq3 hsh hk ho hl

theorem valid_no (c : Cmd) (w : World) (h : rangeC c = false) : Calls Tryd.prog 46 #[cmdV c] w fun e w' => e = .returned (.bool false) ∧ Below w.heap.size w w' := by
  obtain ⟨cl, inc, req, op, key, val, old⟩ := c
  unfold rangeC at h
  simp only [] at h
  have h := of_decide_eq_false h
  simp only [cmdV]
  generalize str key = kv
  generalize str val = vv
  generalize str old = ov
  have HC := Lib.hid fun (x : Int) (w' : World) => ccount x w'
  by_cases c1 : cl < 0
  · clear h
    go_enter Tryd.func46, Tryd.ntmps46
    go_wp2_with (go_at_call 47; refine (HC.out _ _).mono ?_; rintro e w' ⟨rfl, rfl⟩)
    go_ret
    exact ⟨rfl, (Below.refl _ _).alloc (Nat.le_refl _) _⟩
  by_cases c2 : 16 ≤ cl
  · clear h
    go_enter Tryd.func46, Tryd.ntmps46
    go_wp2_with (go_at_call 47; refine (HC.out _ _).mono ?_; rintro e w' ⟨rfl, rfl⟩)
    go_ret
    exact ⟨rfl, (Below.refl _ _).alloc (Nat.le_refl _) _⟩
  by_cases c3 : 1 ≤ inc ∧ inc ≤ 4611686018427387904
  · have d3 := decide_eq_true c3
    by_cases c4 : 1 ≤ req ∧ req ≤ 4611686018427387904
    · have d4 := decide_eq_true c4
      by_cases c5 : op < 1
      · clear h c3 c4
        go_enter Tryd.func46, Tryd.ntmps46
        go_wp2_with (go_at_call 47; refine (HC.out _ _).mono ?_; rintro e w' ⟨rfl, rfl⟩)
        go_ret
        exact ⟨rfl, (Below.refl _ _).alloc (Nat.le_refl _) _⟩
      · have c6 : 10 ≤ op := by omega
        clear h c3 c4
        go_enter Tryd.func46, Tryd.ntmps46
        go_wp2_with (go_at_call 47; refine (HC.out _ _).mono ?_; rintro e w' ⟨rfl, rfl⟩)
        go_ret
        exact ⟨rfl, (Below.refl _ _).alloc (Nat.le_refl _) _⟩
    · have d4 := decide_eq_false c4
      clear h c3 c4
      go_enter Tryd.func46, Tryd.ntmps46
      go_wp2_with (go_at_call 47; refine (HC.out _ _).mono ?_; rintro e w' ⟨rfl, rfl⟩)
      go_ret
      exact ⟨rfl, (Below.refl _ _).alloc (Nat.le_refl _) _⟩
  · have d3 := decide_eq_false c3
    clear h c3
    go_enter Tryd.func46, Tryd.ntmps46
    go_wp2_with (go_at_call 47; refine (HC.out _ _).mono ?_; rintro e w' ⟨rfl, rfl⟩)
    go_ret
    exact ⟨rfl, (Below.refl _ _).alloc (Nat.le_refl _) _⟩

theorem cvalid (c : Cmd) (w : World) (e : Env w) (hl : c.key.length ≤ 140737488355328) :
    Calls Tryd.prog 46 #[cmdV c] w fun e w' => e = .returned (.bool (validC c)) ∧ Below w.heap.size w w' := by
  unfold validC
  cases hr : rangeC c with
  | false => exact valid_no c w hr
  | true =>
    rw [Bool.true_and]
    have HF := Lib.hid fun w' (h : Below w.heap.size w w') => cfits c w' (e.below h e.size)
    unfold rangeC at hr
    have h := of_decide_eq_true hr
    clear hr
    obtain ⟨cl, inc, req, op, key, val, old⟩ := c
    simp only [] at h hl HF
    obtain ⟨c1, c2, c3, c3', c4, c4', c5, c6⟩ := h
    have d3 := decide_eq_true (And.intro c3 c3')
    have d4 := decide_eq_true (And.intro c4 c4')
    have HF2 := Lib.hid fun w' (h : Below w.heap.size w w') => HF.out w' h c5 c6 hl
    clear HF c3 c3' c4 c4' e
    generalize fitsC ⟨cl, inc, req, op, key, val, old⟩ = fb at HF2 ⊢
    simp only [cmdV] at HF2 ⊢
    generalize str key = kv at HF2 ⊢
    generalize str val = vv at HF2 ⊢
    generalize str old = ov at HF2 ⊢
    have HC := Lib.hid fun (x : Int) (w' : World) => ccount x w'
    go_enter Tryd.func46, Tryd.ntmps46
    go_wp2_with (first | (go_at_call 47; refine (HC.out _ _).mono ?_; rintro e w' ⟨rfl, rfl⟩))
    have hb1 : Below w.heap.size w (w.alloc (.cells #[.int .i64 cl, .int .i64 inc, .int .i64 req, .int .i64 op, kv, vv, ov] 57)) := (Below.refl _ _).alloc (Nat.le_refl _) _
    refine (HF2.out _ hb1).mono ?_
    rintro e w2 ⟨rfl, hb2⟩
    have hb3 := hb1.trans (hb2.mono (by simp))
    go_wp2_with fail
    go_ret
    exact ⟨rfl, hb3⟩
end Go.Proofs.YtjdageiphebfpaaDoor
