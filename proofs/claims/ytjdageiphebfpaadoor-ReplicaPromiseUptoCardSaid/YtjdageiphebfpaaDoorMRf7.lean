/- The reference's CheckCommand (printed by wip/gen_ck.py). -/
import Derived.Test.YtjdageiphebfpaaDoorMRf
import Derived.Test.YtjdageiphebfpaaDoorMCmd2
namespace Go.Proofs.YtjdageiphebfpaaDoor
open Go.RowKit
open Pl Mem

theorem nnum_str (s : Bytes) (w : World) : Calls Tryd.prog 41 #[.string ⟨s.toArray⟩] w fun e w' => e = .returned (.tuple #[.int .i64 (if numOk s = true then numN s else 0), .bool (numOk s)]) ∧ w' = w := by
  have h := nnumber ⟨s.toArray⟩ w
  rw [data_str] at h
  have e : numR s = .tuple #[.int .i64 (if numOk s = true then numN s else 0), .bool (numOk s)] := by
    unfold numR
    rw [canN_eq]
    cases numOk s <;> rfl
  rw [e] at h
  exact h

theorem nck_no (c : Cmd) (w : World) (h : rangeC c = false) : Calls Tryd.prog 29 #[cmdV c] w fun e w' => e = .returned (.int .i64 130) ∧ Below w.heap.size w w' := by
  obtain ⟨cl, inc, req, op, key, val, old⟩ := c
  unfold rangeC at h
  simp only [] at h
  have h := of_decide_eq_false h
  simp only [cmdV]
  generalize str key = kv
  generalize str val = vv
  generalize str old = ov
  go_enter Tryd.func29, Tryd.ntmps29
  go_wp2_with fail
  all_goals first
    | (go_ret; exact ⟨rfl, (Below.refl _ _).alloc (Nat.le_refl _) _⟩)
    | (exfalso; omega)

def ckV (c : Cmd) : Value := .int .i64 (if fitsC c = true then 0 else 130)
theorem ckV_yes {c : Cmd} (h : fitsC c = true) : Ending.returned (.int .i64 0) = .returned (ckV c) := by unfold ckV; rw [if_pos h]
theorem ckV_no {c : Cmd} (h : fitsC c = false) : Ending.returned (.int .i64 130) = .returned (ckV c) := by unfold ckV; rw [if_neg (by simp [h])]

set_option maxHeartbeats 1000000 in
theorem nck_1 (c : Cmd) (w : World) (h : rangeC c = true) (ho : c.op = 1) : Calls Tryd.prog 29 #[cmdV c] w fun e w' => e = .returned (ckV c) ∧ Below w.heap.size w w' := by
  have HN := Lib.hid fun w' => nnum_str c.val w'
  obtain ⟨cl, inc, req, op, key, val, old⟩ := c
  unfold rangeC at h
  simp only [] at h
  obtain ⟨h1, h2, h3, h4, h5, h6, h7, h8⟩ := of_decide_eq_true h
  clear h
  simp only [] at ho HN
  subst ho
  simp only [cmdV, str]
  go_enter Tryd.func29, Tryd.ntmps29
  go_wp2_with fail
  all_goals refine (HN.out _).mono ?_
  all_goals rintro e w1 ⟨rfl, rfl⟩
  all_goals clear HN
  all_goals go_wp2
  all_goals go_ret
  all_goals first
    | (refine ⟨ckV_yes ?_, (Below.refl _ _).alloc (Nat.le_refl _) _⟩; simp_all [fitsC, keyOk]; done)
    | (refine ⟨ckV_no ?_, (Below.refl _ _).alloc (Nat.le_refl _) _⟩; simp_all [fitsC, keyOk]; done)
    | (refine ⟨ckV_yes ?_, (Below.refl _ _).alloc (Nat.le_refl _) _⟩; simp_all [fitsC, keyOk]; intros; omega)
    | (refine ⟨ckV_no ?_, (Below.refl _ _).alloc (Nat.le_refl _) _⟩; simp_all [fitsC, keyOk]; intros; omega)
    | (exfalso; simp_all; done)
    | (exfalso; simp_all; omega)

set_option maxHeartbeats 1000000 in
theorem nck_3 (c : Cmd) (w : World) (h : rangeC c = true) (ho : c.op = 3) : Calls Tryd.prog 29 #[cmdV c] w fun e w' => e = .returned (ckV c) ∧ Below w.heap.size w w' := by
  have HN := Lib.hid fun w' => nnum_str c.val w'
  obtain ⟨cl, inc, req, op, key, val, old⟩ := c
  unfold rangeC at h
  simp only [] at h
  obtain ⟨h1, h2, h3, h4, h5, h6, h7, h8⟩ := of_decide_eq_true h
  clear h
  simp only [] at ho HN
  subst ho
  simp only [cmdV, str]
  go_enter Tryd.func29, Tryd.ntmps29
  go_wp2_with fail
  all_goals refine (HN.out _).mono ?_
  all_goals rintro e w1 ⟨rfl, rfl⟩
  all_goals clear HN
  all_goals go_wp2
  all_goals go_ret
  all_goals first
    | (refine ⟨ckV_yes ?_, (Below.refl _ _).alloc (Nat.le_refl _) _⟩; simp_all [fitsC, keyOk]; done)
    | (refine ⟨ckV_no ?_, (Below.refl _ _).alloc (Nat.le_refl _) _⟩; simp_all [fitsC, keyOk]; done)
    | (refine ⟨ckV_yes ?_, (Below.refl _ _).alloc (Nat.le_refl _) _⟩; simp_all [fitsC, keyOk]; intros; omega)
    | (refine ⟨ckV_no ?_, (Below.refl _ _).alloc (Nat.le_refl _) _⟩; simp_all [fitsC, keyOk]; intros; omega)
    | (exfalso; simp_all; done)
    | (exfalso; simp_all; omega)

set_option maxHeartbeats 1000000 in
theorem nck_9 (c : Cmd) (w : World) (h : rangeC c = true) (ho : c.op = 9) : Calls Tryd.prog 29 #[cmdV c] w fun e w' => e = .returned (ckV c) ∧ Below w.heap.size w w' := by
  have HN := Lib.hid fun w' => nnum_str c.val w'
  obtain ⟨cl, inc, req, op, key, val, old⟩ := c
  unfold rangeC at h
  simp only [] at h
  obtain ⟨h1, h2, h3, h4, h5, h6, h7, h8⟩ := of_decide_eq_true h
  clear h
  simp only [] at ho HN
  subst ho
  simp only [cmdV, str]
  go_enter Tryd.func29, Tryd.ntmps29
  go_wp2_with fail
  all_goals refine (HN.out _).mono ?_
  all_goals rintro e w1 ⟨rfl, rfl⟩
  all_goals clear HN
  all_goals go_wp2
  all_goals go_ret
  all_goals first
    | (refine ⟨ckV_yes ?_, (Below.refl _ _).alloc (Nat.le_refl _) _⟩; simp_all [fitsC]; done)
    | (refine ⟨ckV_no ?_, (Below.refl _ _).alloc (Nat.le_refl _) _⟩; simp_all [fitsC]; done)
    | (refine ⟨ckV_yes ?_, (Below.refl _ _).alloc (Nat.le_refl _) _⟩; simp_all [fitsC]; intros; omega)
    | (refine ⟨ckV_no ?_, (Below.refl _ _).alloc (Nat.le_refl _) _⟩; simp_all [fitsC]; intros; omega)
    | (exfalso; simp_all; done)
    | (exfalso; simp_all; omega)

end Go.Proofs.YtjdageiphebfpaaDoor
