/- The reference's CheckCommand, other operations (printed by wip/gen_ck.py). -/
import Derived.Test.YtjdageiphebfpaaDoorMRf7
namespace Go.Proofs.YtjdageiphebfpaaDoor
open Go.RowKit
open Pl Mem

set_option maxHeartbeats 1000000 in
theorem nck_5 (c : Cmd) (w : World) (h : rangeC c = true) (ho : c.op = 5) : Calls Tryd.prog 29 #[cmdV c] w fun e w' => e = .returned (ckV c) ∧ Below w.heap.size w w' := by
  have HN := Lib.hid fun w' => nnum_str c.val w'
  obtain ⟨cl, inc, req, op, key, val, old⟩ := c
  unfold rangeC at h
  simp only [] at h
  obtain ⟨h1, h2, h3, h4, h5, h6, h7, h8⟩ := of_decide_eq_true h
  clear h
  simp only [] at ho HN
  subst ho
  simp only [cmdV, str]
  go_enter Tryd.func29, Tryd.ntmps29
  go_wp2_with fail
  all_goals refine (HN.out _).mono ?_
  all_goals rintro e w1 ⟨rfl, rfl⟩
  all_goals clear HN
  all_goals go_wp2
  all_goals go_ret
  all_goals first
    | (refine ⟨ckV_yes ?_, (Below.refl _ _).alloc (Nat.le_refl _) _⟩; simp_all [fitsC, keyOk]; done)
    | (refine ⟨ckV_no ?_, (Below.refl _ _).alloc (Nat.le_refl _) _⟩; simp_all [fitsC, keyOk]; done)
    | (refine ⟨ckV_yes ?_, (Below.refl _ _).alloc (Nat.le_refl _) _⟩; simp_all [fitsC, keyOk]; intros; omega)
    | (refine ⟨ckV_no ?_, (Below.refl _ _).alloc (Nat.le_refl _) _⟩; simp_all [fitsC, keyOk]; intros; omega)
    | (exfalso; simp_all; done)
    | (exfalso; simp_all; omega)

set_option maxHeartbeats 1000000 in
theorem nck_8 (c : Cmd) (w : World) (h : rangeC c = true) (ho : c.op = 8) : Calls Tryd.prog 29 #[cmdV c] w fun e w' => e = .returned (ckV c) ∧ Below w.heap.size w w' := by
  have HN := Lib.hid fun w' => nnum_str c.val w'
  obtain ⟨cl, inc, req, op, key, val, old⟩ := c
  unfold rangeC at h
  simp only [] at h
  obtain ⟨h1, h2, h3, h4, h5, h6, h7, h8⟩ := of_decide_eq_true h
  clear h
  simp only [] at ho HN
  subst ho
  simp only [cmdV, str]
  go_enter Tryd.func29, Tryd.ntmps29
  go_wp2_with fail
  all_goals refine (HN.out _).mono ?_
  all_goals rintro e w1 ⟨rfl, rfl⟩
  all_goals clear HN
  all_goals go_wp2
  all_goals go_ret
  all_goals first
    | (refine ⟨ckV_yes ?_, (Below.refl _ _).alloc (Nat.le_refl _) _⟩; simp_all [fitsC, keyOk]; done)
    | (refine ⟨ckV_no ?_, (Below.refl _ _).alloc (Nat.le_refl _) _⟩; simp_all [fitsC, keyOk]; done)
    | (refine ⟨ckV_yes ?_, (Below.refl _ _).alloc (Nat.le_refl _) _⟩; simp_all [fitsC, keyOk]; intros; omega)
    | (refine ⟨ckV_no ?_, (Below.refl _ _).alloc (Nat.le_refl _) _⟩; simp_all [fitsC, keyOk]; intros; omega)
    | (exfalso; simp_all; done)
    | (exfalso; simp_all; omega)

set_option maxHeartbeats 1000000 in
theorem nck_0 (c : Cmd) (w : World) (h : rangeC c = true) (ho : ¬ c.op = 1 ∧ ¬ c.op = 3 ∧ ¬ c.op = 5 ∧ ¬ c.op = 8 ∧ ¬ c.op = 9) : Calls Tryd.prog 29 #[cmdV c] w fun e w' => e = .returned (ckV c) ∧ Below w.heap.size w w' := by
  have HN := Lib.hid fun w' => nnum_str c.val w'
  obtain ⟨cl, inc, req, op, key, val, old⟩ := c
  unfold rangeC at h
  simp only [] at h
  obtain ⟨h1, h2, h3, h4, h5, h6, h7, h8⟩ := of_decide_eq_true h
  clear h
  simp only [] at ho HN
  obtain ⟨o1, o3, o5, o8, o9⟩ := ho
  have p1 : (op == 1) = false := by simpa using o1
  have p3 : (op == 3) = false := by simpa using o3
  have p5 : (op == 5) = false := by simpa using o5
  have p8 : (op == 8) = false := by simpa using o8
  have p9 : (op == 9) = false := by simpa using o9
  simp only [cmdV, str]
  go_enter Tryd.func29, Tryd.ntmps29
  go_wp2_with fail
  all_goals refine (HN.out _).mono ?_
  all_goals rintro e w1 ⟨rfl, rfl⟩
  all_goals clear HN
  all_goals go_wp2
  all_goals go_ret
  all_goals first
    | (refine ⟨ckV_yes ?_, (Below.refl _ _).alloc (Nat.le_refl _) _⟩; simp_all [fitsC, keyOk]; done)
    | (refine ⟨ckV_no ?_, (Below.refl _ _).alloc (Nat.le_refl _) _⟩; simp_all [fitsC, keyOk]; done)
    | (refine ⟨ckV_yes ?_, (Below.refl _ _).alloc (Nat.le_refl _) _⟩; simp_all [fitsC, keyOk]; intros; omega)
    | (refine ⟨ckV_no ?_, (Below.refl _ _).alloc (Nat.le_refl _) _⟩; simp_all [fitsC, keyOk]; intros; omega)
    | (exfalso; simp_all; done)
    | (exfalso; simp_all; omega)

theorem ncheck (c : Cmd) (w : World) : Calls Tryd.prog 29 #[cmdV c] w fun e w' => e = .returned (.int .i64 (if validC c = true then 0 else 130)) ∧ Below w.heap.size w w' := by
  unfold validC
  cases hr : rangeC c with
  | false => exact nck_no c w hr
  | true =>
    by_cases h1 : c.op = 1
    · exact nck_1 c w hr h1
    by_cases h3 : c.op = 3
    · exact nck_3 c w hr h3
    by_cases h5 : c.op = 5
    · exact nck_5 c w hr h5
    by_cases h8 : c.op = 8
    · exact nck_8 c w hr h8
    by_cases h9 : c.op = 9
    · exact nck_9 c w hr h9
    exact nck_0 c w hr ⟨h1, h3, h5, h8, h9⟩
end Go.Proofs.YtjdageiphebfpaaDoor
