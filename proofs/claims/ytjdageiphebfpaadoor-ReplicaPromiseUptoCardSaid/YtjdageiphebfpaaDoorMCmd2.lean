/- The walks of machine.fits, one for each shape (printed by wip/gen_fits.py). -/
import Derived.Test.YtjdageiphebfpaaDoorMCmd1
namespace Go.Proofs.YtjdageiphebfpaaDoor
open Go.RowKit
open Pl Mem

def cmdV (c : Cmd) : Value := .agg #[.int .i64 c.client, .int .i64 c.inc, .int .i64 c.req, .int .i64 c.op, str c.key, str c.val, str c.old]

/-- Has a shape this part? -/
def hasB (sh wh : Int) : Bool := bits .and .i64 sh wh != 0

theorem chas (a : Addr) (sh wh : Int) (w : World) (hc : w.cell? a = some (.int .i64 sh)) : Calls Tryd.prog 49 #[.int .i64 wh, .pointer (some a)] w fun e w' => e = .returned (.bool (hasB sh wh)) ∧ w' = w := by
  unfold hasB
  go_enter Tryd.func49, Tryd.ntmps49
  go_wp2
  go_ret
  exact ⟨rfl, rfl⟩

theorem fits_3_key (c : Cmd) (q : Nat) (w : World) (e : Env w) (hq : c.op = q) (hq2 : q < 10) (hsh : w.cell? ⟨1, q, none⟩ = some (.int .i64 3)) (hk : keyOk c.key = false) (hl : c.key.length ≤ 140737488355328) :
    Calls Tryd.prog 48 #[cmdV c] w fun e w' => e = .returned (.bool (false)) ∧ Below w.heap.size w w' := by
  obtain ⟨cl, inc, req, op, key, val, old⟩ := c
  simp only [] at hq hk hl ⊢
  subst hq
  have HK := Lib.hid fun w' => cisKey key w' hl
  have hsz := e.size
  have hsh' := fun o => (World.cell?_alloc_lt w o ⟨1, q, none⟩ (by show 1 < w.heap.size; omega)).trans hsh
  clear hsh
  have b1 : hasB 3 1 = true := rfl
  simp only [cmdV, str] at HK ⊢
  clear hl e
  go_enter Tryd.func48, Tryd.ntmps48
  go_wp2_with fail
  obtain ⟨W, hW, hW1, hW2, hW3, _⟩ := two_new w 57 #[.int .i64 cl, .int .i64 inc, .int .i64 req, .int .i64 q, .string ⟨key.toArray⟩, .string ⟨val.toArray⟩, .string ⟨old.toArray⟩] 3 #[.int .i64 3]
  rw [← hW]
  clear hW
  have d4 : W.cell? ⟨w.heap.size, 4, none⟩ = some (.string ⟨key.toArray⟩) := hW2.cell 4
  have d5 : W.cell? ⟨w.heap.size, 5, none⟩ = some (.string ⟨val.toArray⟩) := hW2.cell 5
  have d6 : W.cell? ⟨w.heap.size, 6, none⟩ = some (.string ⟨old.toArray⟩) := hW2.cell 6
  have HH := Lib.hid fun (x : Int) (n : Nat) => chas ⟨w.heap.size + 1, 0, none⟩ 3 x (W.drewN n) ((hW3.drewN n).cell 0)
  go_quiet (first | (go_at_call 49; exact quiet1 (HH.out _ _)) | (go_at_call 50; exact quiet1 (HK.out _)))
  go_wp2
  all_goals go_ret
  all_goals exact ⟨rfl, below_drewN hW1 _⟩

theorem fits_3_old (c : Cmd) (q : Nat) (w : World) (e : Env w) (hq : c.op = q) (hq2 : q < 10) (hsh : w.cell? ⟨1, q, none⟩ = some (.int .i64 3)) (hk : keyOk c.key = true) (ho : c.old ≠ []) (hl : c.key.length ≤ 140737488355328) :
    Calls Tryd.prog 48 #[cmdV c] w fun e w' => e = .returned (.bool (false)) ∧ Below w.heap.size w w' := by
  obtain ⟨cl, inc, req, op, key, val, old⟩ := c
  simp only [] at hq hk ho hl ⊢
  subst hq
  have ho1 : old.isEmpty = false := by simpa using ho
  have ho2 : (old == []) = false := by simpa using ho
  clear ho
  have HK := Lib.hid fun w' => cisKey key w' hl
  have hsz := e.size
  have hsh' := fun o => (World.cell?_alloc_lt w o ⟨1, q, none⟩ (by show 1 < w.heap.size; omega)).trans hsh
  clear hsh
  have b1 : hasB 3 1 = true := rfl
  have b4 : hasB 3 4 = false := rfl
  simp only [cmdV, str] at HK ⊢
  clear hl e
  go_enter Tryd.func48, Tryd.ntmps48
  go_wp2_with fail
  obtain ⟨W, hW, hW1, hW2, hW3, _⟩ := two_new w 57 #[.int .i64 cl, .int .i64 inc, .int .i64 req, .int .i64 q, .string ⟨key.toArray⟩, .string ⟨val.toArray⟩, .string ⟨old.toArray⟩] 3 #[.int .i64 3]
  rw [← hW]
  clear hW
  have d4 : W.cell? ⟨w.heap.size, 4, none⟩ = some (.string ⟨key.toArray⟩) := hW2.cell 4
  have d5 : W.cell? ⟨w.heap.size, 5, none⟩ = some (.string ⟨val.toArray⟩) := hW2.cell 5
  have d6 : W.cell? ⟨w.heap.size, 6, none⟩ = some (.string ⟨old.toArray⟩) := hW2.cell 6
  have HH := Lib.hid fun (x : Int) (n : Nat) => chas ⟨w.heap.size + 1, 0, none⟩ 3 x (W.drewN n) ((hW3.drewN n).cell 0)
  go_quiet (first | (go_at_call 49; exact quiet1 (HH.out _ _)) | (go_at_call 50; exact quiet1 (HK.out _)))
  go_wp2_with (go_at_call 49; refine (HH.out _ _).mono ?_; rintro e w' ⟨rfl, rfl⟩)
  all_goals go_ret
  all_goals exact ⟨rfl, below_drewN hW1 _⟩

set_option maxHeartbeats 1000000 in
theorem fits_3_pass (c : Cmd) (q : Nat) (w : World) (e : Env w) (hq : c.op = q) (hq2 : q < 10) (hsh : w.cell? ⟨1, q, none⟩ = some (.int .i64 3)) (hk : keyOk c.key = true) (ho : c.old = []) (hl : c.key.length ≤ 140737488355328) :
    Calls Tryd.prog 48 #[cmdV c] w fun e w' => e = .returned (.bool (decide (c.val.length ≤ 8))) ∧ Below w.heap.size w w' := by
  obtain ⟨cl, inc, req, op, key, val, old⟩ := c
  simp only [] at hq hk ho hl ⊢
  subst hq ho
  have HK := Lib.hid fun w' => cisKey key w' hl
  have hsz := e.size
  have hsh' := fun o => (World.cell?_alloc_lt w o ⟨1, q, none⟩ (by show 1 < w.heap.size; omega)).trans hsh
  clear hsh
  have HN := Lib.hid fun w' (h : Below w.heap.size w w') => (cnumber val w' (e.below h (by omega)))
  have HV := Lib.hid fun w' => cisValue val w'
  have HO := Lib.hid fun w' => cisValue [] w'
  have b1 : hasB 3 1 = true := rfl
  have b4 : hasB 3 4 = false := rfl
  have b2 : hasB 3 2 = true := rfl
  simp only [cmdV, str] at HK HN HV HO ⊢
  clear hl e
  go_enter Tryd.func48, Tryd.ntmps48
  go_wp2_with fail
  obtain ⟨W, hW, hW1, hW2, hW3, _⟩ := two_new w 57 #[.int .i64 cl, .int .i64 inc, .int .i64 req, .int .i64 q, .string ⟨key.toArray⟩, .string ⟨val.toArray⟩, .string ⟨#[]⟩] 3 #[.int .i64 3]
  rw [← hW]
  clear hW
  have d4 : W.cell? ⟨w.heap.size, 4, none⟩ = some (.string ⟨key.toArray⟩) := hW2.cell 4
  have d5 : W.cell? ⟨w.heap.size, 5, none⟩ = some (.string ⟨val.toArray⟩) := hW2.cell 5
  have d6 : W.cell? ⟨w.heap.size, 6, none⟩ = some (.string ⟨#[]⟩) := hW2.cell 6
  have HH := Lib.hid fun (x : Int) (n : Nat) => chas ⟨w.heap.size + 1, 0, none⟩ 3 x (W.drewN n) ((hW3.drewN n).cell 0)
  go_quiet (first | (go_at_call 49; exact quiet1 (HH.out _ _)) | (go_at_call 50; exact quiet1 (HK.out _)))
  go_wp2_with (go_at_call 49; refine (HH.out _ _).mono ?_; rintro e w' ⟨rfl, rfl⟩)
  refine (HO.out _).mono ?_
  rintro e w' ⟨rfl, rfl⟩
  go_wp2_with (go_at_call 49; refine (HH.out _ _).mono ?_; rintro e w' ⟨rfl, rfl⟩)
  refine (HN.out _ (below_drewN hW1 _)).mono ?_
  rintro e w2 ⟨rfl, hb2⟩
  have d5' : w2.cell? ⟨w.heap.size, 5, none⟩ = some (.string ⟨val.toArray⟩) := ((hW2.drewN _).below hb2 (hW2.drewN _).lt).cell 5
  have hc' : w2.cell? ⟨w.heap.size + 1, 0, none⟩ = some (.int .i64 3) := ((hW3.drewN _).below hb2 (hW3.drewN _).lt).cell 0
  have hb3 := (below_drewN hW1 _).trans (hb2.mono hW1.size)
  have H49 := Lib.hid fun (x : Int) => chas ⟨w.heap.size + 1, 0, none⟩ 3 x w2 hc'
  clear hb2 hW1 hW2 hW3 d4 d5 d6 HH hc'
  go_wp2_with (go_at_call 49; refine (H49.out _).mono ?_; rintro e w' ⟨rfl, rfl⟩)
  refine (HV.out _).mono ?_
  rintro e w' ⟨rfl, rfl⟩
  go_wp2
  all_goals go_ret
  all_goals exact ⟨rfl, hb3⟩

theorem fits_1_key (c : Cmd) (q : Nat) (w : World) (e : Env w) (hq : c.op = q) (hq2 : q < 10) (hsh : w.cell? ⟨1, q, none⟩ = some (.int .i64 1)) (hk : keyOk c.key = false) (hl : c.key.length ≤ 140737488355328) :
    Calls Tryd.prog 48 #[cmdV c] w fun e w' => e = .returned (.bool (false)) ∧ Below w.heap.size w w' := by
  obtain ⟨cl, inc, req, op, key, val, old⟩ := c
  simp only [] at hq hk hl ⊢
  subst hq
  have HK := Lib.hid fun w' => cisKey key w' hl
  have hsz := e.size
  have hsh' := fun o => (World.cell?_alloc_lt w o ⟨1, q, none⟩ (by show 1 < w.heap.size; omega)).trans hsh
  clear hsh
  have b1 : hasB 1 1 = true := rfl
  simp only [cmdV, str] at HK ⊢
  clear hl e
  go_enter Tryd.func48, Tryd.ntmps48
  go_wp2_with fail
  obtain ⟨W, hW, hW1, hW2, hW3, _⟩ := two_new w 57 #[.int .i64 cl, .int .i64 inc, .int .i64 req, .int .i64 q, .string ⟨key.toArray⟩, .string ⟨val.toArray⟩, .string ⟨old.toArray⟩] 3 #[.int .i64 1]
  rw [← hW]
  clear hW
  have d4 : W.cell? ⟨w.heap.size, 4, none⟩ = some (.string ⟨key.toArray⟩) := hW2.cell 4
  have d5 : W.cell? ⟨w.heap.size, 5, none⟩ = some (.string ⟨val.toArray⟩) := hW2.cell 5
  have d6 : W.cell? ⟨w.heap.size, 6, none⟩ = some (.string ⟨old.toArray⟩) := hW2.cell 6
  have HH := Lib.hid fun (x : Int) (n : Nat) => chas ⟨w.heap.size + 1, 0, none⟩ 1 x (W.drewN n) ((hW3.drewN n).cell 0)
  go_quiet (first | (go_at_call 49; exact quiet1 (HH.out _ _)) | (go_at_call 50; exact quiet1 (HK.out _)))
  go_wp2
  all_goals go_ret
  all_goals exact ⟨rfl, below_drewN hW1 _⟩

theorem fits_1_old (c : Cmd) (q : Nat) (w : World) (e : Env w) (hq : c.op = q) (hq2 : q < 10) (hsh : w.cell? ⟨1, q, none⟩ = some (.int .i64 1)) (hk : keyOk c.key = true) (ho : c.old ≠ []) (hl : c.key.length ≤ 140737488355328) :
    Calls Tryd.prog 48 #[cmdV c] w fun e w' => e = .returned (.bool (false)) ∧ Below w.heap.size w w' := by
  obtain ⟨cl, inc, req, op, key, val, old⟩ := c
  simp only [] at hq hk ho hl ⊢
  subst hq
  have ho1 : old.isEmpty = false := by simpa using ho
  have ho2 : (old == []) = false := by simpa using ho
  clear ho
  have HK := Lib.hid fun w' => cisKey key w' hl
  have hsz := e.size
  have hsh' := fun o => (World.cell?_alloc_lt w o ⟨1, q, none⟩ (by show 1 < w.heap.size; omega)).trans hsh
  clear hsh
  have b1 : hasB 1 1 = true := rfl
  have b4 : hasB 1 4 = false := rfl
  simp only [cmdV, str] at HK ⊢
  clear hl e
  go_enter Tryd.func48, Tryd.ntmps48
  go_wp2_with fail
  obtain ⟨W, hW, hW1, hW2, hW3, _⟩ := two_new w 57 #[.int .i64 cl, .int .i64 inc, .int .i64 req, .int .i64 q, .string ⟨key.toArray⟩, .string ⟨val.toArray⟩, .string ⟨old.toArray⟩] 3 #[.int .i64 1]
  rw [← hW]
  clear hW
  have d4 : W.cell? ⟨w.heap.size, 4, none⟩ = some (.string ⟨key.toArray⟩) := hW2.cell 4
  have d5 : W.cell? ⟨w.heap.size, 5, none⟩ = some (.string ⟨val.toArray⟩) := hW2.cell 5
  have d6 : W.cell? ⟨w.heap.size, 6, none⟩ = some (.string ⟨old.toArray⟩) := hW2.cell 6
  have HH := Lib.hid fun (x : Int) (n : Nat) => chas ⟨w.heap.size + 1, 0, none⟩ 1 x (W.drewN n) ((hW3.drewN n).cell 0)
  go_quiet (first | (go_at_call 49; exact quiet1 (HH.out _ _)) | (go_at_call 50; exact quiet1 (HK.out _)))
  go_wp2_with (go_at_call 49; refine (HH.out _ _).mono ?_; rintro e w' ⟨rfl, rfl⟩)
  all_goals go_ret
  all_goals exact ⟨rfl, below_drewN hW1 _⟩

set_option maxHeartbeats 1000000 in
theorem fits_1_pass (c : Cmd) (q : Nat) (w : World) (e : Env w) (hq : c.op = q) (hq2 : q < 10) (hsh : w.cell? ⟨1, q, none⟩ = some (.int .i64 1)) (hk : keyOk c.key = true) (ho : c.old = []) (hl : c.key.length ≤ 140737488355328) :
    Calls Tryd.prog 48 #[cmdV c] w fun e w' => e = .returned (.bool (c.val.isEmpty)) ∧ Below w.heap.size w w' := by
  obtain ⟨cl, inc, req, op, key, val, old⟩ := c
  simp only [] at hq hk ho hl ⊢
  subst hq ho
  have HK := Lib.hid fun w' => cisKey key w' hl
  have hsz := e.size
  have hsh' := fun o => (World.cell?_alloc_lt w o ⟨1, q, none⟩ (by show 1 < w.heap.size; omega)).trans hsh
  clear hsh
  have HN := Lib.hid fun w' (h : Below w.heap.size w w') => (cnumber val w' (e.below h (by omega)))
  have HV := Lib.hid fun w' => cisValue val w'
  have HO := Lib.hid fun w' => cisValue [] w'
  have b1 : hasB 1 1 = true := rfl
  have b4 : hasB 1 4 = false := rfl
  have b2 : hasB 1 2 = false := rfl
  have b8 : hasB 1 8 = false := rfl
  have b16 : hasB 1 16 = false := rfl
  have b32 : hasB 1 32 = false := rfl
  simp only [cmdV, str] at HK HN HV HO ⊢
  clear hl e
  go_enter Tryd.func48, Tryd.ntmps48
  go_wp2_with fail
  obtain ⟨W, hW, hW1, hW2, hW3, _⟩ := two_new w 57 #[.int .i64 cl, .int .i64 inc, .int .i64 req, .int .i64 q, .string ⟨key.toArray⟩, .string ⟨val.toArray⟩, .string ⟨#[]⟩] 3 #[.int .i64 1]
  rw [← hW]
  clear hW
  have d4 : W.cell? ⟨w.heap.size, 4, none⟩ = some (.string ⟨key.toArray⟩) := hW2.cell 4
  have d5 : W.cell? ⟨w.heap.size, 5, none⟩ = some (.string ⟨val.toArray⟩) := hW2.cell 5
  have d6 : W.cell? ⟨w.heap.size, 6, none⟩ = some (.string ⟨#[]⟩) := hW2.cell 6
  have HH := Lib.hid fun (x : Int) (n : Nat) => chas ⟨w.heap.size + 1, 0, none⟩ 1 x (W.drewN n) ((hW3.drewN n).cell 0)
  go_quiet (first | (go_at_call 49; exact quiet1 (HH.out _ _)) | (go_at_call 50; exact quiet1 (HK.out _)))
  go_wp2_with (go_at_call 49; refine (HH.out _ _).mono ?_; rintro e w' ⟨rfl, rfl⟩)
  refine (HO.out _).mono ?_
  rintro e w' ⟨rfl, rfl⟩
  go_wp2_with (go_at_call 49; refine (HH.out _ _).mono ?_; rintro e w' ⟨rfl, rfl⟩)
  refine (HN.out _ (below_drewN hW1 _)).mono ?_
  rintro e w2 ⟨rfl, hb2⟩
  have d5' : w2.cell? ⟨w.heap.size, 5, none⟩ = some (.string ⟨val.toArray⟩) := ((hW2.drewN _).below hb2 (hW2.drewN _).lt).cell 5
  have hc' : w2.cell? ⟨w.heap.size + 1, 0, none⟩ = some (.int .i64 1) := ((hW3.drewN _).below hb2 (hW3.drewN _).lt).cell 0
  have hb3 := (below_drewN hW1 _).trans (hb2.mono hW1.size)
  have H49 := Lib.hid fun (x : Int) => chas ⟨w.heap.size + 1, 0, none⟩ 1 x w2 hc'
  clear hb2 hW1 hW2 hW3 d4 d5 d6 HH hc'
  go_wp2_with (go_at_call 49; refine (H49.out _).mono ?_; rintro e w' ⟨rfl, rfl⟩)
  all_goals go_ret
  all_goals exact ⟨by first | rfl | (simp_all; done) | (simp_all; omega), hb3⟩

theorem fits_7_key (c : Cmd) (q : Nat) (w : World) (e : Env w) (hq : c.op = q) (hq2 : q < 10) (hsh : w.cell? ⟨1, q, none⟩ = some (.int .i64 7)) (hk : keyOk c.key = false) (hl : c.key.length ≤ 140737488355328) :
    Calls Tryd.prog 48 #[cmdV c] w fun e w' => e = .returned (.bool (false)) ∧ Below w.heap.size w w' := by
  obtain ⟨cl, inc, req, op, key, val, old⟩ := c
  simp only [] at hq hk hl ⊢
  subst hq
  have HK := Lib.hid fun w' => cisKey key w' hl
  have hsz := e.size
  have hsh' := fun o => (World.cell?_alloc_lt w o ⟨1, q, none⟩ (by show 1 < w.heap.size; omega)).trans hsh
  clear hsh
  have b1 : hasB 7 1 = true := rfl
  simp only [cmdV, str] at HK ⊢
  clear hl e
  go_enter Tryd.func48, Tryd.ntmps48
  go_wp2_with fail
  obtain ⟨W, hW, hW1, hW2, hW3, _⟩ := two_new w 57 #[.int .i64 cl, .int .i64 inc, .int .i64 req, .int .i64 q, .string ⟨key.toArray⟩, .string ⟨val.toArray⟩, .string ⟨old.toArray⟩] 3 #[.int .i64 7]
  rw [← hW]
  clear hW
  have d4 : W.cell? ⟨w.heap.size, 4, none⟩ = some (.string ⟨key.toArray⟩) := hW2.cell 4
  have d5 : W.cell? ⟨w.heap.size, 5, none⟩ = some (.string ⟨val.toArray⟩) := hW2.cell 5
  have d6 : W.cell? ⟨w.heap.size, 6, none⟩ = some (.string ⟨old.toArray⟩) := hW2.cell 6
  have HH := Lib.hid fun (x : Int) (n : Nat) => chas ⟨w.heap.size + 1, 0, none⟩ 7 x (W.drewN n) ((hW3.drewN n).cell 0)
  go_quiet (first | (go_at_call 49; exact quiet1 (HH.out _ _)) | (go_at_call 50; exact quiet1 (HK.out _)))
  go_wp2
  all_goals go_ret
  all_goals exact ⟨rfl, below_drewN hW1 _⟩

theorem fits_7_old (c : Cmd) (q : Nat) (w : World) (e : Env w) (hq : c.op = q) (hq2 : q < 10) (hsh : w.cell? ⟨1, q, none⟩ = some (.int .i64 7)) (hk : keyOk c.key = true) (ho : ¬ c.old.length ≤ 8) (hl : c.key.length ≤ 140737488355328) :
    Calls Tryd.prog 48 #[cmdV c] w fun e w' => e = .returned (.bool (false)) ∧ Below w.heap.size w w' := by
  obtain ⟨cl, inc, req, op, key, val, old⟩ := c
  simp only [] at hq hk ho hl ⊢
  subst hq
  have HK := Lib.hid fun w' => cisKey key w' hl
  have hsz := e.size
  have hsh' := fun o => (World.cell?_alloc_lt w o ⟨1, q, none⟩ (by show 1 < w.heap.size; omega)).trans hsh
  clear hsh
  have HO := Lib.hid fun w' => cisValue old w'
  have ho1 : decide (old.length ≤ 8) = false := decide_eq_false ho
  have b1 : hasB 7 1 = true := rfl
  have b4 : hasB 7 4 = true := rfl
  simp only [cmdV, str] at HK HO ⊢
  clear hl e
  go_enter Tryd.func48, Tryd.ntmps48
  go_wp2_with fail
  obtain ⟨W, hW, hW1, hW2, hW3, _⟩ := two_new w 57 #[.int .i64 cl, .int .i64 inc, .int .i64 req, .int .i64 q, .string ⟨key.toArray⟩, .string ⟨val.toArray⟩, .string ⟨old.toArray⟩] 3 #[.int .i64 7]
  rw [← hW]
  clear hW
  have d4 : W.cell? ⟨w.heap.size, 4, none⟩ = some (.string ⟨key.toArray⟩) := hW2.cell 4
  have d5 : W.cell? ⟨w.heap.size, 5, none⟩ = some (.string ⟨val.toArray⟩) := hW2.cell 5
  have d6 : W.cell? ⟨w.heap.size, 6, none⟩ = some (.string ⟨old.toArray⟩) := hW2.cell 6
  have HH := Lib.hid fun (x : Int) (n : Nat) => chas ⟨w.heap.size + 1, 0, none⟩ 7 x (W.drewN n) ((hW3.drewN n).cell 0)
  go_quiet (first | (go_at_call 49; exact quiet1 (HH.out _ _)) | (go_at_call 50; exact quiet1 (HK.out _)))
  go_wp2_with (go_at_call 49; refine (HH.out _ _).mono ?_; rintro e w' ⟨rfl, rfl⟩)
  refine (HO.out _).mono ?_
  rintro e w' ⟨rfl, rfl⟩
  go_wp2_with fail
  all_goals go_ret
  all_goals exact ⟨rfl, below_drewN hW1 _⟩

set_option maxHeartbeats 1000000 in
theorem fits_7_pass (c : Cmd) (q : Nat) (w : World) (e : Env w) (hq : c.op = q) (hq2 : q < 10) (hsh : w.cell? ⟨1, q, none⟩ = some (.int .i64 7)) (hk : keyOk c.key = true) (ho : c.old.length ≤ 8) (hl : c.key.length ≤ 140737488355328) :
    Calls Tryd.prog 48 #[cmdV c] w fun e w' => e = .returned (.bool (decide (c.val.length ≤ 8))) ∧ Below w.heap.size w w' := by
  obtain ⟨cl, inc, req, op, key, val, old⟩ := c
  simp only [] at hq hk ho hl ⊢
  subst hq
  have HK := Lib.hid fun w' => cisKey key w' hl
  have hsz := e.size
  have hsh' := fun o => (World.cell?_alloc_lt w o ⟨1, q, none⟩ (by show 1 < w.heap.size; omega)).trans hsh
  clear hsh
  have HN := Lib.hid fun w' (h : Below w.heap.size w w') => (cnumber val w' (e.below h (by omega)))
  have HV := Lib.hid fun w' => cisValue val w'
  have HO := Lib.hid fun w' => cisValue old w'
  have ho1 : decide (old.length ≤ 8) = true := decide_eq_true ho
  have b1 : hasB 7 1 = true := rfl
  have b4 : hasB 7 4 = true := rfl
  have b2 : hasB 7 2 = true := rfl
  simp only [cmdV, str] at HK HN HV HO ⊢
  clear hl e
  go_enter Tryd.func48, Tryd.ntmps48
  go_wp2_with fail
  obtain ⟨W, hW, hW1, hW2, hW3, _⟩ := two_new w 57 #[.int .i64 cl, .int .i64 inc, .int .i64 req, .int .i64 q, .string ⟨key.toArray⟩, .string ⟨val.toArray⟩, .string ⟨old.toArray⟩] 3 #[.int .i64 7]
  rw [← hW]
  clear hW
  have d4 : W.cell? ⟨w.heap.size, 4, none⟩ = some (.string ⟨key.toArray⟩) := hW2.cell 4
  have d5 : W.cell? ⟨w.heap.size, 5, none⟩ = some (.string ⟨val.toArray⟩) := hW2.cell 5
  have d6 : W.cell? ⟨w.heap.size, 6, none⟩ = some (.string ⟨old.toArray⟩) := hW2.cell 6
  have HH := Lib.hid fun (x : Int) (n : Nat) => chas ⟨w.heap.size + 1, 0, none⟩ 7 x (W.drewN n) ((hW3.drewN n).cell 0)
  go_quiet (first | (go_at_call 49; exact quiet1 (HH.out _ _)) | (go_at_call 50; exact quiet1 (HK.out _)))
  go_wp2_with (go_at_call 49; refine (HH.out _ _).mono ?_; rintro e w' ⟨rfl, rfl⟩)
  refine (HO.out _).mono ?_
  rintro e w' ⟨rfl, rfl⟩
  go_wp2_with (go_at_call 49; refine (HH.out _ _).mono ?_; rintro e w' ⟨rfl, rfl⟩)
  refine (HN.out _ (below_drewN hW1 _)).mono ?_
  rintro e w2 ⟨rfl, hb2⟩
  have d5' : w2.cell? ⟨w.heap.size, 5, none⟩ = some (.string ⟨val.toArray⟩) := ((hW2.drewN _).below hb2 (hW2.drewN _).lt).cell 5
  have hc' : w2.cell? ⟨w.heap.size + 1, 0, none⟩ = some (.int .i64 7) := ((hW3.drewN _).below hb2 (hW3.drewN _).lt).cell 0
  have hb3 := (below_drewN hW1 _).trans (hb2.mono hW1.size)
  have H49 := Lib.hid fun (x : Int) => chas ⟨w.heap.size + 1, 0, none⟩ 7 x w2 hc'
  clear hb2 hW1 hW2 hW3 d4 d5 d6 HH hc'
  go_wp2_with (go_at_call 49; refine (H49.out _).mono ?_; rintro e w' ⟨rfl, rfl⟩)
  refine (HV.out _).mono ?_
  rintro e w' ⟨rfl, rfl⟩
  go_wp2
  all_goals go_ret
  all_goals exact ⟨rfl, hb3⟩

end Go.Proofs.YtjdageiphebfpaaDoor
