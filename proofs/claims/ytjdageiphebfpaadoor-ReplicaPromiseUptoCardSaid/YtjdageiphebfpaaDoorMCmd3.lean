/- More walks of machine.fits (printed by wip/gen_fits.py). -/
import Derived.Test.YtjdageiphebfpaaDoorMCmd2
namespace Go.Proofs.YtjdageiphebfpaaDoor
open Go.RowKit
open Pl Mem

theorem fits_9_key (c : Cmd) (q : Nat) (w : World) (e : Env w) (hq : c.op = q) (hq2 : q < 10) (hsh : w.cell? ⟨1, q, none⟩ = some (.int .i64 9)) (hk : keyOk c.key = false) (hl : c.key.length ≤ 140737488355328) :
    Calls Tryd.prog 48 #[cmdV c] w fun e w' => e = .returned (.bool (false)) ∧ Below w.heap.size w w' := by
  obtain ⟨cl, inc, req, op, key, val, old⟩ := c
  simp only [] at hq hk hl ⊢
  subst hq
  have HK := Lib.hid fun w' => cisKey key w' hl
  have hsz := e.size
  have hsh' := fun o => (World.cell?_alloc_lt w o ⟨1, q, none⟩ (by show 1 < w.heap.size; omega)).trans hsh
  clear hsh
  have b1 : hasB 9 1 = true := rfl
  simp only [cmdV, str] at HK ⊢
  clear hl e
  go_enter Tryd.func48, Tryd.ntmps48
  go_wp2_with fail
  obtain ⟨W, hW, hW1, hW2, hW3, _⟩ := two_new w 57 #[.int .i64 cl, .int .i64 inc, .int .i64 req, .int .i64 q, .string ⟨key.toArray⟩, .string ⟨val.toArray⟩, .string ⟨old.toArray⟩] 3 #[.int .i64 9]
  rw [← hW]
  clear hW
  have d4 : W.cell? ⟨w.heap.size, 4, none⟩ = some (.string ⟨key.toArray⟩) := hW2.cell 4
  have d5 : W.cell? ⟨w.heap.size, 5, none⟩ = some (.string ⟨val.toArray⟩) := hW2.cell 5
  have d6 : W.cell? ⟨w.heap.size, 6, none⟩ = some (.string ⟨old.toArray⟩) := hW2.cell 6
  have HH := Lib.hid fun (x : Int) (n : Nat) => chas ⟨w.heap.size + 1, 0, none⟩ 9 x (W.drewN n) ((hW3.drewN n).cell 0)
  go_quiet (first | (go_at_call 49; exact quiet1 (HH.out _ _)) | (go_at_call 50; exact quiet1 (HK.out _)))
  go_wp2
  all_goals go_ret
  all_goals exact ⟨rfl, below_drewN hW1 _⟩

theorem fits_9_old (c : Cmd) (q : Nat) (w : World) (e : Env w) (hq : c.op = q) (hq2 : q < 10) (hsh : w.cell? ⟨1, q, none⟩ = some (.int .i64 9)) (hk : keyOk c.key = true) (ho : c.old ≠ []) (hl : c.key.length ≤ 140737488355328) :
    Calls Tryd.prog 48 #[cmdV c] w fun e w' => e = .returned (.bool (false)) ∧ Below w.heap.size w w' := by
  obtain ⟨cl, inc, req, op, key, val, old⟩ := c
  simp only [] at hq hk ho hl ⊢
  subst hq
  have ho1 : old.isEmpty = false := by simpa using ho
  have ho2 : (old == []) = false := by simpa using ho
  clear ho
  have HK := Lib.hid fun w' => cisKey key w' hl
  have hsz := e.size
  have hsh' := fun o => (World.cell?_alloc_lt w o ⟨1, q, none⟩ (by show 1 < w.heap.size; omega)).trans hsh
  clear hsh
  have b1 : hasB 9 1 = true := rfl
  have b4 : hasB 9 4 = false := rfl
  simp only [cmdV, str] at HK ⊢
  clear hl e
  go_enter Tryd.func48, Tryd.ntmps48
  go_wp2_with fail
  obtain ⟨W, hW, hW1, hW2, hW3, _⟩ := two_new w 57 #[.int .i64 cl, .int .i64 inc, .int .i64 req, .int .i64 q, .string ⟨key.toArray⟩, .string ⟨val.toArray⟩, .string ⟨old.toArray⟩] 3 #[.int .i64 9]
  rw [← hW]
  clear hW
  have d4 : W.cell? ⟨w.heap.size, 4, none⟩ = some (.string ⟨key.toArray⟩) := hW2.cell 4
  have d5 : W.cell? ⟨w.heap.size, 5, none⟩ = some (.string ⟨val.toArray⟩) := hW2.cell 5
  have d6 : W.cell? ⟨w.heap.size, 6, none⟩ = some (.string ⟨old.toArray⟩) := hW2.cell 6
  have HH := Lib.hid fun (x : Int) (n : Nat) => chas ⟨w.heap.size + 1, 0, none⟩ 9 x (W.drewN n) ((hW3.drewN n).cell 0)
  go_quiet (first | (go_at_call 49; exact quiet1 (HH.out _ _)) | (go_at_call 50; exact quiet1 (HK.out _)))
  go_wp2_with (go_at_call 49; refine (HH.out _ _).mono ?_; rintro e w' ⟨rfl, rfl⟩)
  all_goals go_ret
  all_goals exact ⟨rfl, below_drewN hW1 _⟩

set_option maxHeartbeats 1000000 in
theorem fits_9_pass (c : Cmd) (q : Nat) (w : World) (e : Env w) (hq : c.op = q) (hq2 : q < 10) (hsh : w.cell? ⟨1, q, none⟩ = some (.int .i64 9)) (hk : keyOk c.key = true) (ho : c.old = []) (hl : c.key.length ≤ 140737488355328) :
    Calls Tryd.prog 48 #[cmdV c] w fun e w' => e = .returned (.bool (numOk c.val)) ∧ Below w.heap.size w w' := by
  obtain ⟨cl, inc, req, op, key, val, old⟩ := c
  simp only [] at hq hk ho hl ⊢
  subst hq ho
  have HK := Lib.hid fun w' => cisKey key w' hl
  have hsz := e.size
  have hsh' := fun o => (World.cell?_alloc_lt w o ⟨1, q, none⟩ (by show 1 < w.heap.size; omega)).trans hsh
  clear hsh
  have HN := Lib.hid fun w' (h : Below w.heap.size w w') => (cnumber val w' (e.below h (by omega)))
  have HV := Lib.hid fun w' => cisValue val w'
  have HO := Lib.hid fun w' => cisValue [] w'
  have b1 : hasB 9 1 = true := rfl
  have b4 : hasB 9 4 = false := rfl
  have b2 : hasB 9 2 = false := rfl
  have b8 : hasB 9 8 = true := rfl
  simp only [cmdV, str] at HK HN HV HO ⊢
  clear hl e
  go_enter Tryd.func48, Tryd.ntmps48
  go_wp2_with fail
  obtain ⟨W, hW, hW1, hW2, hW3, _⟩ := two_new w 57 #[.int .i64 cl, .int .i64 inc, .int .i64 req, .int .i64 q, .string ⟨key.toArray⟩, .string ⟨val.toArray⟩, .string ⟨#[]⟩] 3 #[.int .i64 9]
  rw [← hW]
  clear hW
  have d4 : W.cell? ⟨w.heap.size, 4, none⟩ = some (.string ⟨key.toArray⟩) := hW2.cell 4
  have d5 : W.cell? ⟨w.heap.size, 5, none⟩ = some (.string ⟨val.toArray⟩) := hW2.cell 5
  have d6 : W.cell? ⟨w.heap.size, 6, none⟩ = some (.string ⟨#[]⟩) := hW2.cell 6
  have HH := Lib.hid fun (x : Int) (n : Nat) => chas ⟨w.heap.size + 1, 0, none⟩ 9 x (W.drewN n) ((hW3.drewN n).cell 0)
  go_quiet (first | (go_at_call 49; exact quiet1 (HH.out _ _)) | (go_at_call 50; exact quiet1 (HK.out _)))
  go_wp2_with (go_at_call 49; refine (HH.out _ _).mono ?_; rintro e w' ⟨rfl, rfl⟩)
  refine (HO.out _).mono ?_
  rintro e w' ⟨rfl, rfl⟩
  go_wp2_with (go_at_call 49; refine (HH.out _ _).mono ?_; rintro e w' ⟨rfl, rfl⟩)
  refine (HN.out _ (below_drewN hW1 _)).mono ?_
  rintro e w2 ⟨rfl, hb2⟩
  have d5' : w2.cell? ⟨w.heap.size, 5, none⟩ = some (.string ⟨val.toArray⟩) := ((hW2.drewN _).below hb2 (hW2.drewN _).lt).cell 5
  have hc' : w2.cell? ⟨w.heap.size + 1, 0, none⟩ = some (.int .i64 9) := ((hW3.drewN _).below hb2 (hW3.drewN _).lt).cell 0
  have hb3 := (below_drewN hW1 _).trans (hb2.mono hW1.size)
  have H49 := Lib.hid fun (x : Int) => chas ⟨w.heap.size + 1, 0, none⟩ 9 x w2 hc'
  clear hb2 hW1 hW2 hW3 d4 d5 d6 HH hc'
  go_wp2_with (go_at_call 49; refine (H49.out _).mono ?_; rintro e w' ⟨rfl, rfl⟩)
  all_goals go_ret
  all_goals exact ⟨by first | rfl | (simp_all; done) | (simp_all; omega), hb3⟩

theorem fits_17_key (c : Cmd) (q : Nat) (w : World) (e : Env w) (hq : c.op = q) (hq2 : q < 10) (hsh : w.cell? ⟨1, q, none⟩ = some (.int .i64 17)) (hk : keyOk c.key = false) (hl : c.key.length ≤ 140737488355328) :
    Calls Tryd.prog 48 #[cmdV c] w fun e w' => e = .returned (.bool (false)) ∧ Below w.heap.size w w' := by
  obtain ⟨cl, inc, req, op, key, val, old⟩ := c
  simp only [] at hq hk hl ⊢
  subst hq
  have HK := Lib.hid fun w' => cisKey key w' hl
  have hsz := e.size
  have hsh' := fun o => (World.cell?_alloc_lt w o ⟨1, q, none⟩ (by show 1 < w.heap.size; omega)).trans hsh
  clear hsh
  have b1 : hasB 17 1 = true := rfl
  simp only [cmdV, str] at HK ⊢
  clear hl e
  go_enter Tryd.func48, Tryd.ntmps48
  go_wp2_with fail
  obtain ⟨W, hW, hW1, hW2, hW3, _⟩ := two_new w 57 #[.int .i64 cl, .int .i64 inc, .int .i64 req, .int .i64 q, .string ⟨key.toArray⟩, .string ⟨val.toArray⟩, .string ⟨old.toArray⟩] 3 #[.int .i64 17]
  rw [← hW]
  clear hW
  have d4 : W.cell? ⟨w.heap.size, 4, none⟩ = some (.string ⟨key.toArray⟩) := hW2.cell 4
  have d5 : W.cell? ⟨w.heap.size, 5, none⟩ = some (.string ⟨val.toArray⟩) := hW2.cell 5
  have d6 : W.cell? ⟨w.heap.size, 6, none⟩ = some (.string ⟨old.toArray⟩) := hW2.cell 6
  have HH := Lib.hid fun (x : Int) (n : Nat) => chas ⟨w.heap.size + 1, 0, none⟩ 17 x (W.drewN n) ((hW3.drewN n).cell 0)
  go_quiet (first | (go_at_call 49; exact quiet1 (HH.out _ _)) | (go_at_call 50; exact quiet1 (HK.out _)))
  go_wp2
  all_goals go_ret
  all_goals exact ⟨rfl, below_drewN hW1 _⟩

theorem fits_17_old (c : Cmd) (q : Nat) (w : World) (e : Env w) (hq : c.op = q) (hq2 : q < 10) (hsh : w.cell? ⟨1, q, none⟩ = some (.int .i64 17)) (hk : keyOk c.key = true) (ho : c.old ≠ []) (hl : c.key.length ≤ 140737488355328) :
    Calls Tryd.prog 48 #[cmdV c] w fun e w' => e = .returned (.bool (false)) ∧ Below w.heap.size w w' := by
  obtain ⟨cl, inc, req, op, key, val, old⟩ := c
  simp only [] at hq hk ho hl ⊢
  subst hq
  have ho1 : old.isEmpty = false := by simpa using ho
  have ho2 : (old == []) = false := by simpa using ho
  clear ho
  have HK := Lib.hid fun w' => cisKey key w' hl
  have hsz := e.size
  have hsh' := fun o => (World.cell?_alloc_lt w o ⟨1, q, none⟩ (by show 1 < w.heap.size; omega)).trans hsh
  clear hsh
  have b1 : hasB 17 1 = true := rfl
  have b4 : hasB 17 4 = false := rfl
  simp only [cmdV, str] at HK ⊢
  clear hl e
  go_enter Tryd.func48, Tryd.ntmps48
  go_wp2_with fail
  obtain ⟨W, hW, hW1, hW2, hW3, _⟩ := two_new w 57 #[.int .i64 cl, .int .i64 inc, .int .i64 req, .int .i64 q, .string ⟨key.toArray⟩, .string ⟨val.toArray⟩, .string ⟨old.toArray⟩] 3 #[.int .i64 17]
  rw [← hW]
  clear hW
  have d4 : W.cell? ⟨w.heap.size, 4, none⟩ = some (.string ⟨key.toArray⟩) := hW2.cell 4
  have d5 : W.cell? ⟨w.heap.size, 5, none⟩ = some (.string ⟨val.toArray⟩) := hW2.cell 5
  have d6 : W.cell? ⟨w.heap.size, 6, none⟩ = some (.string ⟨old.toArray⟩) := hW2.cell 6
  have HH := Lib.hid fun (x : Int) (n : Nat) => chas ⟨w.heap.size + 1, 0, none⟩ 17 x (W.drewN n) ((hW3.drewN n).cell 0)
  go_quiet (first | (go_at_call 49; exact quiet1 (HH.out _ _)) | (go_at_call 50; exact quiet1 (HK.out _)))
  go_wp2_with (go_at_call 49; refine (HH.out _ _).mono ?_; rintro e w' ⟨rfl, rfl⟩)
  all_goals go_ret
  all_goals exact ⟨rfl, below_drewN hW1 _⟩

set_option maxHeartbeats 1000000 in
theorem fits_17_pass (c : Cmd) (q : Nat) (w : World) (e : Env w) (hq : c.op = q) (hq2 : q < 10) (hsh : w.cell? ⟨1, q, none⟩ = some (.int .i64 17)) (hk : keyOk c.key = true) (ho : c.old = []) (hl : c.key.length ≤ 140737488355328) :
    Calls Tryd.prog 48 #[cmdV c] w fun e w' => e = .returned (.bool (numOk c.val && decide (0 < numN c.val))) ∧ Below w.heap.size w w' := by
  obtain ⟨cl, inc, req, op, key, val, old⟩ := c
  simp only [] at hq hk ho hl ⊢
  subst hq ho
  have HK := Lib.hid fun w' => cisKey key w' hl
  have hsz := e.size
  have hsh' := fun o => (World.cell?_alloc_lt w o ⟨1, q, none⟩ (by show 1 < w.heap.size; omega)).trans hsh
  clear hsh
  have HN := Lib.hid fun w' (h : Below w.heap.size w w') => (cnumber val w' (e.below h (by omega)))
  have HV := Lib.hid fun w' => cisValue val w'
  have HO := Lib.hid fun w' => cisValue [] w'
  have b1 : hasB 17 1 = true := rfl
  have b4 : hasB 17 4 = false := rfl
  have b2 : hasB 17 2 = false := rfl
  have b8 : hasB 17 8 = false := rfl
  have b16 : hasB 17 16 = true := rfl
  simp only [cmdV, str] at HK HN HV HO ⊢
  clear hl e
  go_enter Tryd.func48, Tryd.ntmps48
  go_wp2_with fail
  obtain ⟨W, hW, hW1, hW2, hW3, _⟩ := two_new w 57 #[.int .i64 cl, .int .i64 inc, .int .i64 req, .int .i64 q, .string ⟨key.toArray⟩, .string ⟨val.toArray⟩, .string ⟨#[]⟩] 3 #[.int .i64 17]
  rw [← hW]
  clear hW
  have d4 : W.cell? ⟨w.heap.size, 4, none⟩ = some (.string ⟨key.toArray⟩) := hW2.cell 4
  have d5 : W.cell? ⟨w.heap.size, 5, none⟩ = some (.string ⟨val.toArray⟩) := hW2.cell 5
  have d6 : W.cell? ⟨w.heap.size, 6, none⟩ = some (.string ⟨#[]⟩) := hW2.cell 6
  have HH := Lib.hid fun (x : Int) (n : Nat) => chas ⟨w.heap.size + 1, 0, none⟩ 17 x (W.drewN n) ((hW3.drewN n).cell 0)
  go_quiet (first | (go_at_call 49; exact quiet1 (HH.out _ _)) | (go_at_call 50; exact quiet1 (HK.out _)))
  go_wp2_with (go_at_call 49; refine (HH.out _ _).mono ?_; rintro e w' ⟨rfl, rfl⟩)
  refine (HO.out _).mono ?_
  rintro e w' ⟨rfl, rfl⟩
  go_wp2_with (go_at_call 49; refine (HH.out _ _).mono ?_; rintro e w' ⟨rfl, rfl⟩)
  refine (HN.out _ (below_drewN hW1 _)).mono ?_
  rintro e w2 ⟨rfl, hb2⟩
  have d5' : w2.cell? ⟨w.heap.size, 5, none⟩ = some (.string ⟨val.toArray⟩) := ((hW2.drewN _).below hb2 (hW2.drewN _).lt).cell 5
  have hc' : w2.cell? ⟨w.heap.size + 1, 0, none⟩ = some (.int .i64 17) := ((hW3.drewN _).below hb2 (hW3.drewN _).lt).cell 0
  have hb3 := (below_drewN hW1 _).trans (hb2.mono hW1.size)
  have H49 := Lib.hid fun (x : Int) => chas ⟨w.heap.size + 1, 0, none⟩ 17 x w2 hc'
  clear hb2 hW1 hW2 hW3 d4 d5 d6 HH hc'
  go_wp2_with (go_at_call 49; refine (H49.out _).mono ?_; rintro e w' ⟨rfl, rfl⟩)
  all_goals go_ret
  all_goals exact ⟨by first | rfl | (simp_all; done) | (simp_all; omega), hb3⟩

theorem fits_32_key (c : Cmd) (q : Nat) (w : World) (e : Env w) (hq : c.op = q) (hq2 : q < 10) (hsh : w.cell? ⟨1, q, none⟩ = some (.int .i64 32)) (hk : keyOk c.key = true) (hl : c.key.length ≤ 140737488355328) :
    Calls Tryd.prog 48 #[cmdV c] w fun e w' => e = .returned (.bool (false)) ∧ Below w.heap.size w w' := by
  obtain ⟨cl, inc, req, op, key, val, old⟩ := c
  simp only [] at hq hk hl ⊢
  subst hq
  have HK := Lib.hid fun w' => cisKey key w' hl
  have hsz := e.size
  have hsh' := fun o => (World.cell?_alloc_lt w o ⟨1, q, none⟩ (by show 1 < w.heap.size; omega)).trans hsh
  clear hsh
  have b1 : hasB 32 1 = false := rfl
  simp only [cmdV, str] at HK ⊢
  clear hl e
  go_enter Tryd.func48, Tryd.ntmps48
  go_wp2_with fail
  obtain ⟨W, hW, hW1, hW2, hW3, _⟩ := two_new w 57 #[.int .i64 cl, .int .i64 inc, .int .i64 req, .int .i64 q, .string ⟨key.toArray⟩, .string ⟨val.toArray⟩, .string ⟨old.toArray⟩] 3 #[.int .i64 32]
  rw [← hW]
  clear hW
  have d4 : W.cell? ⟨w.heap.size, 4, none⟩ = some (.string ⟨key.toArray⟩) := hW2.cell 4
  have d5 : W.cell? ⟨w.heap.size, 5, none⟩ = some (.string ⟨val.toArray⟩) := hW2.cell 5
  have d6 : W.cell? ⟨w.heap.size, 6, none⟩ = some (.string ⟨old.toArray⟩) := hW2.cell 6
  have HH := Lib.hid fun (x : Int) (n : Nat) => chas ⟨w.heap.size + 1, 0, none⟩ 32 x (W.drewN n) ((hW3.drewN n).cell 0)
  go_quiet (first | (go_at_call 49; exact quiet1 (HH.out _ _)) | (go_at_call 50; exact quiet1 (HK.out _)))
  go_wp2
  all_goals go_ret
  all_goals exact ⟨rfl, below_drewN hW1 _⟩

theorem fits_32_keyx (c : Cmd) (q : Nat) (w : World) (e : Env w) (hq : c.op = q) (hq2 : q < 10) (hsh : w.cell? ⟨1, q, none⟩ = some (.int .i64 32)) (hk : keyOk c.key = false) (hx : c.key ≠ []) (hl : c.key.length ≤ 140737488355328) :
    Calls Tryd.prog 48 #[cmdV c] w fun e w' => e = .returned (.bool (false)) ∧ Below w.heap.size w w' := by
  obtain ⟨cl, inc, req, op, key, val, old⟩ := c
  simp only [] at hq hk hx hl ⊢
  subst hq
  have hx1 : key.isEmpty = false := by simpa using hx
  have hx2 : (key == []) = false := by simpa using hx
  clear hx
  have HK := Lib.hid fun w' => cisKey key w' hl
  have hsz := e.size
  have hsh' := fun o => (World.cell?_alloc_lt w o ⟨1, q, none⟩ (by show 1 < w.heap.size; omega)).trans hsh
  clear hsh
  have b1 : hasB 32 1 = false := rfl
  simp only [cmdV, str] at HK ⊢
  clear hl e
  go_enter Tryd.func48, Tryd.ntmps48
  go_wp2_with fail
  obtain ⟨W, hW, hW1, hW2, hW3, _⟩ := two_new w 57 #[.int .i64 cl, .int .i64 inc, .int .i64 req, .int .i64 q, .string ⟨key.toArray⟩, .string ⟨val.toArray⟩, .string ⟨old.toArray⟩] 3 #[.int .i64 32]
  rw [← hW]
  clear hW
  have d4 : W.cell? ⟨w.heap.size, 4, none⟩ = some (.string ⟨key.toArray⟩) := hW2.cell 4
  have d5 : W.cell? ⟨w.heap.size, 5, none⟩ = some (.string ⟨val.toArray⟩) := hW2.cell 5
  have d6 : W.cell? ⟨w.heap.size, 6, none⟩ = some (.string ⟨old.toArray⟩) := hW2.cell 6
  have HH := Lib.hid fun (x : Int) (n : Nat) => chas ⟨w.heap.size + 1, 0, none⟩ 32 x (W.drewN n) ((hW3.drewN n).cell 0)
  go_quiet (first | (go_at_call 49; exact quiet1 (HH.out _ _)) | (go_at_call 50; exact quiet1 (HK.out _)))
  go_wp2
  all_goals go_ret
  all_goals exact ⟨rfl, below_drewN hW1 _⟩

theorem fits_32_old (c : Cmd) (q : Nat) (w : World) (e : Env w) (hq : c.op = q) (hq2 : q < 10) (hsh : w.cell? ⟨1, q, none⟩ = some (.int .i64 32)) (hx : c.key = []) (ho : c.old ≠ []) (hl : c.key.length ≤ 140737488355328) :
    Calls Tryd.prog 48 #[cmdV c] w fun e w' => e = .returned (.bool (false)) ∧ Below w.heap.size w w' := by
  obtain ⟨cl, inc, req, op, key, val, old⟩ := c
  simp only [] at hq hx ho hl ⊢
  subst hq hx
  have ho1 : old.isEmpty = false := by simpa using ho
  have ho2 : (old == []) = false := by simpa using ho
  clear ho
  have hk : keyOk [] = false := rfl
  have HK := Lib.hid fun w' => cisKey [] w' hl
  have hsz := e.size
  have hsh' := fun o => (World.cell?_alloc_lt w o ⟨1, q, none⟩ (by show 1 < w.heap.size; omega)).trans hsh
  clear hsh
  have b1 : hasB 32 1 = false := rfl
  have b4 : hasB 32 4 = false := rfl
  simp only [cmdV, str] at HK ⊢
  clear hl e
  go_enter Tryd.func48, Tryd.ntmps48
  go_wp2_with fail
  obtain ⟨W, hW, hW1, hW2, hW3, _⟩ := two_new w 57 #[.int .i64 cl, .int .i64 inc, .int .i64 req, .int .i64 q, .string ⟨#[]⟩, .string ⟨val.toArray⟩, .string ⟨old.toArray⟩] 3 #[.int .i64 32]
  rw [← hW]
  clear hW
  have d4 : W.cell? ⟨w.heap.size, 4, none⟩ = some (.string ⟨#[]⟩) := hW2.cell 4
  have d5 : W.cell? ⟨w.heap.size, 5, none⟩ = some (.string ⟨val.toArray⟩) := hW2.cell 5
  have d6 : W.cell? ⟨w.heap.size, 6, none⟩ = some (.string ⟨old.toArray⟩) := hW2.cell 6
  have HH := Lib.hid fun (x : Int) (n : Nat) => chas ⟨w.heap.size + 1, 0, none⟩ 32 x (W.drewN n) ((hW3.drewN n).cell 0)
  go_quiet (first | (go_at_call 49; exact quiet1 (HH.out _ _)) | (go_at_call 50; exact quiet1 (HK.out _)))
  go_wp2_with (go_at_call 49; refine (HH.out _ _).mono ?_; rintro e w' ⟨rfl, rfl⟩)
  all_goals go_ret
  all_goals exact ⟨rfl, below_drewN hW1 _⟩

set_option maxHeartbeats 1000000 in
theorem fits_32_pass (c : Cmd) (q : Nat) (w : World) (e : Env w) (hq : c.op = q) (hq2 : q < 10) (hsh : w.cell? ⟨1, q, none⟩ = some (.int .i64 32)) (hx : c.key = []) (ho : c.old = []) (hl : c.key.length ≤ 140737488355328) :
    Calls Tryd.prog 48 #[cmdV c] w fun e w' => e = .returned (.bool (numOk c.val && decide (0 ≤ numN c.val) && decide (numN c.val < 16))) ∧ Below w.heap.size w w' := by
  obtain ⟨cl, inc, req, op, key, val, old⟩ := c
  simp only [] at hq hx ho hl ⊢
  subst hq hx ho
  have hk : keyOk [] = false := rfl
  have HK := Lib.hid fun w' => cisKey [] w' hl
  have hsz := e.size
  have hsh' := fun o => (World.cell?_alloc_lt w o ⟨1, q, none⟩ (by show 1 < w.heap.size; omega)).trans hsh
  clear hsh
  have HN := Lib.hid fun w' (h : Below w.heap.size w w') => (cnumber val w' (e.below h (by omega)))
  have HV := Lib.hid fun w' => cisValue val w'
  have HO := Lib.hid fun w' => cisValue [] w'
  have b1 : hasB 32 1 = false := rfl
  have b4 : hasB 32 4 = false := rfl
  have b2 : hasB 32 2 = false := rfl
  have b8 : hasB 32 8 = false := rfl
  have b16 : hasB 32 16 = false := rfl
  have b32 : hasB 32 32 = true := rfl
  simp only [cmdV, str] at HK HN HV HO ⊢
  clear hl e
  go_enter Tryd.func48, Tryd.ntmps48
  go_wp2_with fail
  obtain ⟨W, hW, hW1, hW2, hW3, _⟩ := two_new w 57 #[.int .i64 cl, .int .i64 inc, .int .i64 req, .int .i64 q, .string ⟨#[]⟩, .string ⟨val.toArray⟩, .string ⟨#[]⟩] 3 #[.int .i64 32]
  rw [← hW]
  clear hW
  have d4 : W.cell? ⟨w.heap.size, 4, none⟩ = some (.string ⟨#[]⟩) := hW2.cell 4
  have d5 : W.cell? ⟨w.heap.size, 5, none⟩ = some (.string ⟨val.toArray⟩) := hW2.cell 5
  have d6 : W.cell? ⟨w.heap.size, 6, none⟩ = some (.string ⟨#[]⟩) := hW2.cell 6
  have HH := Lib.hid fun (x : Int) (n : Nat) => chas ⟨w.heap.size + 1, 0, none⟩ 32 x (W.drewN n) ((hW3.drewN n).cell 0)
  go_quiet (first | (go_at_call 49; exact quiet1 (HH.out _ _)) | (go_at_call 50; exact quiet1 (HK.out _)))
  go_wp2_with (go_at_call 49; refine (HH.out _ _).mono ?_; rintro e w' ⟨rfl, rfl⟩)
  refine (HO.out _).mono ?_
  rintro e w' ⟨rfl, rfl⟩
  go_wp2_with (go_at_call 49; refine (HH.out _ _).mono ?_; rintro e w' ⟨rfl, rfl⟩)
  refine (HN.out _ (below_drewN hW1 _)).mono ?_
  rintro e w2 ⟨rfl, hb2⟩
  have d5' : w2.cell? ⟨w.heap.size, 5, none⟩ = some (.string ⟨val.toArray⟩) := ((hW2.drewN _).below hb2 (hW2.drewN _).lt).cell 5
  have hc' : w2.cell? ⟨w.heap.size + 1, 0, none⟩ = some (.int .i64 32) := ((hW3.drewN _).below hb2 (hW3.drewN _).lt).cell 0
  have hb3 := (below_drewN hW1 _).trans (hb2.mono hW1.size)
  have H49 := Lib.hid fun (x : Int) => chas ⟨w.heap.size + 1, 0, none⟩ 32 x w2 hc'
  clear hb2 hW1 hW2 hW3 d4 d5 d6 HH hc'
  go_wp2_with (go_at_call 49; refine (H49.out _).mono ?_; rintro e w' ⟨rfl, rfl⟩)
  all_goals go_ret
  all_goals exact ⟨by first | rfl | (simp_all; done) | (simp_all; omega), hb3⟩

end Go.Proofs.YtjdageiphebfpaaDoor
