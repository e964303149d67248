/- Small walks on commands: count, isKey, isValue, number; the world's tables. -/
import Derived.Test.YtjdageiphebfpaaDoorMMach
import Derived.Test.YtjdageiphebfpaaDoorMBase
import Derived.Test.YtjdageiphebfpaaDoorShelf
import Derived.Lib.AtoiErrMem
import Derived.Lib.AppendIntMem
import Derived.Lib.QuietBelow
namespace Go.Proofs.YtjdageiphebfpaaDoor
open Go.RowKit
open Pl Mem

theorem gShapes : Tryd.prog.globalNamed "quorate/machine.shapes" = some 1 := by kernel_rfl
theorem gPow : Tryd.prog.globalNamed "internal/strconv.uint64pow10" = some 4 := by kernel_rfl
theorem gSyntax : Tryd.prog.globalNamed "strconv.ErrSyntax" = some 2 := by kernel_rfl

/-- The package-level variables that the machine's code reads, as they are laid; they lie in the first blocks. -/
structure Env (w : World) : Prop where
  size : 12 ≤ w.heap.size
  shapes : Lib.TabIs Tryd.prog w "quorate/machine.shapes" .i64 [0, 3, 1, 7, 1, 9, 1, 1, 17, 32]
  pow : Lib.TabIs Tryd.prog w "internal/strconv.uint64pow10" .u64 Lib.pow10Tab
  synt : ∃ tp p, w.var? Tryd.prog "strconv.ErrSyntax" = some #[.iface tp p]

theorem var_keep {P : Program} {B g : Nat} {S : Nat → Prop} {W W' : World} {n : String} {cs : Array Value} (h : Keep B S W W') (hg : P.globalNamed n = some g) (hgB : g < B) (hS : ¬ S g) (hv : W.var? P n = some cs) : W'.var? P n = some cs := by
  unfold World.var? at hv ⊢
  simp only [hg, Option.bind_some] at hv ⊢
  rw [h.block g hgB hS]
  exact hv

theorem Env.keep {w w' : World} {B : Nat} {S : Nat → Prop} (e : Env w) (h : Keep B S w w') (hB : 12 ≤ B) (hS : ∀ k, k < 12 → ¬ S k) : Env w' where
  size := Nat.le_trans e.size h.size
  shapes := var_keep h gShapes (by omega) (hS _ (by omega)) e.shapes
  pow := var_keep h gPow (by omega) (hS _ (by omega)) e.pow
  synt := by
    obtain ⟨tp, p, hv⟩ := e.synt
    exact ⟨tp, p, var_keep h gSyntax (by omega) (hS _ (by omega)) hv⟩
theorem Env.below {w w' : World} {B : Nat} (e : Env w) (h : Below B w w') (hB : 12 ≤ B) : Env w' := e.keep (Keep.of_below (S := fun _ => False) h) hB (fun _ _ h => h)
theorem Env.drewN {w : World} (e : Env w) (n : Nat) : Env (w.drewN n) := e.below (Below.refl w.heap.size w |> fun h => below_drewN h n) e.size
theorem Env.alloc {w : World} (e : Env w) (o : Obj) : Env (w.alloc o) := e.below ((Below.refl w.heap.size w).alloc (Nat.le_refl _) o) e.size

theorem size_str (l : Bytes) : (⟨l.toArray⟩ : ByteArray).size = l.length := by simp [ByteArray.size]
theorem data_str (l : Bytes) : (⟨l.toArray⟩ : ByteArray).data.toList = l := by simp

theorem ccount (x : Int) (w : World) : Calls Tryd.prog 47 #[.int .i64 x] w fun e w' => e = .returned (.bool (decide (1 ≤ x ∧ x ≤ 4611686018427387904))) ∧ w' = w := by
  by_cases h1 : 1 ≤ x
  · by_cases h2 : x ≤ 4611686018427387904
    · rw [decide_eq_true ⟨h1, h2⟩]
      go_enter Tryd.func47, Tryd.ntmps47
      go_wp2
      go_ret
      exact ⟨rfl, rfl⟩
    · rw [decide_eq_false (by omega)]
      go_enter Tryd.func47, Tryd.ntmps47
      go_wp2
      go_ret
      exact ⟨rfl, rfl⟩
  · rw [decide_eq_false (by omega)]
    go_enter Tryd.func47, Tryd.ntmps47
    go_wp2
    go_ret
    exact ⟨rfl, rfl⟩

theorem cisKey (s : Bytes) (w : World) (hs : s.length ≤ 140737488355328) : Calls Tryd.prog 50 #[str s] w fun e w' => e = .returned (.bool (keyOk s)) ∧ w' = w := by
  unfold keyOk str
  by_cases h1 : 1 ≤ s.length
  · have h1' : 0 < s.length := h1
    by_cases h2 : s.length ≤ 8
    · rw [decide_eq_true h1, decide_eq_true h2]
      clear hs
      go_enter Tryd.func50, Tryd.ntmps50
      go_wp2
      go_ret
      exact ⟨by simp; omega, rfl⟩
    · rw [decide_eq_true h1, decide_eq_false h2]
      clear hs
      go_enter Tryd.func50, Tryd.ntmps50
      go_wp2
      go_ret
      exact ⟨by simp; omega, rfl⟩
  · rw [decide_eq_false h1]
    obtain rfl : s = [] := List.eq_nil_of_length_eq_zero (by omega)
    clear hs h1
    go_enter Tryd.func50, Tryd.ntmps50
    go_wp2
    go_ret
    exact ⟨by simp, rfl⟩

theorem cisValue (s : Bytes) (w : World) : Calls Tryd.prog 51 #[str s] w fun e w' => e = .returned (.bool (decide (s.length ≤ 8))) ∧ w' = w := by
  unfold str
  go_enter Tryd.func51, Tryd.ntmps51
  go_wp2
  go_ret
  exact ⟨by simp; omega, rfl⟩

theorem cnumber (s : Bytes) (w : World) (e : Env w) : Calls Tryd.prog 52 #[str s] w fun e w' => e = .returned (.tuple #[.int .i64 (numN s), .bool (numOk s)]) ∧ Below w.heap.size w w' := by
  have hz := size_str s
  have hd := data_str s
  unfold numN numOk
  by_cases h8 : 8 < s.length
  · rw [if_pos h8, if_pos h8]
    unfold str
    clear hz hd
    go_enter Tryd.func52, Tryd.ntmps52
    go_wp2
    go_ret2
    exact ⟨rfl, Below.refl _ _⟩
  · rw [if_neg h8, if_neg h8]
    cases ha : Lib.atoi s with
    | none =>
      obtain ⟨tp, p, hv⟩ := e.synt
      have HC := Lib.hid (Tryd.strconv_Atoi_err_var ⟨s.toArray⟩ (by rw [hz]; omega) (by rw [hd]; exact ha) tp p w hv)
      simp only [str]
      clear hz hd hv ha
      go_enter Tryd.func52, Tryd.ntmps52
      go_wp2_with fail
      refine HC.out.mono ?_
      rintro e w1 ⟨N, rfl, _, _, hb1⟩
      go_wp2
      go_ret2
      exact ⟨rfl, hb1⟩
    | some n =>
      have hbd := Lib.atoi_bound ha (by omega)
      have HC := Lib.hid (Tryd.strconv_Atoi ⟨s.toArray⟩ n (by rw [hz]; omega) (by rw [hd]; exact ha) w)
      have HI := Lib.hid fun w' => Tryd.strconv_Itoa n (by omega) (by omega) w'
      have hpow := Lib.hid e.pow
      have hsz := e.size
      have HE : Hid ((Lib.itoa n == s) = decide (Lib.itoa n = s)) := by
        by_cases hi : Lib.itoa n = s
        · rw [hi]; simp [Hid]
        · rw [decide_eq_false hi]; simpa [Hid] using hi
      simp only [str]
      clear hz hd ha
      go_enter Tryd.func52, Tryd.ntmps52
      go_wp2_with fail
      refine HC.out.mono ?_
      rintro e w1 ⟨rfl, t, rfl⟩
      have hb1 := Lib.bytesWorld_below w 5 t
      generalize Lib.bytesWorld w 5 t = w1 at hb1
      have hp1 : Lib.TabIs Tryd.prog w1 "internal/strconv.uint64pow10" .u64 Lib.pow10Tab := var?_below hb1 gPow (by omega) hpow.out
      go_wp2_with fail
      refine (HI.out _ hp1).mono ?_
      rintro e w2 ⟨rfl, k, os, rfl⟩
      have hb2 := hb1.trans ((Lib.below_grow w1.heap.size w1 (Nat.le_refl _) k os).mono hb1.size)
      generalize Sort.grow (w1.drewN k) os = w2 at hb2
      go_wp2
      all_goals go_ret2
      all_goals exact ⟨by first | rfl | exact congrArg (fun b => Ending.returned (.tuple #[.int .i64 n, .bool b])) HE.out, hb2⟩
end Go.Proofs.YtjdageiphebfpaaDoor
