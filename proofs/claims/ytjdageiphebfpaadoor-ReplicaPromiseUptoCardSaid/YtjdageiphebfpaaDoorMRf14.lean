/- The reference's one; words for TakeState. -/
import Derived.Test.YtjdageiphebfpaaDoorMRf13
import Derived.Test.YtjdageiphebfpaaDoorMRlog
namespace Go.Proofs.YtjdageiphebfpaaDoor
open Go.RowKit
open Pl Mem

namespace Pl
def oneS (b : Bytes) : Nat × St := nNum b 0 4611686018427387904 ⟨0, false⟩
def oneBad (b : Bytes) : Bool := (nEnd b (oneS b).2).bad
def oneV (b : Bytes) : Int := if oneBad b = true then -1 else ((oneS b).1 : Int)

structure TC where
  st : St
  l : List Nat
def tcStep (b : Bytes) (x : TC) : TC := ⟨(nNum b 0 4611686018427387904 x.st).2, x.l ++ [(nNum b 0 4611686018427387904 x.st).1]⟩
def tcIter (b : Bytes) : Nat → TC → TC
  | 0, x => x
  | q + 1, x => tcStep b (tcIter b q x)
def tC (b : Bytes) (n : Nat) : TC := tcIter b n ⟨⟨0, false⟩, []⟩
def tShot (b : Bytes) (n : Nat) : Bytes × St := nBytes b 0 b.length (tC b n).st
def tK (b : Bytes) (n : Nat) : Nat × St := nNum b 0 16 (tShot b n).2
/-- The tail: at most so many commands; none: one of them is none. -/
def tIter (b : Bytes) : Nat → St → List Cmd → Option (St × List Cmd)
  | 0, s, l => some (s, l)
  | q + 1, s, l => if s.bad = true then some (s, l) else if eOk (nBytes b 0 b.length s).1 = true then tIter b q (nBytes b 0 b.length s).2 (l ++ [eCmd (nBytes b 0 b.length s).1]) else none
def tT (b : Bytes) (n : Nat) : Option (St × List Cmd) := tIter b (tK b n).1 (tK b n).2 []
def tsOk (b : Bytes) (n : Nat) : Prop := ∃ s l, tT b n = some (s, l) ∧ (nEnd b s).bad = false ∧ resR (tShot b n).1 ∧ (tC b n).l.getD (n - 1) 0 + l.length ≤ 4611686018427387904
theorem tcIter_len (b : Bytes) (q : Nat) (x : TC) : (tcIter b q x).l.length = x.l.length + q := by
  induction q with
  | zero => rfl
  | succ q ih => simp only [tcIter, tcStep, List.length_append, ih, List.length_singleton]; omega
theorem tIter_bad (b : Bytes) (q : Nat) (s : St) (l : List Cmd) (h : s.bad = true) : tIter b q s l = some (s, l) := by
  cases q with
  | zero => rfl
  | succ q => unfold tIter; rw [if_pos h]
theorem nBytes_len (b : Bytes) (lo hi : Int) (s : St) : (nBytes b lo hi s).1.length ≤ b.length := by
  unfold nBytes
  split
  · simp
  · split
    · simp
    · simp only [List.length_take, List.length_drop]; omega
end Pl

theorem none_made {w : World} {A : Option Addr} {c : Nat} {b : Bytes} {T : Nat → Prop} (hr : Rd w T 1 A b.length (u8s b)) (hn : b.length ≤ 1099511627776) (hc : b.length ≤ c) :
    NRd (w.alloc (.cells #[.slice A b.length c, .int .i64 0, .int .i64 0] 53)) w.heap.size (· < w.heap.size) b ⟨0, false⟩ :=
  ⟨by omega, Nat.zero_le _, by omega, A, c, 0, hc, by simp, Blk.new w _ _, (hr.more (T' := (· < w.heap.size)) (fun k hk _ => hk)).alloc _⟩

theorem none_ (A : Option Addr) (n c : Nat) (bs : Bytes) (T : Nat → Prop) (w : World) (hr : Rd w T 1 A n (u8s bs)) (hn : n ≤ 1099511627776) (hc : n ≤ c) :
    Calls Tryd.prog 11 #[.slice A n c] w fun e w' => e = .returned (.int .i64 (oneV bs)) ∧ Below w.heap.size w w' := by
  have hl := hr.len8
  subst hl
  have hN0 := none_made hr hn hc
  have hb0 : Below w.heap.size w (w.alloc (.cells #[.slice A bs.length c, .int .i64 0, .int .i64 0] 53)) := (Below.refl _ _).alloc (Nat.le_refl _) _
  have hz0 : (w.alloc (.cells #[.slice A bs.length c, .int .i64 0, .int .i64 0] 53)).heap.size = w.heap.size + 1 := by simp
  go_enter Tryd.func11, Tryd.ntmps11
  go_wp2_with fail
  generalize w.alloc (.cells #[.slice A bs.length c, .int .i64 0, .int .i64 0] 53) = W0 at hN0 hb0 hz0 ⊢
  have HZ := Lib.hid hz0
  clear hz0
  refine (show Calls Tryd.prog 16 #[.pointer (some ⟨w.heap.size, 0, none⟩), .int .i64 0, .int .i64 4611686018427387904] W0 fun e w' => e = .returned (.int .i64 (oneS bs).1) ∧ NRd w' w.heap.size (· < w.heap.size) bs (oneS bs).2 ∧ Keep W0.heap.size (· = w.heap.size) W0 w' from nnum w.heap.size (· < w.heap.size) bs ⟨0, false⟩ 0 4611686018427387904 W0 hN0).mono ?_
  rintro e W1 ⟨rfl, hN1, hk1⟩
  have HE := Lib.hid (nend w.heap.size (· < w.heap.size) bs (oneS bs).2 W1 hN1)
  have hb1 : Below w.heap.size w W1 := hb0.trans ((hk1.mono (B' := w.heap.size) (S' := fun _ => False) (by have := HZ.out; omega) (fun k hk e => by omega)).to_below (fun _ _ h => h))
  have hs1 : w.heap.size + 1 ≤ W1.heap.size := by have := hk1.size; have := HZ.out; omega
  clear hN0 hN1 hk1 hb0
  go_wp2_with fail
  refine HE.out.mono ?_
  rintro e W2 ⟨rfl, hN2, hk2⟩
  have hb2 : Below w.heap.size w W2 := hb1.trans ((hk2.mono (B' := w.heap.size) (S' := fun _ => False) (by omega) (fun k hk e => by omega)).to_below (fun _ _ h => h))
  obtain ⟨_, _, _, A3, c3, E, _, hE, hbE, _⟩ := hN2
  have cE : W2.cell? ⟨w.heap.size, 2, none⟩ = some (.int .i64 E) := hbE.cell 2
  clear hbE HE
  by_cases hbad : (nEnd bs (oneS bs).2).bad = true
  · have hE0 : E ≠ 0 := fun e => by have := hE.2 e; rw [hbad] at this; cases this
    have hE1 : ((E : Int) != 0) = true := by simp; omega
    have HF : Hid (oneV bs = -1) := by show _ = _; unfold oneV oneBad; rw [if_pos hbad]
    clear hbad hE
    go_wp2_with fail
    go_ret
    exact ⟨by rw [HF.out]; rfl, hb2⟩
  · have hbad' : (nEnd bs (oneS bs).2).bad = false := by simpa using hbad
    obtain rfl : E = 0 := hE.1 hbad'
    have HF : Hid (oneV bs = ((oneS bs).1 : Int)) := by show _ = _; unfold oneV oneBad; rw [if_neg hbad]
    clear hbad hbad' hE
    go_wp2_with fail
    go_ret
    exact ⟨by rw [HF.out]; rfl, hb2⟩

/-- What holds while a state is taken. -/
structure TkI (w W : World) (bs : Bytes) (s : St) (cv : Value) (cs : List Nat) (sv : Value) (sh : Bytes) (tv : Value) (tl : List Cmd) : Prop where
  rd : NRd W w.heap.size (· < w.heap.size) bs s
  oc : W.ownsRow (w.heap.size + 1) 3 1 cv cs.length (ints (cs.map fun (x : Nat) => (x : Int)))
  os : W.ownsRow (w.heap.size + 1) 5 1 sv sh.length (u8s sh)
  ot : W.ownsRow (w.heap.size + 1) 57 7 tv tl.length (cmdsCells tl)
  keep : Keep w.heap.size (fun _ => False) w W
  size : w.heap.size + 1 ≤ W.heap.size
section
variable {w W W' : World} {bs : Bytes} {s s' : St} {cv sv tv : Value} {cs : List Nat} {sh : Bytes} {tl : List Cmd}
theorem TkI.call (h : TkI w W bs s cv cs sv sh tv tl) (hN : NRd W' w.heap.size (· < w.heap.size) bs s') (hk : Keep W.heap.size (· = w.heap.size) W W') : TkI w W' bs s' cv cs sv sh tv tl where
  rd := hN
  oc := own_keepB h.oc hk (Nat.le_refl _) (fun k _ _ hb => by omega)
  os := own_keepB h.os hk (Nat.le_refl _) (fun k _ _ hb => by omega)
  ot := own_keepB h.ot hk (Nat.le_refl _) (fun k _ _ hb => by omega)
  keep := h.keep.trans (hk.mono h.keep.size (fun k hk e => by omega))
  size := Nat.le_trans h.size hk.size
theorem TkI.belowM (h : TkI w W bs s cv cs sv sh tv tl) (hb : Below W.heap.size W W') : TkI w W' bs s cv cs sv sh tv tl :=
  h.call (h.rd.keep (Keep.of_below (S := fun _ => False) hb) (Nat.le_refl _) (fun h => h) (fun _ _ _ h => h)) (Keep.of_below hb)
theorem TkI.alloc (h : TkI w W bs s cv cs sv sh tv tl) (o : Obj) : TkI w (W.alloc o) bs s cv cs sv sh tv tl := h.belowM ((Below.refl _ _).alloc (Nat.le_refl _) _)
theorem heap_ne {e e' : TypeId} {c c' : Array Value} {k : Nat} {W : World} (h : W.heap[k]? = some (.cells c e (0, 0))) (h' : W.heap[k]? = some (.cells c' e' (0, 0))) : e = e' := by
  rw [h] at h'
  injection h' with h'
  injection h' with _ h'
/-- One count more. -/
theorem TkI.addC {W1 : World} (h : TkI w W bs s cv cs sv sh tv tl) (x : Nat) {v' : Value} (hown : W1.ownsRow (w.heap.size + 1) 3 1 v' (cs.length + 1) (ints (cs.map fun (x : Nat) => (x : Int)) ++ [.int .i64 x])) (hg : W.grownBy W1 cv.ownBlock) : TkI w W1 bs s v' (cs ++ [x]) sv sh tv tl where
  rd := h.rd.keep (Keep.of_row hg) (Nat.le_refl _) (fun e => by have := (own_obj h.oc e).1; omega) (fun k _ hk e => by have := (own_obj h.oc e).1; omega)
  oc := by
    have e : (cs ++ [x]).length = cs.length + 1 := by simp
    rw [e]
    simpa [ints] using hown
  os := own_keepB h.os (Keep.of_row hg) (Nat.le_refl _) (fun k cur hk _ e => by obtain ⟨_, c2, h2⟩ := own_obj h.oc e; exact absurd (heap_ne hk h2) (by decide))
  ot := own_keepB h.ot (Keep.of_row hg) (Nat.le_refl _) (fun k cur hk _ e => by obtain ⟨_, c2, h2⟩ := own_obj h.oc e; exact absurd (heap_ne hk h2) (by decide))
  keep := h.keep.grown hg (by have := h.size; omega) (fun k e => Or.inl (by have := (own_obj h.oc e).1; omega))
  size := Nat.le_trans h.size hg.size
/-- One command more. -/
theorem TkI.addT {W1 : World} (h : TkI w W bs s cv cs sv sh tv tl) (x : Cmd) {v' : Value} (hown : W1.ownsRow (w.heap.size + 1) 57 7 v' (tl.length + 1) (cmdsCells tl ++ cmdCells x)) (hg : W.grownBy W1 tv.ownBlock) : TkI w W1 bs s cv cs sv sh v' (tl ++ [x]) where
  rd := h.rd.keep (Keep.of_row hg) (Nat.le_refl _) (fun e => by have := (own_obj h.ot e).1; omega) (fun k _ hk e => by have := (own_obj h.ot e).1; omega)
  oc := own_keepB h.oc (Keep.of_row hg) (Nat.le_refl _) (fun k cur hk _ e => by obtain ⟨_, c2, h2⟩ := own_obj h.ot e; exact absurd (heap_ne hk h2) (by decide))
  os := own_keepB h.os (Keep.of_row hg) (Nat.le_refl _) (fun k cur hk _ e => by obtain ⟨_, c2, h2⟩ := own_obj h.ot e; exact absurd (heap_ne hk h2) (by decide))
  ot := by
    have e : (tl ++ [x]).length = tl.length + 1 := by simp
    rw [e, ← cmdsCells_snoc]
    exact hown
  keep := h.keep.grown hg (by have := h.size; omega) (fun k e => Or.inl (by have := (own_obj h.ot e).1; omega))
  size := Nat.le_trans h.size hg.size
end
/-- What TakeState hands back. -/
def TsRet (bs : Bytes) (n : Nat) (w : World) (e : Ending) (w' : World) : Prop :=
  ∃ cv sv tv ok, e = .returned (.tuple #[cv, sv, tv, .bool ok]) ∧ (ok = true ↔ tsOk bs n) ∧ Below w.heap.size w w' ∧ (∃ A1 n1 c1 A2 n2 c2 A3 n3 c3, cv = .slice A1 n1 c1 ∧ sv = .slice A2 n2 c2 ∧ tv = .slice A3 n3 c3) ∧
    (ok = true → ∃ s l, tT bs n = some (s, l) ∧ w'.ownsRow w.heap.size 3 1 cv n (ints ((tC bs n).l.map fun (x : Nat) => (x : Int))) ∧ w'.ownsRow w.heap.size 5 1 sv (tShot bs n).1.length (u8s (tShot bs n).1) ∧ w'.ownsRow w.heap.size 57 7 tv l.length (cmdsCells l))
end Go.Proofs.YtjdageiphebfpaaDoor
