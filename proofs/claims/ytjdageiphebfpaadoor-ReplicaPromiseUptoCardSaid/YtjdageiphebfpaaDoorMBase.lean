/- Plain functions and laws: numbers as bytes. No program in sight. -/
import Init
import Derived.WalkKit
import Derived.IntWalk
import Derived.Laws.BitsAllLaws
import Derived.Laws.BitsLemmas
import Derived.WalkLawsBesides
import Derived.Laws.OwnMore
import Derived.Laws.Rows
import Derived.Deep.Draws
import Derived.Lib.Hide
import Derived.Deep.AppendLies
import Derived.Lib.AtoiBound
import Derived.Lib.ItoaNum
namespace Go.Proofs.YtjdageiphebfpaaDoor
namespace Pl

abbrev Bytes := List UInt8

/-- What reading one number gives: the number and the place behind it, or an error. -/
inductive Tk where
  | ok (v next : Nat)
  | err (e : Nat)

def Tk.v : Tk → Nat | .ok v _ => v | .err _ => 0
def Tk.n : Tk → Nat | .ok _ n => n | .err _ => 0
def Tk.e : Tk → Nat | .ok _ _ => 0 | .err e => e

def tkGo (b : Bytes) (p : Nat) : Nat → Nat → Nat → Tk
  | 0, _, _ => .err 14
  | f + 1, i, v =>
    match b[p + i]? with
    | none => .err 10
    | some c =>
      if 127 < c.toNat then tkGo b p f (i + 1) (v + c.toNat % 128 * 128 ^ i)
      else if (c.toNat = 0 ∧ 0 < i) ∨ 4611686018427387904 < v + c.toNat % 128 * 128 ^ i then .err 14
      else .ok (v + c.toNat % 128 * 128 ^ i) (p + i + 1)

def takeInt (b : Bytes) (p : Nat) : Tk := tkGo b p 9 0 0

def Tk.Good (b : Bytes) (p : Nat) : Tk → Prop
  | .ok v n => v ≤ 4611686018427387904 ∧ p < n ∧ n ≤ b.length
  | .err e => 0 < e ∧ e < 15

theorem tkGo_good (b : Bytes) (p : Nat) : ∀ f i v : Nat, (tkGo b p f i v).Good b p := by
  intro f
  induction f with
  | zero => intro i v; simp [tkGo, Tk.Good]
  | succ f ih =>
    intro i v
    rw [tkGo]
    cases h : b[p + i]? with
    | none => simp [Tk.Good]
    | some c =>
      have hl : p + i < b.length := by
        rcases Nat.lt_or_ge (p + i) b.length with h1 | h1
        · exact h1
        · rw [List.getElem?_eq_none h1] at h; cases h
      simp only []
      by_cases h1 : 127 < c.toNat
      · rw [if_pos h1]; exact ih _ _
      · rw [if_neg h1]
        by_cases h2 : (c.toNat = 0 ∧ 0 < i) ∨ 4611686018427387904 < v + c.toNat % 128 * 128 ^ i
        · rw [if_pos h2]; simp [Tk.Good]
        · rw [if_neg h2]; simp only [Tk.Good]; omega

theorem takeInt_good (b : Bytes) (p : Nat) : (takeInt b p).Good b p := tkGo_good b p 9 0 0

theorem takeInt_ok {b : Bytes} {p v n : Nat} (h : takeInt b p = .ok v n) : v ≤ 4611686018427387904 ∧ p < n ∧ n ≤ b.length := by
  have := takeInt_good b p; rw [h] at this; exact this
theorem takeInt_err {b : Bytes} {p e : Nat} (h : takeInt b p = .err e) : 0 < e ∧ e < 15 := by
  have := takeInt_good b p; rw [h] at this; exact this

/-- In the i-th round: what is read so far lies below 128^i. -/
theorem step_lt {i v c : Nat} (hv : v < 128 ^ i) : v + c % 128 * 128 ^ i < 128 ^ (i + 1) := by
  have h1 : c % 128 ≤ 127 := by omega
  have h2 : c % 128 * 128 ^ i ≤ 127 * 128 ^ i := Nat.mul_le_mul_right _ h1
  rw [Nat.pow_succ]; omega

/-! ### the machine's reader -/
structure St where
  p : Nat
  bad : Bool

def mCount (b : Bytes) (most : Nat) (s : St) : Nat × St :=
  match takeInt b s.p with
  | .err _ => (0, ⟨s.p, true⟩)
  | .ok v n => if s.bad = true ∨ most < v then (0, ⟨s.p, true⟩) else (v, ⟨n, false⟩)

def mText (b : Bytes) (most : Nat) (s : St) : Bytes × St :=
  let r := mCount b most s
  if r.2.bad = true ∨ b.length - r.2.p < r.1 then ([], ⟨r.2.p, true⟩) else ((b.drop r.2.p).take r.1, ⟨r.2.p + r.1, false⟩)

theorem mCount_p (b : Bytes) (most : Nat) (s : St) (h : s.p ≤ b.length) : (mCount b most s).2.p ≤ b.length ∧ s.p ≤ (mCount b most s).2.p := by
  unfold mCount
  cases ht : takeInt b s.p with
  | err e => exact ⟨h, Nat.le_refl _⟩
  | ok v n =>
    have := takeInt_ok ht
    simp only []
    split
    · exact ⟨h, Nat.le_refl _⟩
    · exact ⟨by simp only []; omega, by simp only []; omega⟩
theorem mCount_le (b : Bytes) (most : Nat) (s : St) : (mCount b most s).1 ≤ most := by
  unfold mCount
  cases ht : takeInt b s.p with
  | err e => exact Nat.zero_le _
  | ok v n =>
    simp only []
    split
    · exact Nat.zero_le _
    · simp only []; omega
theorem mText_p (b : Bytes) (most : Nat) (s : St) (h : s.p ≤ b.length) : (mText b most s).2.p ≤ b.length := by
  have h1 := (mCount_p b most s h).1
  unfold mText
  simp only []
  split
  · exact h1
  · simp only []; omega
theorem mText_le (b : Bytes) (most : Nat) (s : St) : (mText b most s).1.length ≤ most := by
  have h1 := mCount_le b most s
  unfold mText
  simp only []
  split
  · exact Nat.zero_le _
  · simp only [List.length_take, List.length_drop]; omega
end Pl
end Go.Proofs.YtjdageiphebfpaaDoor

namespace Go.Proofs.YtjdageiphebfpaaDoor
namespace Ar
open Go.RowKit

theorem ofInt64 (a : Nat) (ha : a < 9223372036854775808) : (BitVec.ofInt 64 (a : Int)).toNat = a := by
  rw [BitVec.ofInt_natCast, BitVec.toNat_ofNat]; exact Nat.mod_eq_of_lt (by omega)
theorem and64 (a b : Nat) (ha : a < 9223372036854775808) (hb : b < 9223372036854775808) : bits .and .i64 (a : Int) (b : Int) = ((a &&& b : Nat) : Int) := by
  have hx : a &&& b < 2 ^ 63 := Nat.and_lt_two_pow _ (by omega)
  show IntKind.i64.wrap ((BitVec.ofInt 64 (a : Int) &&& BitVec.ofInt 64 (b : Int)).toNat : Int) = _
  rw [BitVec.toNat_and, ofInt64 a ha, ofInt64 b hb, IntKind.wrap_i64]
  omega
theorem or64 (a b : Nat) (ha : a < 9223372036854775808) (hb : b < 9223372036854775808) : bits .or .i64 (a : Int) (b : Int) = ((a ||| b : Nat) : Int) := by
  have hx : a ||| b < 2 ^ 63 := Nat.or_lt_two_pow (by omega) (by omega)
  show IntKind.i64.wrap ((BitVec.ofInt 64 (a : Int) ||| BitVec.ofInt 64 (b : Int)).toNat : Int) = _
  rw [BitVec.toNat_or, ofInt64 a ha, ofInt64 b hb, IntKind.wrap_i64]
  omega
theorem ofInt8 (a : Nat) (ha : a < 256) : (BitVec.ofInt 8 (a : Int)).toNat = a := by
  rw [BitVec.ofInt_natCast, BitVec.toNat_ofNat]; exact Nat.mod_eq_of_lt (by omega)
theorem wrap_u8 (a : Nat) (ha : a < 256) : IntKind.u8.wrap (a : Int) = a := by
  unfold IntKind.wrap
  simp [IntKind.signed, IntKind.bits]
  omega
theorem and8 (a b : Nat) (ha : a < 256) (hb : b < 256) : bits .and .u8 (a : Int) (b : Int) = ((a &&& b : Nat) : Int) := by
  have hx : a &&& b < 2 ^ 8 := Nat.and_lt_two_pow _ (by omega)
  show IntKind.u8.wrap ((BitVec.ofInt 8 (a : Int) &&& BitVec.ofInt 8 (b : Int)).toNat : Int) = _
  rw [BitVec.toNat_and, ofInt8 a ha, ofInt8 b hb, wrap_u8 _ (by omega)]
theorem and127 (x : Nat) : x &&& 127 = x % 128 := Nat.and_two_pow_sub_one_eq_mod x 7

theorem pow128_le {q : Nat} (h : q < 9) : 128 ^ q ≤ 72057594037927936 := by
  have : 128 ^ q ≤ 128 ^ 8 := Nat.pow_le_pow_right (by omega) (by omega)
  have e : 128 ^ 8 = 72057594037927936 := by decide
  omega
theorem two128 (q : Nat) : 2 ^ (7 * q) = 128 ^ q := by rw [Nat.pow_mul]

theorem tkStep {q v x : Nat} (hq : q < 9) (hv : v < 128 ^ q) (hx : x < 256) :
    bits BinOp.or IntKind.i64 (v : Int) (wrap64 (wrap64 (bits BinOp.and IntKind.u8 (x : Int) 127) * 2 ^ (7 * q))) = ((v + x % 128 * 128 ^ q : Nat) : Int) := by
  have hp := pow128_le hq
  have h1 : bits BinOp.and IntKind.u8 (x : Int) 127 = ((x % 128 : Nat) : Int) := by
    have := and8 x 127 hx (by omega)
    rw [and127] at this
    exact this
  have hm : x % 128 * 128 ^ q ≤ 127 * 128 ^ q := Nat.mul_le_mul_right _ (by omega)
  have hm2 : x % 128 * 128 ^ q ≤ 127 * 72057594037927936 := Nat.le_trans hm (Nat.mul_le_mul_left _ hp)
  have h2 : wrap64 ((x % 128 : Nat) : Int) = ((x % 128 : Nat) : Int) := IntWalk.wrap64_in _ ⟨by omega, by omega⟩
  have h3 : ((x % 128 : Nat) : Int) * 2 ^ (7 * q) = ((x % 128 * 128 ^ q : Nat) : Int) := by
    rw [← two128, Int.natCast_mul, Int.natCast_pow]; rfl
  have h4 : wrap64 ((x % 128 * 128 ^ q : Nat) : Int) = ((x % 128 * 128 ^ q : Nat) : Int) := IntWalk.wrap64_in _ ⟨by omega, by omega⟩
  rw [h1, h2, h3, h4, or64 v _ (by omega) (by omega)]
  congr 1
  have h5 : x % 128 * 128 ^ q = (x % 128) <<< (7 * q) := by rw [Nat.shiftLeft_eq, two128]
  rw [h5, Nat.or_comm, ← Nat.shiftLeft_add_eq_or_of_lt (by rw [two128]; exact hv), Nat.add_comm]

theorem ofInt32 (a : Nat) (ha : a < 4294967296) : (BitVec.ofInt 32 (a : Int)).toNat = a := by
  rw [BitVec.ofInt_natCast, BitVec.toNat_ofNat]; exact Nat.mod_eq_of_lt (by omega)
theorem wrap_u32 (a : Nat) (ha : a < 4294967296) : IntKind.u32.wrap (a : Int) = a := by
  unfold IntKind.wrap
  simp [IntKind.signed, IntKind.bits]
  omega
theorem xor32 (a b : Nat) (ha : a < 4294967296) (hb : b < 4294967296) : bits .xor .u32 (a : Int) (b : Int) = ((a ^^^ b : Nat) : Int) := by
  have hx : a ^^^ b < 2 ^ 32 := Nat.xor_lt_two_pow (by omega) (by omega)
  show IntKind.u32.wrap ((BitVec.ofInt 32 (a : Int) ^^^ BitVec.ofInt 32 (b : Int)).toNat : Int) = _
  rw [BitVec.toNat_xor, ofInt32 a ha, ofInt32 b hb, wrap_u32 _ (by omega)]
theorem and32 (a b : Nat) (ha : a < 4294967296) (hb : b < 4294967296) : bits .and .u32 (a : Int) (b : Int) = ((a &&& b : Nat) : Int) := by
  have hx : a &&& b < 2 ^ 32 := Nat.and_lt_two_pow _ (by omega)
  show IntKind.u32.wrap ((BitVec.ofInt 32 (a : Int) &&& BitVec.ofInt 32 (b : Int)).toNat : Int) = _
  rw [BitVec.toNat_and, ofInt32 a ha, ofInt32 b hb, wrap_u32 _ (by omega)]
end Ar
end Go.Proofs.YtjdageiphebfpaaDoor

namespace Go.Proofs.YtjdageiphebfpaaDoor
namespace Mem
open Go.RowKit

/-- Of the blocks below B all but those in S are as they were; the streams are as they were; no block has gone. -/
structure Keep (B : Nat) (S : Nat → Prop) (w w' : World) : Prop where
  os : w'.os = w.os
  tape : w'.tape = w.tape
  output : w'.output = w.output
  size : w.heap.size ≤ w'.heap.size
  block : ∀ k, k < B → ¬ S k → w'.heap[k]? = w.heap[k]?

section
variable {B B' : Nat} {S S' : Nat → Prop} {a b c w w' : World}
theorem Keep.refl (B : Nat) (S : Nat → Prop) (w : World) : Keep B S w w := ⟨rfl, rfl, rfl, Nat.le_refl _, fun _ _ _ => rfl⟩
theorem Keep.trans (h : Keep B S a b) (k : Keep B S b c) : Keep B S a c :=
  ⟨k.os.trans h.os, k.tape.trans h.tape, k.output.trans h.output, Nat.le_trans h.size k.size, fun i hi hs => (k.block i hi hs).trans (h.block i hi hs)⟩
theorem Keep.mono (h : Keep B S w w') (hB : B' ≤ B) (hS : ∀ k, k < B' → S k → S' k) : Keep B' S' w w' :=
  ⟨h.os, h.tape, h.output, h.size, fun k hk hs => h.block k (Nat.lt_of_lt_of_le hk hB) (fun e => hs (hS k hk e))⟩
/-- A callee's contract, told in the caller's words. -/
theorem Keep.and (h : Keep B S a b) (k : Keep B' S' b c) (hB : B ≤ B') (hS : ∀ k, k < B → S' k → S k) : Keep B S a c := h.trans (k.mono hB hS)
theorem Keep.drew (h : Keep B S a w) : Keep B S a w.drew := ⟨h.os, h.tape, h.output, h.size, h.block⟩
theorem Keep.drewN (h : Keep B S a w) (n : Nat) : Keep B S a (w.drewN n) := ⟨h.os, h.tape, h.output, h.size, h.block⟩
theorem Keep.alloc (h : Keep B S a w) (hB : B ≤ w.heap.size) (o : Obj) : Keep B S a (w.alloc o) :=
  h.trans ⟨rfl, rfl, rfl, by simp, fun k hk _ => Below.heap_alloc _ _ _ (by omega)⟩
theorem Keep.setCell (h : Keep B S a w) {p : Addr} (hp : B ≤ p.block ∨ S p.block) (u : Value) : Keep B S a (w.setCell p u) :=
  h.trans ⟨rfl, rfl, rfl, by simp [World.setCell], fun k hk hs => Below.heap_setCell _ _ _ _ (by
    rintro rfl
    rcases hp with hp | hp
    · omega
    · exact hs hp)⟩
theorem Keep.own {g : Nat} (h : Keep B (· = g) a w) (i : Nat) (u : Value) : Keep B (· = g) a (w.setCell ⟨g, i, none⟩ u) := h.setCell (p := ⟨g, i, none⟩) (Or.inr rfl) u
theorem Keep.new {g : Nat} (h : Keep B S a w) (hg : B ≤ g) (i : Nat) (u : Value) : Keep B S a (w.setCell ⟨g, i, none⟩ u) := h.setCell (p := ⟨g, i, none⟩) (Or.inl hg) u
theorem Keep.of_below (h : Below B w w') : Keep B S w w' := ⟨h.os, h.tape, h.output, h.size, fun k hk _ => h.block k hk⟩
theorem Keep.to_below (h : Keep B S w w') (hS : ∀ k, k < B → ¬ S k) : Below B w w' := ⟨h.os, h.tape, h.output, h.size, fun k hk => h.block k hk (hS k hk)⟩
theorem Keep.grown (h : Keep B S a w) {row : Option Nat} (hg : w.grownBy w' row) (hB : B ≤ w.heap.size) (hr : ∀ k, row = some k → B ≤ k ∨ S k) : Keep B S a w' :=
  h.trans ⟨hg.os, hg.tape, hg.output, hg.size, fun k hk hs => hg.block k (by omega) (fun e => by
    rcases hr k e.symm with h1 | h1
    · omega
    · exact hs h1)⟩
theorem Keep.of_grown {g : Nat} (h : w.grownBy w' (some g)) : Keep w.heap.size (· = g) w w' := (Keep.refl _ _ _).grown h (Nat.le_refl _) (fun _ e => Or.inr (Option.some.inj e).symm)
theorem Keep.of_row {row : Option Nat} (h : w.grownBy w' row) : Keep w.heap.size (fun k => row = some k) w w' := (Keep.refl _ _ _).grown h (Nat.le_refl _) (fun _ e => Or.inr e)
theorem Keep.cell (h : Keep B S w w') {p : Addr} (hp : p.block < B) (hs : ¬ S p.block) : w'.cell? p = w.cell? p := World.cell?_of_block (w := w) (h.block p.block hp hs)
theorem Keep.frozen (h : Keep B S w w') {p : Addr} (hp : p.block < B) (hs : ¬ S p.block) : w'.frozen? p = w.frozen? p := World.frozen?_of_block (w := w) (h.block p.block hp hs)
end

/-- Block g is just the cells cs of element type t, none frozen. -/
def Blk (w : World) (g : Nat) (t : TypeId) (cs : Array Value) : Prop := w.heap[g]? = some (.cells cs t (0, 0))

section
variable {w w' : World} {g : Nat} {t : TypeId} {cs : Array Value}
theorem Blk.lt (h : Blk w g t cs) : g < w.heap.size := by
  rcases Nat.lt_or_ge g w.heap.size with hlt | hge
  · exact hlt
  · unfold Blk at h; rw [Array.getElem?_eq_none hge] at h; cases h
theorem Blk.cell (h : Blk w g t cs) (i : Nat) : w.cell? ⟨g, i, none⟩ = cs[i]? := cell_of_row w g i cs t (0, 0) h
theorem Blk.frozen (h : Blk w g t cs) (i : Nat) : w.frozen? ⟨g, i, none⟩ = false := by
  unfold Blk at h
  simp [World.frozen?, h]
theorem Blk.new (w : World) (t : TypeId) (cs : Array Value) : Blk (w.alloc (.cells cs t)) w.heap.size t cs := heap_alloc_new w _
theorem Blk.new_ {w : World} {g : Nat} (hg : w.heap.size = g) (t : TypeId) (cs : Array Value) : Blk (w.alloc (.cells cs t)) g t cs := hg ▸ Blk.new w t cs
theorem Blk.drew (h : Blk w g t cs) : Blk w.drew g t cs := h
theorem Blk.drewN (h : Blk w g t cs) (n : Nat) : Blk (w.drewN n) g t cs := h
theorem Blk.alloc (h : Blk w g t cs) (o : Obj) : Blk (w.alloc o) g t cs := (Below.heap_alloc w o g h.lt).trans h
theorem Blk.set_ (h : Blk w g t cs) (i : Nat) (u : Value) : Blk (w.setCell ⟨g, i, none⟩ u) g t (cs.setIfInBounds i u) := by
  unfold Blk at h ⊢
  simp [World.setCell, Array.getElem?_modify, h]
theorem Blk.far (h : Blk w g t cs) {p : Addr} (hp : g ≠ p.block) (u : Value) : Blk (w.setCell p u) g t cs := (Below.heap_setCell w p u g hp).trans h
theorem Blk.keep {B : Nat} {S : Nat → Prop} (h : Blk w g t cs) (hb : Keep B S w w') (hg : g < B) (hs : ¬ S g) : Blk w' g t cs := (hb.block g hg hs).trans h
theorem Blk.below {B : Nat} (h : Blk w g t cs) (hb : Below B w w') (hg : g < B) : Blk w' g t cs := (hb.block g hg).trans h
theorem Blk.grown {row : Option Nat} (h : Blk w g t cs) (hb : w.grownBy w' row) (hg : some g ≠ row) : Blk w' g t cs := (hb.block g h.lt hg).trans h
theorem Blk.ne_ {g' : Nat} {t' : TypeId} {cs' : Array Value} (h : Blk w g t cs) (h' : Blk w g' t' cs') (hne : t ≠ t') : g ≠ g' := by
  rintro rfl
  unfold Blk at h h'
  rw [h] at h'
  injection h' with h'
  injection h' with _ ht
  exact hne ht
end

/-- Two new blocks. -/
theorem two_new (w : World) (t1 : TypeId) (c1 : Array Value) (t2 : TypeId) (c2 : Array Value) :
    ∃ W, W = (w.alloc (.cells c1 t1)).alloc (.cells c2 t2) ∧ Below w.heap.size w W ∧ Blk W w.heap.size t1 c1 ∧ Blk W (w.heap.size + 1) t2 c2 ∧ W.heap.size = w.heap.size + 2 :=
  ⟨_, rfl, ((Below.refl _ _).alloc (Nat.le_refl _) _).alloc (by simp) _, (Blk.new w _ _).alloc _, Blk.new_ (by simp) _ _, by simp⟩

theorem block_add (a : Addr) (n : Nat) : (a.add n).block = a.block := by unfold Addr.add; split <;> rfl
theorem add_add (a : Addr) (i j : Nat) : (a.add i).add j = a.add (i + j) := by
  unfold Addr.add
  by_cases hi : i = 0 <;> by_cases hj : j = 0 <;> simp [hi, hj, Nat.add_assoc]

/-- The slice value '.slice A n c' holds the cells xs (size cells an element), in a block that is in T. -/
def Rd (w : World) (T : Nat → Prop) (size : Nat) (A : Option Addr) (n : Nat) (xs : List Value) : Prop :=
  xs.length = n * size ∧ (0 < n → ∃ ad, A = some ad ∧ T ad.block ∧ ad.block < w.heap.size ∧ ∀ j u, xs[j]? = some u → w.cell? (ad.add j) = some u)

section
variable {w w' : World} {T T' : Nat → Prop} {size n : Nat} {A : Option Addr} {xs : List Value}
theorem Rd.nil_ : Rd w T size A 0 [] := ⟨by simp, fun h => absurd h (by omega)⟩
theorem Rd.more (h : Rd w T size A n xs) (hT : ∀ k, k < w.heap.size → T k → T' k) : Rd w T' size A n xs :=
  ⟨h.1, fun hn => by
    obtain ⟨ad, e, hb, hl, hc⟩ := h.2 hn
    exact ⟨ad, e, hT _ hl hb, hl, hc⟩⟩
theorem Rd.keep {B : Nat} {S : Nat → Prop} (h : Rd w T size A n xs) (hk : Keep B S w w') (hB : w.heap.size ≤ B) (hS : ∀ k, k < w.heap.size → T k → ¬ S k) : Rd w' T size A n xs :=
  ⟨h.1, fun hn => by
    obtain ⟨ad, e, hb, hl, hc⟩ := h.2 hn
    exact ⟨ad, e, hb, Nat.lt_of_lt_of_le hl hk.size, fun j u hu => (hk.cell (by rw [block_add]; omega) (by rw [block_add]; exact hS _ hl hb)).trans (hc j u hu)⟩⟩
theorem Rd.drew (h : Rd w T size A n xs) : Rd w.drew T size A n xs := h
theorem Rd.drewN (h : Rd w T size A n xs) (k : Nat) : Rd (w.drewN k) T size A n xs := h
theorem Rd.alloc (h : Rd w T size A n xs) (o : Obj) : Rd (w.alloc o) T size A n xs :=
  h.keep (S := fun _ => False) ((Keep.refl w.heap.size _ w).alloc (Nat.le_refl _) o) (Nat.le_refl _) (fun _ _ _ e => e)
theorem Rd.setCell (h : Rd w T size A n xs) {p : Addr} (hp : p.block < w.heap.size → ¬ T p.block) (u : Value) : Rd (w.setCell p u) T size A n xs :=
  h.keep (S := fun k => k = p.block) ((Keep.refl w.heap.size (fun k => k = p.block) w).setCell (p := p) (Or.inr rfl) u) (Nat.le_refl _) (fun _ hk hT e => hp (e ▸ hk) (e ▸ hT))
theorem Rd.cut (h : Rd w T size A n xs) {k cap : Nat} (hk : k ≤ n) (hc : n ≤ cap) :
    Rd w T size (if cap = k then A else A.map (·.add (k * size))) (n - k) (xs.drop (k * size)) := by
  refine ⟨by rw [List.length_drop, h.1, Nat.sub_mul], fun hn => ?_⟩
  obtain ⟨ad, rfl, hb, hl, hcell⟩ := h.2 (by omega)
  rw [if_neg (by omega)]
  refine ⟨ad.add (k * size), rfl, by rw [block_add]; exact hb, by rw [block_add]; exact hl, fun j u hu => ?_⟩
  rw [add_add]
  exact hcell _ u (by rw [← hu, List.getElem?_drop])
theorem Rd.take_ (h : Rd w T size A n xs) {k : Nat} (hk : k ≤ n) : Rd w T size A k (xs.take (k * size)) := by
  refine ⟨by rw [List.length_take, h.1]; exact Nat.min_eq_left (Nat.mul_le_mul_right _ hk), fun hn => ?_⟩
  obtain ⟨ad, rfl, hb, hl, hcell⟩ := h.2 (by omega)
  refine ⟨ad, rfl, hb, hl, fun j u hu => ?_⟩
  rw [List.getElem?_take] at hu
  split at hu
  · exact hcell j u hu
  · cases hu
theorem Rd.of_own {base : Nat} {e : TypeId} {c : Nat} (h : w.ownsRow base e size (.slice A n c) n xs) : Rd w (fun k => base ≤ k) size A n xs := by
  refine ⟨h.1, fun hn => ?_⟩
  obtain ⟨g, cap, hv, hb, hlt⟩ := h.form hn
  have hA : A = some ⟨g, 0, none⟩ := by injection hv
  subst hA
  exact ⟨_, rfl, hb, hlt, h.cells (g := g) rfl⟩
end

/-- What is owned stays owned while only other blocks turn. -/
theorem ownsRow_keep {w w' : World} {B base : Nat} {S : Nat → Prop} {e : TypeId} {size : Nat} {v : Value} {n : Nat} {xs : List Value} (h : w.ownsRow base e size v n xs) (hk : Keep B S w w') (hB : w.heap.size ≤ B) (hS : ∀ k, base ≤ k → ¬ S k) : w'.ownsRow base e size v n xs := by
  refine ⟨h.1, ?_⟩
  rcases h.2 with hn | ⟨g, cap, cur, rfl, hb, hgg, rest⟩
  · exact .inl hn
  · refine .inr ⟨g, cap, cur, rfl, hb, ?_, rest⟩
    rw [hk.block g (Nat.lt_of_lt_of_le (Array.getElem?_eq_some_iff.1 hgg).1 hB) (hS g hb)]
    exact hgg

/-- A byte as a cell; a list of bytes as cells. -/
def u8 (c : UInt8) : Value := .int .u8 c.toNat
def u8s (l : List UInt8) : List Value := l.map u8
theorem u8s_get {l : List UInt8} {j : Nat} (h : j < l.length) : (u8s l)[j]? = some (.int .u8 (l[j]).toNat) := by
  unfold u8s; rw [List.getElem?_map, List.getElem?_eq_getElem h]; rfl
theorem u8s_len (l : List UInt8) : (u8s l).length = l.length := by simp [u8s]
theorem Rd.len8 {w : World} {T : Nat → Prop} {A : Option Addr} {n : Nat} {l : List UInt8} (h : Rd w T 1 A n (u8s l)) : l.length = n := by
  have := h.1; rw [u8s_len] at this; omega
/-- The cell of one byte. -/
theorem Rd.byte {w : World} {T : Nat → Prop} {A : Option Addr} {n : Nat} {l : List UInt8} (h : Rd w T 1 A n (u8s l)) {k : Nat} (hk : k < l.length) :
    ∃ ad, A = some ad ∧ T ad.block ∧ ad.block < w.heap.size ∧ w.cell? (ad.add k) = some (.int .u8 (l[k]).toNat) := by
  have hl := h.len8
  obtain ⟨ad, e, hb, hlt, hc⟩ := h.2 (by omega)
  exact ⟨ad, e, hb, hlt, hc k _ (u8s_get hk)⟩
/-- A stretch of bytes, as the walk spells its slice. -/
theorem Rd.sub {w : World} {T : Nat → Prop} {A : Option Addr} {n c p x : Nat} {l : List UInt8} (h : Rd w T 1 A n (u8s l)) (hp : p + x ≤ n) (hc : n ≤ c) :
    Rd w T 1 (if c = p then A else A.map fun a => a.add p) x (u8s ((l.drop p).take x)) := by
  have h1 := (h.take_ (k := p + x) hp).cut (k := p) (cap := c) (by omega) (by omega)
  have e1 : ((u8s l).take ((p + x) * 1)).drop (p * 1) = u8s ((l.drop p).take x) := by
    rw [Nat.mul_one, Nat.mul_one]
    unfold u8s
    rw [← List.map_take, ← List.map_drop, List.drop_take, Nat.add_sub_cancel_left]
  rw [e1, Nat.add_sub_cancel_left, Nat.mul_one] at h1
  exact h1
/-- The first bytes. -/
theorem Rd.take8 {w : World} {T : Nat → Prop} {A : Option Addr} {n k : Nat} {l : List UInt8} (h : Rd w T 1 A n (u8s l)) (hk : k ≤ n) : Rd w T 1 A k (u8s (l.take k)) := by
  have h1 := h.take_ hk
  rw [Nat.mul_one] at h1
  unfold u8s at h1 ⊢
  rw [← List.map_take] at h1
  exact h1
end Mem
end Go.Proofs.YtjdageiphebfpaaDoor

namespace Go.Proofs.YtjdageiphebfpaaDoor
namespace Pl

section
variable {K V : Type} [DecidableEq K]
def aget (L : List (K × V)) (k : K) : Option V := (L.find? fun p => decide (p.1 = k)).map (·.2)
def arep (L : List (K × V)) (k : K) (v : V) : List (K × V) := L.map fun p => if p.1 = k then (k, v) else p
def aput (L : List (K × V)) (k : K) (v : V) : List (K × V) := if (aget L k).isSome then arep L k v else L ++ [(k, v)]
def adel (L : List (K × V)) (k : K) : List (K × V) := L.filter fun p => decide (p.1 ≠ k)

theorem aget_none {L : List (K × V)} {k : K} : aget L k = none ↔ ∀ p ∈ L, p.1 ≠ k := by
  unfold aget
  rw [Option.map_eq_none_iff, List.find?_eq_none]
  simp
theorem aget_some {L : List (K × V)} (hn : L.Pairwise fun a b => a.1 ≠ b.1) {p : K × V} (hp : p ∈ L) : aget L p.1 = some p.2 := by
  induction L with
  | nil => cases hp
  | cons q r ih =>
    unfold aget
    rw [List.find?_cons]
    by_cases h : q.1 = p.1
    · simp only [h, decide_true, Option.map_some]
      rcases List.mem_cons.1 hp with rfl | hp
      · rfl
      · exact absurd h ((List.pairwise_cons.1 hn).1 p hp)
    · simp only [h, decide_false]
      rcases List.mem_cons.1 hp with rfl | hp
      · exact absurd rfl h
      · exact ih (List.pairwise_cons.1 hn).2 hp
theorem aget_mem {L : List (K × V)} {k : K} {v : V} (h : aget L k = some v) : (k, v) ∈ L := by
  unfold aget at h
  cases hf : L.find? fun p => decide (p.1 = k) with
  | none => rw [hf] at h; cases h
  | some p =>
    rw [hf] at h
    have h1 := List.find?_some hf
    have h2 := List.mem_of_find?_eq_some hf
    simp only [Option.map_some, Option.some.injEq] at h
    simp only [decide_eq_true_eq] at h1
    rw [← h, ← h1]; exact h2
theorem aget_put (L : List (K × V)) (k k' : K) (v : V) : aget (aput L k v) k' = if k' = k then some v else aget L k' := by
  unfold aput
  by_cases hs : (aget L k).isSome = true
  · rw [if_pos hs]
    unfold arep
    induction L with
    | nil => simp [aget] at hs
    | cons q r ih =>
      unfold aget at hs ⊢
      rw [List.map_cons, List.find?_cons, List.find?_cons]
      by_cases hq : q.1 = k
      · by_cases hk : k' = k
        · simp [hq, hk]
        · have hk2 : ¬ k = k' := fun e => hk e.symm
          have hk3 : ¬ q.1 = k' := fun e => hk2 (hq ▸ e)
          simp only [hq, if_true, hk2, decide_false, if_neg hk]
          by_cases hr : (aget r k).isSome = true
          · have := ih hr
            rw [if_neg hk] at this
            simp only [aget] at this
            exact this
          · have hr' : aget r k = none := by simpa using hr
            have hid : (r.map fun p => if p.1 = k then (k, v) else p) = r := by
              rw [List.map_congr_left (g := id)]
              · simp
              · intro p hp
                rw [if_neg (aget_none.1 hr' p hp)]; rfl
            rw [hid]
      · rw [List.find?_cons] at hs
        simp only [hq, decide_false] at hs
        have := ih hs
        simp only [hq, if_false]
        by_cases hk : q.1 = k'
        · have : ¬ k' = k := fun e => hq (hk.trans e)
          simp [hk, this]
        · simp only [hk, decide_false]
          simp only [aget] at this
          exact this
  · rw [if_neg hs]
    have hn : aget L k = none := by simpa using hs
    unfold aget
    rw [List.find?_append]
    by_cases hk : k' = k
    · subst hk
      have : L.find? (fun p => decide (p.1 = k')) = none := by
        unfold aget at hn
        simpa using hn
      simp [this]
    · have hk2 : ¬ k = k' := fun e => hk e.symm
      simp [hk, hk2]

theorem arep_set {L : List (K × V)} (hn : L.Pairwise fun a b => a.1 ≠ b.1) {j : Nat} {k : K} {v0 v : V} (h : L[j]? = some (k, v0)) : arep L k v = L.set j (k, v) := by
  apply List.ext_getElem?
  intro i
  unfold arep
  rw [List.getElem?_map, List.getElem?_set]
  have hj : j < L.length := (List.getElem?_eq_some_iff.1 h).1
  by_cases hij : j = i
  · subst hij
    rw [h]
    simp [hj]
  · rw [if_neg hij]
    cases hi : L[i]? with
    | none => rfl
    | some p =>
      have hne : p.1 ≠ k := by
        intro e
        have hi' := (List.getElem?_eq_some_iff.1 hi)
        have hj' := (List.getElem?_eq_some_iff.1 h)
        rcases Nat.lt_or_gt_of_ne hij with hlt | hlt
        · have := List.pairwise_iff_getElem.1 hn j i hj'.1 hi'.1 hlt
          rw [hj'.2, hi'.2] at this
          exact this e.symm
        · have := List.pairwise_iff_getElem.1 hn i j hi'.1 hj'.1 hlt
          rw [hj'.2, hi'.2] at this
          exact this e
      simp [hne]


theorem aput_mem {L : List (K × V)} {k : K} {v : V} {p : K × V} (h : p ∈ aput L k v) : p = (k, v) ∨ (p ∈ L ∧ p.1 ≠ k) := by
  unfold aput at h
  split at h
  · unfold arep at h
    obtain ⟨q, hq, rfl⟩ := List.mem_map.1 h
    by_cases hk : q.1 = k
    · rw [if_pos hk]; exact Or.inl rfl
    · rw [if_neg hk]; exact Or.inr ⟨hq, hk⟩
  · rename_i hs
    rcases List.mem_append.1 h with h | h
    · exact Or.inr ⟨h, aget_none.1 (by simpa using hs) p h⟩
    · exact Or.inl (by simpa using h)

theorem aget_map {V' : Type} (f : V → V') (L : List (K × V)) (k : K) : aget (L.map fun p => (p.1, f p.2)) k = (aget L k).map f := by
  unfold aget
  rw [List.find?_map]
  cases h : List.find? (fun p => decide (p.1 = k)) L with
  | none => simp [Function.comp_def, h]
  | some p => simp [Function.comp_def, h]

theorem aput_map {V' : Type} (f : V → V') (L : List (K × V)) (k : K) (v : V) : (aput L k v).map (fun p => (p.1, f p.2)) = aput (L.map fun p => (p.1, f p.2)) k (f v) := by
  unfold aput
  rw [aget_map]
  by_cases hs : (aget L k).isSome = true
  · rw [if_pos hs, if_pos (by simpa using hs)]
    unfold arep
    rw [List.map_map, List.map_map]
    apply List.map_congr_left
    intro p _
    by_cases hk : p.1 = k
    · simp [hk]
    · simp [hk]
  · rw [if_neg hs, if_neg (by simpa using hs)]
    simp

/-- Putting in a value that is apart from all others keeps them apart. -/
theorem aput_pairwise {R : V → V → Prop} (hsym : ∀ a b, R a b → R b a) {L : List (K × V)} (hk : L.Pairwise fun a b => a.1 ≠ b.1) (hR : L.Pairwise fun a b => R a.2 b.2) (k : K) (v : V) (hv : ∀ p ∈ L, R p.2 v) :
    (aput L k v).Pairwise fun a b => R a.2 b.2 := by
  unfold aput
  split
  · unfold arep
    rw [List.pairwise_map]
    have h := hk.and hR
    refine (List.Pairwise.imp_of_mem ?_ h)
    intro a b ha hb hab
    by_cases h1 : a.1 = k
    · have h2 : ¬ b.1 = k := fun e => hab.1 (h1.trans e.symm)
      rw [if_pos h1, if_neg h2]
      exact hsym _ _ (hv b hb)
    · rw [if_neg h1]
      by_cases h2 : b.1 = k
      · rw [if_pos h2]; exact hv a ha
      · rw [if_neg h2]; exact hab.2
  · rw [List.pairwise_append]
    refine ⟨hR, List.pairwise_singleton _ _, fun a ha b hb => ?_⟩
    rw [List.mem_singleton] at hb
    rw [hb]; exact hv a ha
end

end Pl
end Go.Proofs.YtjdageiphebfpaaDoor

namespace Go.Proofs.YtjdageiphebfpaaDoor
namespace Pl
open Go

/-- A command. -/
structure Cmd where
  client : Int
  inc : Int
  req : Int
  op : Int
  key : Bytes
  val : Bytes
  old : Bytes

/-- Of a text: is it a number? Which one (what the program hands back beside a 'no', too)? -/
def numOk (s : Bytes) : Bool :=
  if 8 < s.length then false else match Lib.atoi s with | some n => decide (Lib.itoa n = s) | none => false
def numN (s : Bytes) : Int :=
  if 8 < s.length then 0 else match Lib.atoi s with | some n => n | none => 0

def keyOk (s : Bytes) : Bool := decide (1 ≤ s.length) && decide (s.length ≤ 8)

/-- Does a command have what its operation wants? (Op from 1 to 9.) -/
def fitsC (c : Cmd) : Bool :=
  if c.op = 1 then keyOk c.key && c.old.isEmpty && decide (c.val.length ≤ 8)
  else if c.op = 3 then keyOk c.key && decide (c.old.length ≤ 8) && decide (c.val.length ≤ 8)
  else if c.op = 5 then keyOk c.key && c.old.isEmpty && numOk c.val
  else if c.op = 8 then keyOk c.key && c.old.isEmpty && (numOk c.val && decide (0 < numN c.val))
  else if c.op = 9 then c.key.isEmpty && c.old.isEmpty && (numOk c.val && decide (0 ≤ numN c.val) && decide (numN c.val < 16))
  else keyOk c.key && c.old.isEmpty && c.val.isEmpty

def rangeC (c : Cmd) : Bool :=
  decide (0 ≤ c.client ∧ c.client < 16 ∧ 1 ≤ c.inc ∧ c.inc ≤ 4611686018427387904 ∧ 1 ≤ c.req ∧ c.req ≤ 4611686018427387904 ∧ 1 ≤ c.op ∧ c.op ≤ 9)

def validC (c : Cmd) : Bool := rangeC c && fitsC c

theorem numN_bound (s : Bytes) : -1000000000000000000 < numN s ∧ numN s < 1000000000000000000 := by
  unfold numN
  by_cases h : 8 < s.length
  · rw [if_pos h]; omega
  · rw [if_neg h]
    cases ha : Lib.atoi s with
    | none => simp only []; omega
    | some n => exact Lib.atoi_bound ha (by omega)

/-! ### reading a command, step by step as the program does -/
def maxC : Nat := 4611686018427387904
def dC1 (b : Bytes) : Nat × St := mCount b maxC ⟨0, false⟩
def dC2 (b : Bytes) : Nat × St := mCount b maxC (dC1 b).2
def dC3 (b : Bytes) : Nat × St := mCount b maxC (dC2 b).2
def dC4 (b : Bytes) : Nat × St := mCount b maxC (dC3 b).2
def dT1 (b : Bytes) : Bytes × St := mText b 8 (dC4 b).2
def dT2 (b : Bytes) : Bytes × St := mText b 8 (dT1 b).2
def dT3 (b : Bytes) : Bytes × St := mText b 8 (dT2 b).2
def decCmd (b : Bytes) : Cmd := ⟨(dC1 b).1, (dC2 b).1, (dC3 b).1, (dC4 b).1, (dT1 b).1, (dT2 b).1, (dT3 b).1⟩
def soundC (b : Bytes) (s : St) : Bool := !s.bad && decide (s.p = b.length)
def decOk (b : Bytes) : Bool := soundC b (dT3 b).2 && validC (decCmd b)
def zeroCmd : Cmd := ⟨0, 0, 0, 0, [], [], []⟩
def decC (b : Bytes) : Option Cmd := if decOk b = true then some (decCmd b) else none
def decV (b : Bytes) : Cmd := if decOk b = true then decCmd b else zeroCmd
def decE (b : Bytes) : Nat := if decOk b = true then 0 else 130
end Pl
end Go.Proofs.YtjdageiphebfpaaDoor

namespace Go.Proofs.YtjdageiphebfpaaDoor
namespace Pl

def nib (i : Nat) : BitVec 32 :=
  [0, 498536548, 997073096, 651767980, 1994146192, 1802195444, 1303535960, 1342533948, 3988292384, 4027552580, 3604390888, 3412177804, 2607071920, 2262029012, 2685067896, 3183342108].getD i 0

/-- Four bits by the table. -/
def nStep (w : BitVec 32) : BitVec 32 := (w >>> 4) ^^^ nib (w &&& 15#32).toNat
/-- One byte, by the table. -/
def nByte (w : BitVec 32) (c : UInt8) : BitVec 32 := nStep (nStep (w ^^^ BitVec.ofNat 32 c.toNat))
def crcN (w : BitVec 32) (l : Bytes) : BitVec 32 := l.foldl nByte w
/-- The sum as the program reckons it. -/
def crc (l : Bytes) : Nat := (~~~ crcN (BitVec.allOnes 32) l).toNat

/-- What the table's reckoning has come to. -/
def crcS (l : Bytes) : Nat := (crcN (BitVec.allOnes 32) l).toNat

/-- One bit. -/
def bStep (w : BitVec 32) : BitVec 32 := if w &&& 1#32 = 1#32 then (w >>> 1) ^^^ 0xEDB88320#32 else w >>> 1

theorem bStep_xor (a b : BitVec 32) : bStep (a ^^^ b) = bStep a ^^^ bStep b := by
  have key : ∀ x : BitVec 32, (x &&& 1#32 = 1#32) ↔ x.getLsbD 0 = true := by
    intro x
    constructor
    · intro h
      have := congrArg (fun y => BitVec.getLsbD y 0) h
      simpa using this
    · intro h
      apply BitVec.eq_of_getLsbD_eq
      intro i hi
      by_cases h0 : i = 0
      · subst h0; simpa using h
      · simp [h0]
  unfold bStep
  simp only [key, BitVec.getLsbD_xor, BitVec.ushiftRight_xor_distrib]
  cases a.getLsbD 0 <;> cases b.getLsbD 0 <;> simp
  · rw [BitVec.xor_assoc]
  · rw [BitVec.xor_assoc, BitVec.xor_comm (b >>> 1) _, BitVec.xor_assoc]
  · rw [BitVec.xor_comm (b >>> 1) _, BitVec.xor_assoc, ← BitVec.xor_assoc 0xEDB88320#32, BitVec.xor_self, BitVec.zero_xor]

theorem bStep_even {h : BitVec 32} (h0 : h.getLsbD 0 = false) : bStep h = h >>> 1 := by
  unfold bStep
  rw [if_neg]
  intro e
  have := congrArg (fun y => BitVec.getLsbD y 0) e
  simp only [BitVec.getLsbD_and, h0, Bool.false_and] at this
  exact absurd this (by decide)

theorem bStep4_hi {h : BitVec 32} (h0 : ∀ i, i < 4 → h.getLsbD i = false) : bStep (bStep (bStep (bStep h))) = h >>> 4 := by
  rw [bStep_even (h0 0 (by omega))]
  rw [bStep_even (h := h >>> 1) (by rw [BitVec.getLsbD_ushiftRight]; exact h0 1 (by omega))]
  rw [← BitVec.shiftRight_add, bStep_even (h := h >>> (1 + 1)) (by rw [BitVec.getLsbD_ushiftRight]; exact h0 2 (by omega))]
  rw [← BitVec.shiftRight_add, bStep_even (h := h >>> (1 + 1 + 1)) (by rw [BitVec.getLsbD_ushiftRight]; exact h0 3 (by omega))]
  rw [← BitVec.shiftRight_add]

theorem bStep4_lo : ∀ lo : Fin 16, bStep (bStep (bStep (bStep (BitVec.ofNat 32 lo.val)))) = nib lo.val := by decide

theorem nStep_eq (w : BitVec 32) : nStep w = bStep (bStep (bStep (bStep w))) := by
  have hsplit : w = (w &&& ~~~ 15#32) ^^^ (w &&& 15#32) := by
    apply BitVec.eq_of_getLsbD_eq
    intro i hi
    simp only [BitVec.getLsbD_xor, BitVec.getLsbD_and, BitVec.getLsbD_not, hi, decide_true, Bool.true_and]
    cases w.getLsbD i <;> cases (15#32).getLsbD i <;> rfl
  have hlt : (w &&& 15#32).toNat < 16 := by
    rw [BitVec.toNat_and]
    exact Nat.lt_of_le_of_lt Nat.and_le_right (by decide)
  have hlo : w &&& 15#32 = BitVec.ofNat 32 (w &&& 15#32).toNat := by simp
  have hhi : bStep (bStep (bStep (bStep (w &&& ~~~ 15#32)))) = (w &&& ~~~ 15#32) >>> 4 := bStep4_hi (fun i hi => by
    have : i = 0 ∨ i = 1 ∨ i = 2 ∨ i = 3 := by omega
    rcases this with rfl | rfl | rfl | rfl <;> simp)
  have hsh : w >>> 4 = (w &&& ~~~ 15#32) >>> 4 := by
    apply BitVec.eq_of_getLsbD_eq
    intro i hi
    simp only [BitVec.getLsbD_ushiftRight, BitVec.getLsbD_and, BitVec.getLsbD_not]
    by_cases h32 : 4 + i < 32
    · have : (15#32).getLsbD (4 + i) = false := by
        simp only [BitVec.getLsbD_ofNat, Nat.testBit]
        have h15 : (15 >>> (4 + i)) = 0 := by rw [Nat.shiftRight_eq_div_pow, Nat.pow_add]; exact Nat.div_eq_of_lt (by have := Nat.one_le_two_pow (n := i); omega)
        simp [h15]
      rw [this]; simp only [h32, decide_true, Bool.not_false, Bool.and_true]
    · rw [BitVec.getLsbD_of_ge _ _ (by omega)]; simp only [Bool.false_and]
  have h4 := bStep4_lo ⟨(w &&& 15#32).toNat, hlt⟩
  simp only [] at h4
  rw [← hlo] at h4
  conv => rhs; rw [hsplit]
  rw [bStep_xor, bStep_xor, bStep_xor, bStep_xor, hhi, h4]
  unfold nStep
  rw [hsh]

/-- One bit, as the reference reckons it. -/
def rBit (w : Nat) : Nat := if w % 2 = 1 then (w / 2) ^^^ 3988292384 else w / 2
def rBits : Nat → Nat → Nat
  | 0, w => w
  | k + 1, w => rBits k (rBit w)
def rByte (w : Nat) (c : UInt8) : Nat := rBits 8 (w ^^^ c.toNat)
def crcR (w : Nat) (l : Bytes) : Nat := l.foldl rByte w

theorem rBit_eq (v : BitVec 32) : rBit v.toNat = (bStep v).toNat := by
  have key : (v &&& 1#32 = 1#32) ↔ v.toNat % 2 = 1 := by
    constructor
    · intro h
      have := congrArg BitVec.toNat h
      rw [BitVec.toNat_and] at this
      have e : (1#32).toNat = 1 := rfl
      rw [e, Nat.and_one_is_mod] at this
      exact this
    · intro h
      apply BitVec.eq_of_toNat_eq
      rw [BitVec.toNat_and]
      have e : (1#32).toNat = 1 := rfl
      rw [e, Nat.and_one_is_mod, h]
  unfold rBit bStep
  by_cases h : v.toNat % 2 = 1
  · rw [if_pos h, if_pos (key.2 h), BitVec.toNat_xor, BitVec.toNat_ushiftRight, Nat.shiftRight_eq_div_pow]; rfl
  · rw [if_neg h, if_neg (fun e => h (key.1 e)), BitVec.toNat_ushiftRight, Nat.shiftRight_eq_div_pow]

theorem rByte_eq (v : BitVec 32) (c : UInt8) : rByte v.toNat c = (nByte v c).toNat := by
  unfold rByte nByte
  have e : v.toNat ^^^ c.toNat = (v ^^^ BitVec.ofNat 32 c.toNat).toNat := by
    rw [BitVec.toNat_xor, BitVec.toNat_ofNat, Nat.mod_eq_of_lt]
    have := c.toNat_lt; omega
  rw [e]
  simp only [rBits, rBit_eq, nStep_eq]

theorem crcR_eq : ∀ (l : Bytes) (v : BitVec 32), crcR v.toNat l = (crcN v l).toNat
  | [], _ => rfl
  | c :: l, v => by
    unfold crcR crcN
    rw [List.foldl_cons, List.foldl_cons, rByte_eq]
    exact crcR_eq l _

theorem crc_eq (l : Bytes) : crcR 4294967295 l ^^^ 4294967295 = crc l := by
  have h1 : (BitVec.allOnes 32).toNat = 4294967295 := by decide
  have h2 := crcR_eq l (BitVec.allOnes 32)
  rw [h1] at h2
  unfold crc
  rw [h2, ← BitVec.xor_allOnes, BitVec.toNat_xor, h1]

theorem crc_lt (l : Bytes) : crc l < 4294967296 := (~~~ crcN (BitVec.allOnes 32) l).isLt

/-- Do the last four bytes hold the sum of those ahead of them? -/
def sealP (b : Bytes) (k : Nat) : Prop := ∀ i, i < k → (b.getD (b.length - 4 + i) 0).toNat = crc (b.take (b.length - 4)) / 256 ^ i % 256
instance (b : Bytes) (k : Nat) : Decidable (sealP b k) := inferInstanceAs (Decidable (∀ i, i < k → _))
/-- Does a text begin and end as a snapshot's does? -/
def sealedC (b : Bytes) : Bool := decide (11 ≤ b.length) && decide ((b.getD 0 0).toNat = 81) && decide ((b.getD 1 0).toNat = 83) && decide ((b.getD 2 0).toNat = 1) && decide (sealP b 4)
end Pl
end Go.Proofs.YtjdageiphebfpaaDoor

namespace Go.Proofs.YtjdageiphebfpaaDoor
namespace Pl
open Go

def dig19 (d : Bytes) : Bool := match d with | [] => false | c :: _ => decide (49 ≤ c.toNat) && decide (c.toNat ≤ 57)
/-- Digits, the first not 0. -/
def canD (d : Bytes) : Option Nat := if dig19 d = true then Lib.decFrom 0 d else none
/-- The number that a number text tells. -/
def canN (s : Bytes) : Option Int :=
  if s.length = 0 ∨ 8 < s.length then none
  else if s = [48] then some 0
  else match s with
    | [] => none
    | c :: r => if c.toNat = 45 then (canD r).map (fun (m : Nat) => -(m : Int)) else (canD (c :: r)).map (fun (m : Nat) => (m : Int))

theorem decFrom_append (l r : Bytes) : ∀ acc, Lib.decFrom acc (l ++ r) = (Lib.decFrom acc l).bind fun a => Lib.decFrom a r := by
  induction l with
  | nil => intro acc; simp [Lib.decFrom]
  | cons c l ih =>
    intro acc
    simp only [List.cons_append, Lib.decFrom]
    cases Lib.digitVal c with
    | none => rfl
    | some d => exact ih _

theorem digit_ofNat {n : Nat} (h : n < 10) : Lib.digitVal (UInt8.ofNat (48 + n)) = some n := by
  have e : (UInt8.ofNat (48 + n)).toNat = 48 + n := by simp; omega
  unfold Lib.digitVal
  rw [e, if_pos (by omega)]
  congr 1
  omega

theorem decDigits_from (u : Nat) : Lib.decFrom 0 (Lib.decDigits u) = some u := by
  induction u using Nat.strongRecOn with
  | _ u ih =>
    by_cases h : u < 10
    · rw [Lib.decDigits, dif_pos h]; simp only [Lib.decFrom, digit_ofNat h]; simp
    · rw [Lib.decDigits, dif_neg h, decFrom_append, ih (u / 10) (by omega)]
      simp only [Option.bind_some, Lib.decFrom, digit_ofNat (show u % 10 < 10 by omega)]
      congr 1
      omega

theorem decDigits_ne (u : Nat) : Lib.decDigits u ≠ [] := by
  rw [Lib.decDigits]; split <;> simp

theorem dig19_append {a b : Bytes} (h : a ≠ []) : dig19 (a ++ b) = dig19 a := by
  cases a with
  | nil => exact absurd rfl h
  | cons c l => rfl

theorem decDigits_dig19 (u : Nat) (hu : 0 < u) : dig19 (Lib.decDigits u) = true := by
  induction u using Nat.strongRecOn with
  | _ u ih =>
    by_cases h : u < 10
    · rw [Lib.decDigits, dif_pos h]
      have e : (UInt8.ofNat (48 + u)).toNat = 48 + u := by simp; omega
      simp only [dig19, e]
      simp; omega
    · rw [Lib.decDigits, dif_neg h, dig19_append (decDigits_ne _)]
      exact ih (u / 10) (by omega) (by omega)

theorem digitVal_some {c : UInt8} {d : Nat} (h : Lib.digitVal c = some d) : d < 10 ∧ c = UInt8.ofNat (48 + d) := by
  unfold Lib.digitVal at h
  split at h
  · rename_i hc
    obtain rfl := Option.some.inj h
    refine ⟨by omega, ?_⟩
    apply UInt8.toNat.inj
    simp; omega
  · cases h

theorem decDigits_of (n : Nat) : ∀ (d : Bytes) (m : Nat), d.length = n → dig19 d = true → Lib.decFrom 0 d = some m → Lib.decDigits m = d ∧ 0 < m := by
  induction n with
  | zero =>
    intro d m hl h1 _
    obtain rfl := List.eq_nil_of_length_eq_zero hl
    cases h1
  | succ n ih =>
    intro d m hl h1 h2
    have hne : d ≠ [] := by intro e; rw [e] at hl; simp at hl
    obtain ⟨l, c, rfl⟩ : ∃ l c, d = l ++ [c] := ⟨d.dropLast, d.getLast hne, (List.dropLast_concat_getLast hne).symm⟩
    rw [decFrom_append] at h2
    simp only [List.length_append, List.length_singleton] at hl
    by_cases hl0 : l = []
    · subst hl0
      simp only [List.nil_append, Lib.decFrom, Option.bind_some] at h1 h2 ⊢
      cases hd : Lib.digitVal c with
      | none => simp [hd] at h2
      | some v =>
        obtain ⟨hv, hc⟩ := digitVal_some hd
        simp [hd] at h2
        subst h2
        rw [hc] at h1 ⊢
        have e : (UInt8.ofNat (48 + v)).toNat = 48 + v := by simp; omega
        simp only [dig19, e] at h1
        simp at h1
        refine ⟨?_, by omega⟩
        rw [Lib.decDigits, dif_pos hv]
    · rw [dig19_append hl0] at h1
      cases hm : Lib.decFrom 0 l with
      | none => rw [hm] at h2; simp at h2
      | some k =>
        rw [hm] at h2
        obtain ⟨hk, hk0⟩ := ih l k (by omega) h1 hm
        simp only [Option.bind_some, Lib.decFrom] at h2
        cases hd : Lib.digitVal c with
        | none => simp [hd] at h2
        | some v =>
          obtain ⟨hv, hc⟩ := digitVal_some hd
          simp [hd] at h2
          subst h2
          refine ⟨?_, by omega⟩
          rw [Lib.decDigits, dif_neg (by omega), show (k * 10 + v) / 10 = k from by omega, show (k * 10 + v) % 10 = v from by omega, hk, hc]

theorem decDigits_zero : Lib.decDigits 0 = [48] := by rw [Lib.decDigits, dif_pos (by omega)]; rfl

/-- What a number text tells is what strconv tells of it. -/
theorem canN_eq (s : Bytes) : canN s = if numOk s = true then some (numN s) else none := by
  unfold canN numOk numN
  by_cases h8 : 8 < s.length
  · rw [if_pos (Or.inr h8), if_pos h8]; simp
  rw [if_neg h8, if_neg h8]
  by_cases h0 : s.length = 0
  · obtain rfl := List.eq_nil_of_length_eq_zero h0
    rfl
  rw [if_neg (by omega)]
  by_cases hz : s = [48]
  · subst hz
    rw [if_pos rfl]
    have e1 : Lib.atoi [48] = some 0 := by decide
    have e2 : Lib.itoa 0 = [48] := by unfold Lib.itoa; simp [decDigits_zero]
    rw [e1]
    simp [e2]
  rw [if_neg hz]
  cases s with
  | nil => simp at h0
  | cons c r =>
    simp only []
    by_cases hc : c.toNat = 45
    · have hc' : c = 45 := UInt8.toNat.inj hc
      subst hc'
      rw [if_pos (by decide)]
      have ea : Lib.atoi (45 :: r) = (Lib.decNat r).map fun (m : Nat) => -(m : Int) := by simp [Lib.atoi]
      rw [ea]
      unfold canD
      by_cases hd : dig19 r = true
      · rw [if_pos hd]
        have hne : r ≠ [] := by rintro rfl; cases hd
        have en : Lib.decNat r = Lib.decFrom 0 r := by unfold Lib.decNat; rw [if_neg (by simpa using hne)]
        rw [en]
        cases hm : Lib.decFrom 0 r with
        | none => simp
        | some m =>
          obtain ⟨e1, e2⟩ := decDigits_of _ r m rfl hd hm
          have ei : Lib.itoa (-(m : Int)) = 45 :: r := by unfold Lib.itoa; rw [if_pos (by omega)]; simp [e1]
          simp [ei]
      · rw [if_neg hd]
        cases hm : Lib.decNat r with
        | none => simp
        | some m =>
          have hne : Lib.itoa (-(m : Int)) ≠ 45 :: r := by
            unfold Lib.itoa
            by_cases h : -(m : Int) < 0
            · rw [if_pos h]
              intro e
              have e' : Lib.decDigits m = r := by simpa using e
              exact hd (e' ▸ decDigits_dig19 m (by omega))
            · rw [if_neg h]
              obtain rfl : m = 0 := by omega
              simp [decDigits_zero]
          simp [hne]
    · rw [if_neg hc]
      by_cases hd : dig19 (c :: r) = true
      · have hb : 49 ≤ c.toNat ∧ c.toNat ≤ 57 := by simpa [dig19] using hd
        have h45 : (c == 45) = false := by simp; rintro rfl; exact hc rfl
        have h43 : (c == 43) = false := by simp; rintro rfl; revert hb; decide
        have ea : Lib.atoi (c :: r) = (Lib.decFrom 0 (c :: r)).map fun (m : Nat) => (m : Int) := by
          simp only [Lib.atoi, h45, h43, Lib.decNat]
          simp
        rw [ea]
        unfold canD
        rw [if_pos hd]
        cases hm : Lib.decFrom 0 (c :: r) with
        | none => simp
        | some m =>
          obtain ⟨e1, e2⟩ := decDigits_of _ (c :: r) m rfl hd hm
          have ei : Lib.itoa (m : Int) = c :: r := by unfold Lib.itoa; rw [if_neg (by omega)]; simp [e1]
          simp [ei]
      · unfold canD
        rw [if_neg hd]
        cases ha : Lib.atoi (c :: r) with
        | none => simp
        | some n =>
          have hne : Lib.itoa n ≠ c :: r := by
            unfold Lib.itoa
            by_cases h : n < 0
            · rw [if_pos h]
              intro e
              have : (45 : UInt8) = c := by injection e
              subst this
              exact hc rfl
            · rw [if_neg h]
              by_cases hn : n = 0
              · subst hn
                intro e
                exact hz (e ▸ (by simp [decDigits_zero]))
              · intro e
                exact hd (e ▸ decDigits_dig19 n.toNat (by omega))
          simp [hne]
end Pl
end Go.Proofs.YtjdageiphebfpaaDoor
