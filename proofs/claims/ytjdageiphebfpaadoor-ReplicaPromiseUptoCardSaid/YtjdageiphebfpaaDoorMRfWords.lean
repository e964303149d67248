/- Words for the reference's machine in memory. -/
import Derived.Test.YtjdageiphebfpaaDoorMRf8
import Derived.Test.YtjdageiphebfpaaDoorMLockWords
namespace Go.Proofs.YtjdageiphebfpaaDoor
open Go.RowKit
open Pl Mem

def pairC (l : List (Bytes × Bytes)) : List Value := l.flatMap fun p => [str p.1, str p.2]
/-- A lock with its queue's value. -/
structure HkV where
  k : Hk
  v : Value
def hkC (x : HkV) : List Value := [str x.k.name, .int .i64 x.k.holder, .int .i64 x.k.token, x.v]
def hksC (l : List HkV) : List Value := l.flatMap hkC
def akC (a : Ak) : List Value := [.bool a.has, .int .i64 a.s.inc, .int .i64 a.s.req, .int .i64 a.s.code, str a.s.val, .int .i64 a.s.n]
def fmL (v1 v2 : Value) (tok : Int) (al : List Ak) : List Value := [v1, v2, .int .i64 tok] ++ al.flatMap akC

theorem pairC_len (l : List (Bytes × Bytes)) : (pairC l).length = l.length * 2 := by
  unfold pairC
  induction l with
  | nil => rfl
  | cons a r ih => rw [List.flatMap_cons, List.length_append, ih]; simp; omega
theorem hksC_len (l : List HkV) : (hksC l).length = l.length * 4 := by
  unfold hksC
  induction l with
  | nil => rfl
  | cons a r ih => rw [List.flatMap_cons, List.length_append, ih]; simp [hkC]; omega
theorem akC_flat_len (l : List Ak) : (l.flatMap akC).length = l.length * 6 := by
  induction l with
  | nil => rfl
  | cons a r ih => rw [List.flatMap_cons, List.length_append, ih]; simp [akC]; omega

/-- What an owned row's block is. -/
theorem own_obj {w : World} {base : Nat} {e : TypeId} {size n : Nat} {v : Value} {xs : List Value} (h : w.ownsRow base e size v n xs) {k : Nat} (hk : v.ownBlock = some k) : base ≤ k ∧ ∃ cur, w.heap[k]? = some (.cells cur e (0, 0)) := by
  rcases h.2 with ⟨rfl, _⟩ | ⟨g, cap, cur, rfl, hb, hg, _⟩
  · cases hk
  · have : g = k := by simpa [Value.ownBlock] using hk
    subst this
    exact ⟨hb, cur, hg⟩
theorem QOwn.obj {w : World} {v : Value} {q : List Int} (h : QOwn w v q) {k : Nat} (hk : v.ownBlock = some k) : ∃ cur, w.heap[k]? = some (.cells cur 3 (0, 0)) := by
  rcases h with ⟨rfl, _⟩ | ⟨g, off, cap, cur, rfl, hg, _⟩
  · cases hk
  · have : g = k := by simpa [Value.ownBlock] using hk
    subst this
    exact ⟨cur, hg⟩
theorem own_keepB {w w' : World} {base B : Nat} {S : Nat → Prop} {e : TypeId} {size n : Nat} {v : Value} {xs : List Value} (h : w.ownsRow base e size v n xs) (hk : Keep B S w w') (hB : w.heap.size ≤ B) (hS : ∀ k cur, w.heap[k]? = some (.cells cur e (0, 0)) → base ≤ k → ¬ S k) : w'.ownsRow base e size v n xs := by
  refine ⟨h.1, ?_⟩
  rcases h.2 with h1 | ⟨g, cap, cur, rfl, hb, hg, r⟩
  · exact .inl h1
  · exact .inr ⟨g, cap, cur, rfl, hb, (hk.block g (Nat.lt_of_lt_of_le (Array.getElem?_eq_some_iff.1 hg).1 hB) (hS g cur hg hb)).trans hg, r⟩

/-- The reference's machine at block M; what it owns lies from base on. -/
structure FMach (w : World) (M base : Nat) (tok : Int) (ps : List (Bytes × Bytes)) (hs : List HkV) (al : List Ak) (v1 v2 : Value) : Prop where
  blk : Blk w M 107 (fmL v1 v2 tok al).toArray
  own1 : w.ownsRow base 109 2 v1 ps.length (pairC ps)
  own2 : w.ownsRow base 111 4 v2 hs.length (hksC hs)
  qs : ∀ x ∈ hs, QOwn w x.v x.k.queue ∧ ∀ k, x.v.ownBlock = some k → base ≤ k
  len : al.length = 16
  lt : M < base

section
variable {w w' : World} {M base B : Nat} {S : Nat → Prop} {tok : Int} {ps : List (Bytes × Bytes)} {hs : List HkV} {al : List Ak} {v1 v2 : Value}
theorem FMach.keep (h : FMach w M base tok ps hs al v1 v2) (hk : Keep B S w w') (hB : w.heap.size ≤ B) (hM : ¬ S M) (hS : ∀ k, base ≤ k → k < w.heap.size → ¬ S k) : FMach w' M base tok ps hs al v1 v2 where
  blk := h.blk.keep hk (Nat.lt_of_lt_of_le h.blk.lt hB) hM
  own1 := own_keepB h.own1 hk hB (fun k _ hg hb => hS k hb (Array.getElem?_eq_some_iff.1 hg).1)
  own2 := own_keepB h.own2 hk hB (fun k _ hg hb => hS k hb (Array.getElem?_eq_some_iff.1 hg).1)
  qs := fun x hx => ⟨(h.qs x hx).1.keep hk hB (fun k e => hS k ((h.qs x hx).2 k e) ((h.qs x hx).1.lt k e)), (h.qs x hx).2⟩
  len := h.len
  lt := h.lt
theorem FMach.c0 (h : FMach w M base tok ps hs al v1 v2) : w.cell? ⟨M, 0, none⟩ = some v1 := by rw [h.blk.cell]; simp [fmL]
theorem FMach.c1 (h : FMach w M base tok ps hs al v1 v2) : w.cell? ⟨M, 1, none⟩ = some v2 := by rw [h.blk.cell]; simp [fmL]
theorem FMach.c2 (h : FMach w M base tok ps hs al v1 v2) : w.cell? ⟨M, 2, none⟩ = some (.int .i64 tok) := by rw [h.blk.cell]; simp [fmL]
theorem FMach.tokSet (h : FMach w M base tok ps hs al v1 v2) (t : Int) : FMach (w.setCell ⟨M, 2, none⟩ (.int .i64 t)) M base t ps hs al v1 v2 := by
  have hl := h.lt
  have hk : Keep w.heap.size (· = M) w (w.setCell ⟨M, 2, none⟩ (.int .i64 t)) := (Keep.refl _ _ _).own 2 _
  refine ⟨?_, own_keepB h.own1 hk (Nat.le_refl _) (fun k _ _ _ => by omega), own_keepB h.own2 hk (Nat.le_refl _) (fun k _ _ _ => by omega), fun x hx => ⟨(h.qs x hx).1.keep hk (Nat.le_refl _) (fun k e => by have := (h.qs x hx).2 k e; omega), (h.qs x hx).2⟩, h.len, h.lt⟩
  have := h.blk.set_ 2 (.int .i64 t)
  simpa [fmL] using this

/-- One pair more. -/
theorem FMach.pair {w1 : World} (h : FMach w M base tok ps hs al v1 v2) (p : Bytes × Bytes) {v' : Value} (hown : w1.ownsRow base 109 2 v' (ps.length + 1) (pairC ps ++ [str p.1, str p.2])) (hg : w.grownBy w1 v1.ownBlock) : FMach (w1.setCell ⟨M, 0, none⟩ v') M base tok (ps ++ [p]) hs al v' v2 := by
  have hl := h.lt
  have hk1 := Keep.of_row hg
  have hM : ¬ v1.ownBlock = some M := fun e => by have := (own_obj h.own1 e).1; omega
  have hk2 : Keep w1.heap.size (· = M) w1 (w1.setCell ⟨M, 0, none⟩ v') := (Keep.refl _ _ _).own 0 _
  have hne : ∀ (e : TypeId) (k : Nat) cur, e ≠ 109 → w.heap[k]? = some (.cells cur e (0, 0)) → ¬ v1.ownBlock = some k := by
    intro e k cur hne hkk e1
    obtain ⟨_, cur2, h2⟩ := own_obj h.own1 e1
    rw [hkk] at h2
    injection h2 with h2
    injection h2 with _ h2
    exact hne h2
  refine ⟨?_, ?_, own_keepB (own_keepB h.own2 hk1 (Nat.le_refl _) (fun k cur hc _ => hne _ k cur (by decide) hc)) hk2 (Nat.le_refl _) (fun k _ _ _ => by omega), fun x hx => ⟨((h.qs x hx).1.keep hk1 (Nat.le_refl _) (fun k e => ?_)).keep hk2 (Nat.le_refl _) (fun k e => by have := (h.qs x hx).2 k e; omega), (h.qs x hx).2⟩, h.len, h.lt⟩
  · have := (h.blk.keep hk1 h.blk.lt hM).set_ 0 v'
    simpa [fmL] using this
  · have := own_keepB hown hk2 (Nat.le_refl _) (fun k _ _ _ => by omega)
    simpa [pairC] using this
  · obtain ⟨cur, hc⟩ := (h.qs x hx).1.obj e
    exact hne _ k cur (by decide) hc

/-- One lock more. -/
theorem FMach.lock {w1 : World} (h : FMach w M base tok ps hs al v1 v2) (x : HkV) (hx1 : QOwn w x.v x.k.queue) (hx2 : ∀ k, x.v.ownBlock = some k → base ≤ k) {v' : Value} (hown : w1.ownsRow base 111 4 v' (hs.length + 1) (hksC hs ++ hkC x)) (hg : w.grownBy w1 v2.ownBlock) : FMach (w1.setCell ⟨M, 1, none⟩ v') M base tok ps (hs ++ [x]) al v1 v' := by
  have hl := h.lt
  have hk1 := Keep.of_row hg
  have hM : ¬ v2.ownBlock = some M := fun e => by have := (own_obj h.own2 e).1; omega
  have hk2 : Keep w1.heap.size (· = M) w1 (w1.setCell ⟨M, 1, none⟩ v') := (Keep.refl _ _ _).own 1 _
  have hne : ∀ (e : TypeId) (k : Nat) cur, e ≠ 111 → w.heap[k]? = some (.cells cur e (0, 0)) → ¬ v2.ownBlock = some k := by
    intro e k cur hne hkk e1
    obtain ⟨_, cur2, h2⟩ := own_obj h.own2 e1
    rw [hkk] at h2
    injection h2 with h2
    injection h2 with _ h2
    exact hne h2
  have hq : ∀ y : HkV, QOwn w y.v y.k.queue → (∀ k, y.v.ownBlock = some k → base ≤ k) → QOwn (w1.setCell ⟨M, 1, none⟩ v') y.v y.k.queue := by
    intro y (hy : QOwn w y.v y.k.queue) hy2
    refine (hy.keep hk1 (Nat.le_refl _) (fun k e => ?_)).keep hk2 (Nat.le_refl _) (fun k e => by have := hy2 k e; omega)
    obtain ⟨cur, hc⟩ := hy.obj e
    exact hne _ k cur (by decide) hc
  refine ⟨?_, own_keepB (own_keepB h.own1 hk1 (Nat.le_refl _) (fun k cur hc _ => hne _ k cur (by decide) hc)) hk2 (Nat.le_refl _) (fun k _ _ _ => by omega), ?_, fun y hy => ?_, h.len, h.lt⟩
  · have := (h.blk.keep hk1 h.blk.lt hM).set_ 1 v'
    simpa [fmL] using this
  · have := own_keepB hown hk2 (Nat.le_refl _) (fun k _ _ _ => by omega)
    simpa [hksC] using this
  · rcases List.mem_append.1 hy with hy | hy
    · exact ⟨hq y (h.qs y hy).1 (h.qs y hy).2, (h.qs y hy).2⟩
    · rw [List.mem_singleton] at hy
      subst hy
      exact ⟨hq y hx1 hx2, hx2⟩
end

theorem ak_get (ss : List Ak) : ∀ (p j : Nat), j < 6 → (ss.flatMap akC)[p * 6 + j]? = (ss[p]?).bind fun s => (akC s)[j]? := by
  induction ss with
  | nil => intro p j _; simp
  | cons s r ih =>
    intro p j hj
    rw [List.flatMap_cons]
    cases p with
    | zero =>
      rw [List.getElem?_append_left (by simp [akC]; omega)]
      simp
    | succ p =>
      rw [List.getElem?_append_right (by simp [akC]; omega)]
      rw [show (p + 1) * 6 + j - (akC s).length = p * 6 + j from by simp [akC]; omega, ih p j hj]
      simp
theorem fmL_get (v1 v2 : Value) (tok : Int) (ss : List Ak) (p j : Nat) (hj : j < 6) : (fmL v1 v2 tok ss)[3 + p * 6 + j]? = (ss[p]?).bind fun s => (akC s)[j]? := by
  unfold fmL
  rw [List.getElem?_append_right (by simp; omega)]
  rw [show 3 + p * 6 + j - [v1, v2, Value.int IntKind.i64 tok].length = p * 6 + j from by simp; omega]
  exact ak_get ss p j hj
theorem FMach.ak {w : World} {M base : Nat} {tok : Int} {ps : List (Bytes × Bytes)} {hs : List HkV} {al : List Ak} {v1 v2 : Value} (h : FMach w M base tok ps hs al v1 v2) {p j : Nat} {s : Ak} (hp : al[p]? = some s) (hj : j < 6) : w.cell? ⟨M, 3 + p * 6 + j, none⟩ = (akC s)[j]? := by
  rw [h.blk.cell, List.getElem?_toArray, fmL_get _ _ _ _ _ _ hj, hp]
  rfl
theorem set_at6 (l : List Value) (i k : Nat) (v : Value) (h : i < l.length) : (l.set i v)[k]? = if k = i then some v else l[k]? := by
  rw [List.getElem?_set]
  by_cases e : i = k
  · subst e; simp [h]
  · rw [if_neg e, if_neg (fun x => e x.symm)]
theorem fmL_set (v1 v2 : Value) (tok : Int) (ss : List Ak) (p : Nat) (s : Ak) (hp : p < ss.length) :
    ((((((fmL v1 v2 tok ss).set (3 + p * 6) (.bool s.has)).set (3 + p * 6 + 1) (.int .i64 s.s.inc)).set (3 + p * 6 + 2) (.int .i64 s.s.req)).set (3 + p * 6 + 3) (.int .i64 s.s.code)).set (3 + p * 6 + 4) (str s.s.val)).set (3 + p * 6 + 5) (.int .i64 s.s.n) = fmL v1 v2 tok (ss.set p s) := by
  have hlen : (fmL v1 v2 tok ss).length = 3 + ss.length * 6 := by
    unfold fmL
    rw [List.length_append, akC_flat_len]; rfl
  apply List.ext_getElem?
  intro k
  rw [set_at6 _ _ _ _ (by simp [hlen]; omega), set_at6 _ _ _ _ (by simp [hlen]; omega), set_at6 _ _ _ _ (by simp [hlen]; omega), set_at6 _ _ _ _ (by simp [hlen]; omega), set_at6 _ _ _ _ (by simp [hlen]; omega), set_at6 _ _ _ _ (by simp [hlen]; omega)]
  by_cases h3 : k < 3
  · rw [if_neg (by omega), if_neg (by omega), if_neg (by omega), if_neg (by omega), if_neg (by omega), if_neg (by omega)]
    unfold fmL
    rw [List.getElem?_append_left (by simpa using h3), List.getElem?_append_left (by simpa using h3)]
  · obtain ⟨p', j, hj, rfl⟩ : ∃ p' j, j < 6 ∧ k = 3 + p' * 6 + j := ⟨(k - 3) / 6, (k - 3) % 6, by omega, by omega⟩
    rw [fmL_get _ _ _ _ _ _ hj, fmL_get _ _ _ _ _ _ hj]
    by_cases hpp : p' = p
    · subst hpp
      rw [List.getElem?_set_self hp]
      rcases (show j = 0 ∨ j = 1 ∨ j = 2 ∨ j = 3 ∨ j = 4 ∨ j = 5 from by omega) with rfl | rfl | rfl | rfl | rfl | rfl
      · rw [if_neg (by omega), if_neg (by omega), if_neg (by omega), if_neg (by omega), if_neg (by omega), if_pos (by omega)]; rfl
      · rw [if_neg (by omega), if_neg (by omega), if_neg (by omega), if_neg (by omega), if_pos (by omega)]; rfl
      · rw [if_neg (by omega), if_neg (by omega), if_neg (by omega), if_pos (by omega)]; rfl
      · rw [if_neg (by omega), if_neg (by omega), if_pos (by omega)]; rfl
      · rw [if_neg (by omega), if_pos (by omega)]; rfl
      · rw [if_pos (by omega)]; rfl
    · rw [if_neg (by omega), if_neg (by omega), if_neg (by omega), if_neg (by omega), if_neg (by omega), if_neg (by omega)]
      rw [List.getElem?_set_ne (fun e => hpp e.symm)]

/-- A session is laid in its place. -/
theorem FMach.put {w : World} {M base : Nat} {tok : Int} {ps : List (Bytes × Bytes)} {hs : List HkV} {al : List Ak} {v1 v2 : Value} (h : FMach w M base tok ps hs al v1 v2) (p : Nat) (s : Ak) (hp : p < 16) :
    FMach ((((((w.setCell ⟨M, 3 + p * 6, none⟩ (.bool s.has)).setCell ⟨M, 3 + p * 6 + 1, none⟩ (.int .i64 s.s.inc)).setCell ⟨M, 3 + p * 6 + 2, none⟩ (.int .i64 s.s.req)).setCell ⟨M, 3 + p * 6 + 3, none⟩ (.int .i64 s.s.code)).setCell ⟨M, 3 + p * 6 + 4, none⟩ (str s.s.val)).setCell ⟨M, 3 + p * 6 + 5, none⟩ (.int .i64 s.s.n)) M base tok ps hs (al.set p s) v1 v2 := by
  have hl := h.lt
  have h1 := (((((h.blk.set_ (3 + p * 6) (.bool s.has)).set_ (3 + p * 6 + 1) (.int .i64 s.s.inc)).set_ (3 + p * 6 + 2) (.int .i64 s.s.req)).set_ (3 + p * 6 + 3) (.int .i64 s.s.code)).set_ (3 + p * 6 + 4) (str s.s.val)).set_ (3 + p * 6 + 5) (.int .i64 s.s.n)
  have hk : Keep w.heap.size (· = M) w ((((((w.setCell ⟨M, 3 + p * 6, none⟩ (.bool s.has)).setCell ⟨M, 3 + p * 6 + 1, none⟩ (.int .i64 s.s.inc)).setCell ⟨M, 3 + p * 6 + 2, none⟩ (.int .i64 s.s.req)).setCell ⟨M, 3 + p * 6 + 3, none⟩ (.int .i64 s.s.code)).setCell ⟨M, 3 + p * 6 + 4, none⟩ (str s.s.val)).setCell ⟨M, 3 + p * 6 + 5, none⟩ (.int .i64 s.s.n)) := ((((((Keep.refl _ _ _).own _ _).own _ _).own _ _).own _ _).own _ _).own _ _
  refine ⟨?_, own_keepB h.own1 hk (Nat.le_refl _) (fun k _ _ _ => by omega), own_keepB h.own2 hk (Nat.le_refl _) (fun k _ _ _ => by omega), fun x hx => ⟨(h.qs x hx).1.keep hk (Nat.le_refl _) (fun k e => by have := (h.qs x hx).2 k e; omega), (h.qs x hx).2⟩, by rw [List.length_set]; exact h.len, h.lt⟩
  rw [← fmL_set v1 v2 tok al p s (by rw [h.len]; exact hp)]
  simpa using h1
end Go.Proofs.YtjdageiphebfpaaDoor
