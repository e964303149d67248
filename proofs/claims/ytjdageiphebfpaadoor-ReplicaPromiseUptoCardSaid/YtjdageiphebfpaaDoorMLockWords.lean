/- Words for the locks in memory. -/
import Derived.Test.YtjdageiphebfpaaDoorMDec
import Derived.Test.YtjdageiphebfpaaDoorMWords
import Derived.Deep.RegionHeld3
import Derived.Deep.AppendLies
import Derived.Maps.AppendAt
namespace Go.Proofs.YtjdageiphebfpaaDoor
open Go.RowKit
open Pl Mem

def ints (l : List Int) : List Value := l.map fun x => .int .i64 x

/-- Keys that are ints; ints as values. -/
def kI : KV (.int .i64) Int where
  kv := fun k => .int .i64 k
  key := fun _ => rfl
  inj := fun a b h => by injection h
def iV (x : Int) : Value := .int .i64 x

/-- A map that counts how often something stands in a list. -/
def Tally (w : World) (b : Nat) (l : List Int) : Prop := ∃ TL : List (Int × Int), MapIs kI iV w b TL ∧ ∀ k, (aget TL k).getD 0 = (l.count k : Int)

/-- A queue: a slice of ints that its owner alone has. -/
def QOwn (w : World) (v : Value) (q : List Int) : Prop :=
  (v = .slice none 0 0 ∧ q = []) ∨
  ∃ g off cap cur, v = .slice (some ⟨g, off, none⟩) q.length cap ∧ w.heap[g]? = some (.cells cur 3 (0, 0)) ∧ q.length ≤ cap ∧ off + cap ≤ cur.size ∧ cap ≤ maxLen ∧ ∀ j x, q[j]? = some x → cur[off + j]? = some (.int .i64 x)

theorem QOwn.of_own {w : World} {base : Nat} {v : Value} {q : List Int} (h : w.ownsRow base 3 1 v q.length (ints q)) : QOwn w v q := by
  obtain ⟨h1, h2⟩ := h
  rcases h2 with ⟨h2, h3⟩ | ⟨g, cap, cur, hv, _, hg, hle, hm, hs, ht⟩
  · exact Or.inl ⟨by rw [h2], List.eq_nil_of_length_eq_zero h3⟩
  · refine Or.inr ⟨g, 0, cap, cur, hv, hg, hle, by omega, hm, fun j x hx => ?_⟩
    have hj : j < q.length := (List.getElem?_eq_some_iff.1 hx).1
    have h4 : (ints q)[j]? = some (.int .i64 x) := by unfold ints; rw [List.getElem?_map, hx]; rfl
    rw [← ht, List.getElem?_take, if_pos (by omega)] at h4
    rw [Nat.zero_add]
    simpa using h4

theorem QOwn.keep {w w' : World} {B : Nat} {S : Nat → Prop} {v : Value} {q : List Int} (h : QOwn w v q) (hk : Keep B S w w') (hB : w.heap.size ≤ B) (hS : ∀ k, v.ownBlock = some k → ¬ S k) : QOwn w' v q := by
  rcases h with h | ⟨g, off, cap, cur, hv, hg, r⟩
  · exact Or.inl h
  · have hlt : g < w.heap.size := (Array.getElem?_eq_some_iff.1 hg).1
    exact Or.inr ⟨g, off, cap, cur, hv, (hk.block g (by omega) (hS g (by rw [hv]; rfl))).trans hg, r⟩
theorem QOwn.lt {w : World} {v : Value} {q : List Int} (h : QOwn w v q) : ∀ k, v.ownBlock = some k → k < w.heap.size := by
  intro k hk
  rcases h with ⟨h, _⟩ | ⟨g, off, cap, cur, hv, hg, _⟩
  · rw [h] at hk; cases hk
  · rw [hv] at hk
    simp [Value.ownBlock] at hk
    rw [← hk]
    exact (Array.getElem?_eq_some_iff.1 hg).1

/-- A lock in memory. -/
structure LkH where
  hb : Nat
  v : Value
  lk : Lk
def evL (x : LkH) : Value := .pointer (some ⟨x.hb, 0, none⟩)
def HeldIs (w : World) (x : LkH) : Prop := Blk w x.hb 117 #[.int .i64 x.lk.holder, .int .i64 x.lk.token, x.v] ∧ QOwn w x.v x.lk.queue
/-- Two locks share no memory. -/
def apartL (a b : LkH) : Prop := a.hb ≠ b.hb ∧ ∀ k, a.v.ownBlock = some k → b.v.ownBlock ≠ some k
theorem apartL_sym (a b : LkH) (h : apartL a b) : apartL b a := ⟨h.1.symm, fun k hk e => h.2 k e hk⟩
def Locks (w : World) (bl : Nat) (E : List (Bytes × LkH)) : Prop := MapIs kS evL w bl E ∧ (∀ p ∈ E, HeldIs w p.2) ∧ E.Pairwise fun a b => apartL a.2 b.2
/-- The blocks of the locks. -/
def footL (bl : Nat) (E : List (Bytes × LkH)) (k : Nat) : Prop := k = bl ∨ ∃ p ∈ E, k = p.2.hb ∨ p.2.v.ownBlock = some k
/-- The locks, without where they lie. -/
def plainL (E : List (Bytes × LkH)) : List (Bytes × Lk) := E.map fun p => (p.1, p.2.lk)

theorem HeldIs.keep {w w' : World} {B : Nat} {S : Nat → Prop} {x : LkH} (h : HeldIs w x) (hk : Keep B S w w') (hB : w.heap.size ≤ B) (h1 : ¬ S x.hb) (h2 : ∀ k, x.v.ownBlock = some k → ¬ S k) : HeldIs w' x :=
  ⟨h.1.keep hk (Nat.lt_of_lt_of_le h.1.lt hB) h1, h.2.keep hk hB h2⟩
theorem Locks.keep {w w' : World} {B bl : Nat} {S : Nat → Prop} {E : List (Bytes × LkH)} (h : Locks w bl E) (hk : Keep B S w w') (hB : w.heap.size ≤ B) (hS : ∀ k, footL bl E k → ¬ S k) : Locks w' bl E :=
  ⟨h.1.keep hk (Nat.lt_of_lt_of_le h.1.lt hB) (hS _ (Or.inl rfl)), fun p hp => (h.2.1 p hp).keep hk hB (hS _ (Or.inr ⟨p, hp, Or.inl rfl⟩)) (fun _ e => hS _ (Or.inr ⟨p, hp, Or.inr e⟩)), h.2.2⟩
theorem Locks.lt {w : World} {bl : Nat} {E : List (Bytes × LkH)} (h : Locks w bl E) : ∀ k, footL bl E k → k < w.heap.size := by
  intro k hk
  rcases hk with rfl | ⟨p, hp, rfl | e⟩
  · exact h.1.lt
  · exact (h.2.1 p hp).1.lt
  · exact (h.2.1 p hp).2.lt k e
/-- One more lock, in memory of its own. -/
theorem Locks.put {w w' : World} {bl : Nat} {E : List (Bytes × LkH)} {nm : Bytes} {x : LkH} (h : Locks w bl E) (hm : MapIs kS evL w' bl (aput E nm x)) (hk : Keep w.heap.size (· = bl) w w') (hx : HeldIs w' x)
    (hbl : ∀ p ∈ E, p.2.hb ≠ bl ∧ p.2.v.ownBlock ≠ some bl) (hap : ∀ p ∈ E, apartL p.2 x) : Locks w' bl (aput E nm x) := by
  refine ⟨hm, fun p hp => ?_, aput_pairwise apartL_sym h.1.keys h.2.2 nm x hap⟩
  rcases aput_mem hp with rfl | ⟨hp, _⟩
  · exact hx
  · exact (h.2.1 p hp).keep hk (Nat.le_refl _) (hbl p hp).1 (fun k e he => (hbl p hp).2 (he ▸ e))
theorem plainL_put (E : List (Bytes × LkH)) (nm : Bytes) (x : LkH) : plainL (aput E nm x) = aput (plainL E) nm x.lk := aput_map (fun y : LkH => y.lk) E nm x

/-- m[k]++ -/
theorem Tally.put {w' : World} {b : Nat} {l : List Int} {TL : List (Int × Int)} {k : Int} (hc : ∀ k, (aget TL k).getD 0 = (l.count k : Int)) (h : MapIs kI iV w' b (aput TL k ((l.count k : Int) + 1))) : Tally w' b (l ++ [k]) := by
  refine ⟨_, h, fun k' => ?_⟩
  rw [aget_put, List.count_append, List.count_singleton]
  by_cases e : k' = k
  · subst e; simp
  · have e2 : (k == k') = false := by simpa using fun h => e h.symm
    rw [if_neg e, hc k']; simp [e2]
theorem Tally.keep {w w' : World} {b B : Nat} {S : Nat → Prop} {l : List Int} (h : Tally w b l) (hk : Keep B S w w') (hB : b < B) (hS : ¬ S b) : Tally w' b l := by
  obtain ⟨TL, h1, h2⟩ := h
  exact ⟨TL, h1.keep hk hB hS, h2⟩
theorem Tally.lt {w : World} {b : Nat} {l : List Int} (h : Tally w b l) : b < w.heap.size := by
  obtain ⟨TL, h1, h2⟩ := h
  exact h1.lt
theorem count_gt (l : List Int) (k : Int) : (1 < (((l ++ [k]).count k : Nat) : Int)) ↔ k ∈ l := by
  rw [List.count_append, List.count_singleton]
  simp only [beq_self_eq_true, if_true]
  rw [← List.count_pos_iff]
  omega

theorem zero_int (w : World) : (zeroValue 3).run Tryd.prog w = .ok (.int .i64 0) w := by kernel_rfl

theorem run_tally {w : World} {b : Nat} {l : List Int} (h : Tally w b l) (k : Int) :
    (Instr.lookup 114 (.map (some b)) (.int .i64 k) false).run Tryd.prog w = .ok (.int .i64 (l.count k : Int)) w := by
  obtain ⟨TL, h1, h2⟩ := h
  have hr := run_look h1 Tryd.underlying114 Tryd.underlying3 (zero_int w) k false
  rw [← h2 k]
  refine hr.trans ?_
  cases aget TL k <;> rfl

theorem wpList_tally {ops : Array Oper} {rest : List Oper} {o : Oper} {a : Act} {Q : Exit → Act → World → Prop} {w : World} {b : Nat} {l : List Int}
    (hg : o.guard = none) (m x : Operand) (hop : o.op = Op.lookup 114 m x false) (hm : a.eval m = .map (some b)) (h : Tally w b l) (k : Int) (hx : a.eval x = .int .i64 k) (cN : Nat) (hcN : l.count k = cN)
    (hK : wpList Tryd.prog ops Q rest (a.put o.dst (.int .i64 cN)) w) : wpList Tryd.prog ops Q (o :: rest) a w := by
  subst hcN
  refine wpList_plain hg fun K' hK' => ?_
  unfold Oper.wp
  simp [execOp, hop, hm, hx, run_tally h k, Result.andThen]
  exact hK' _ _ hK

theorem wpList_tput {ops : Array Oper} {rest : List Oper} {o : Oper} {a : Act} {Q : Exit → Act → World → Prop} {w : World} {b : Nat} {l : List Int}
    (hg : o.guard = none) (m x y : Operand) (hop : o.op = Op.mapUpdate 114 m x y ∨ o.op = Op.insert 114 m x y) (hm : a.eval m = .map (some b)) (h : Tally w b l) (k v : Int) (hx : a.eval x = .int .i64 k) (hy : a.eval y = .int .i64 v) (cN : Nat) (hcN : l.count k = cN) (hv : v = (cN : Int) + 1)
    (hK : ∀ w', Tally w' b (l ++ [k]) → w.grownBy w' (some b) → wpList Tryd.prog ops Q rest (a.put o.dst undef) w') : wpList Tryd.prog ops Q (o :: rest) a w := by
  subst hcN
  refine wpList_plain hg fun K' hK' => ?_
  obtain ⟨TL, h1, h2⟩ := h
  obtain ⟨w', hrun, r1, r2⟩ := run_put h1 Tryd.underlying114 Tryd.underlying3 k v
  have hrun' : (Instr.mapUpdate 114 (.map (some b)) (.int .i64 k) (.int .i64 v)).run Tryd.prog w = .ok () w' := hrun
  unfold Oper.wp
  rcases hop with hop | hop
  · simp [execOp, hop, hm, hx, hy, hrun', Result.andThen]
    exact hK' _ _ (hK w' (Tally.put h2 (hv ▸ r1)) r2)
  · simp [execOp, hop, hm, hx, hy, hrun', Result.andThen]
    exact hK' _ _ (hK w' (Tally.put h2 (hv ▸ r1)) r2)
theorem Tally.far {w : World} {b : Nat} {l : List Int} (h : Tally w b l) {p : Addr} (hp : b ≠ p.block) (u : Value) : Tally (w.setCell p u) b l := h.keep ((Keep.refl w.heap.size (fun k => k = p.block) w).setCell (p := p) (Or.inr rfl) u) h.lt hp
theorem Tally.alloc {w : World} {b : Nat} {l : List Int} (h : Tally w b l) (o : Obj) : Tally (w.alloc o) b l := h.keep (S := fun _ => False) ((Keep.refl w.heap.size _ w).alloc (Nat.le_refl _) o) h.lt (fun e => e)
theorem Tally.nil {w : World} {b : Nat} (h : MapIs kI iV w b []) : Tally w b [] := ⟨[], h, fun _ => by simp [aget]⟩
end Go.Proofs.YtjdageiphebfpaaDoor

namespace Go.Proofs.YtjdageiphebfpaaDoor
open Go.RowKit
open Pl Mem

def sesC (s : Ses) : List Value := [.int .i64 s.inc, .int .i64 s.req, .int .i64 s.code, str s.val, .int .i64 s.n]
def machL (bp bl : Nat) (tok : Int) (ss : List Ses) : List Value := [.map (some bp), .map (some bl), .int .i64 tok] ++ ss.flatMap sesC
/-- The machine's block. -/
def MachB (w : World) (gm bp bl : Nat) (tok : Int) (ss : List Ses) : Prop := Blk w gm 95 (machL bp bl tok ss).toArray ∧ ss.length = 16

theorem flat_get (ss : List Ses) : ∀ (p j : Nat), j < 5 → (ss.flatMap sesC)[p * 5 + j]? = (ss[p]?).bind fun s => (sesC s)[j]? := by
  induction ss with
  | nil => intro p j _; simp
  | cons s r ih =>
    intro p j hj
    rw [List.flatMap_cons]
    cases p with
    | zero =>
      rw [List.getElem?_append_left (by simp [sesC]; omega)]
      simp
    | succ p =>
      rw [List.getElem?_append_right (by simp [sesC]; omega)]
      rw [show (p + 1) * 5 + j - (sesC s).length = p * 5 + j from by simp [sesC]; omega, ih p j hj]
      simp
theorem machL_get (bp bl : Nat) (tok : Int) (ss : List Ses) (p j : Nat) (hj : j < 5) : (machL bp bl tok ss)[3 + p * 5 + j]? = (ss[p]?).bind fun s => (sesC s)[j]? := by
  unfold machL
  rw [List.getElem?_append_right (by simp; omega)]
  rw [show 3 + p * 5 + j - [Value.map (some bp), Value.map (some bl), Value.int IntKind.i64 tok].length = p * 5 + j from by simp; omega]
  exact flat_get ss p j hj
theorem MachB.cell {w : World} {gm bp bl : Nat} {tok : Int} {ss : List Ses} (h : MachB w gm bp bl tok ss) {p j : Nat} {s : Ses} (hp : ss[p]? = some s) (hj : j < 5) : w.cell? ⟨gm, 3 + p * 5 + j, none⟩ = (sesC s)[j]? := by
  rw [h.1.cell]
  rw [List.getElem?_toArray, machL_get _ _ _ _ _ _ hj, hp]
  rfl
theorem MachB.c0 {w : World} {gm bp bl : Nat} {tok : Int} {ss : List Ses} (h : MachB w gm bp bl tok ss) : w.cell? ⟨gm, 0, none⟩ = some (.map (some bp)) := by rw [h.1.cell]; simp [machL]
theorem MachB.c1 {w : World} {gm bp bl : Nat} {tok : Int} {ss : List Ses} (h : MachB w gm bp bl tok ss) : w.cell? ⟨gm, 1, none⟩ = some (.map (some bl)) := by rw [h.1.cell]; simp [machL]
theorem MachB.c2 {w : World} {gm bp bl : Nat} {tok : Int} {ss : List Ses} (h : MachB w gm bp bl tok ss) : w.cell? ⟨gm, 2, none⟩ = some (.int .i64 tok) := by rw [h.1.cell]; simp [machL]
theorem MachB.keep {w w' : World} {gm bp bl B : Nat} {S : Nat → Prop} {tok : Int} {ss : List Ses} (h : MachB w gm bp bl tok ss) (hk : Keep B S w w') (hB : w.heap.size ≤ B) (hS : ¬ S gm) : MachB w' gm bp bl tok ss :=
  ⟨h.1.keep hk (Nat.lt_of_lt_of_le h.1.lt hB) hS, h.2⟩

theorem set_at (l : List Value) (i k : Nat) (v : Value) (h : i < l.length) : (l.set i v)[k]? = if k = i then some v else l[k]? := by
  rw [List.getElem?_set]
  by_cases e : i = k
  · subst e; simp [h]
  · rw [if_neg e, if_neg (fun x => e x.symm)]

theorem machL_set (bp bl : Nat) (tok : Int) (ss : List Ses) (p : Nat) (s : Ses) (hp : p < ss.length) :
    (((((machL bp bl tok ss).set (3 + p * 5) (.int .i64 s.inc)).set (3 + p * 5 + 1) (.int .i64 s.req)).set (3 + p * 5 + 2) (.int .i64 s.code)).set (3 + p * 5 + 3) (str s.val)).set (3 + p * 5 + 4) (.int .i64 s.n) = machL bp bl tok (ss.set p s) := by
  have hlen : (machL bp bl tok ss).length = 3 + ss.length * 5 := by
    unfold machL
    have : ∀ l : List Ses, (l.flatMap sesC).length = l.length * 5 := fun l => by
      induction l with
      | nil => rfl
      | cons a r ih => rw [List.flatMap_cons, List.length_append, ih]; simp [sesC]; omega
    rw [List.length_append, this]; rfl
  apply List.ext_getElem?
  intro k
  rw [set_at _ _ _ _ (by simp [hlen]; omega), set_at _ _ _ _ (by simp [hlen]; omega), set_at _ _ _ _ (by simp [hlen]; omega), set_at _ _ _ _ (by simp [hlen]; omega), set_at _ _ _ _ (by simp [hlen]; omega)]
  by_cases h3 : k < 3
  · rw [if_neg (by omega), if_neg (by omega), if_neg (by omega), if_neg (by omega), if_neg (by omega)]
    unfold machL
    rw [List.getElem?_append_left (by simpa using h3), List.getElem?_append_left (by simpa using h3)]
  · obtain ⟨p', j, hj, rfl⟩ : ∃ p' j, j < 5 ∧ k = 3 + p' * 5 + j := ⟨(k - 3) / 5, (k - 3) % 5, by omega, by omega⟩
    rw [machL_get _ _ _ _ _ _ hj, machL_get _ _ _ _ _ _ hj]
    by_cases hpp : p' = p
    · subst hpp
      rw [List.getElem?_set_self hp]
      rcases (show j = 0 ∨ j = 1 ∨ j = 2 ∨ j = 3 ∨ j = 4 from by omega) with rfl | rfl | rfl | rfl | rfl
      · rw [if_neg (by omega), if_neg (by omega), if_neg (by omega), if_neg (by omega), if_pos (by omega)]; rfl
      · rw [if_neg (by omega), if_neg (by omega), if_neg (by omega), if_pos (by omega)]; rfl
      · rw [if_neg (by omega), if_neg (by omega), if_pos (by omega)]; rfl
      · rw [if_neg (by omega), if_pos (by omega)]; rfl
      · rw [if_pos (by omega)]; rfl
    · rw [if_neg (by omega), if_neg (by omega), if_neg (by omega), if_neg (by omega), if_neg (by omega)]
      rw [List.getElem?_set_ne (fun e => hpp e.symm)]

/-- A session is laid in its place. -/
theorem MachB.put {w : World} {gm bp bl : Nat} {tok : Int} {ss : List Ses} (h : MachB w gm bp bl tok ss) (p : Nat) (s : Ses) (hp : p < 16) :
    MachB (((((w.setCell ⟨gm, 3 + p * 5, none⟩ (.int .i64 s.inc)).setCell ⟨gm, 3 + p * 5 + 1, none⟩ (.int .i64 s.req)).setCell ⟨gm, 3 + p * 5 + 2, none⟩ (.int .i64 s.code)).setCell ⟨gm, 3 + p * 5 + 3, none⟩ (str s.val)).setCell ⟨gm, 3 + p * 5 + 4, none⟩ (.int .i64 s.n)) gm bp bl tok (ss.set p s) := by
  refine ⟨?_, by rw [List.length_set]; exact h.2⟩
  have h1 := ((((h.1.set_ (3 + p * 5) (.int .i64 s.inc)).set_ (3 + p * 5 + 1) (.int .i64 s.req)).set_ (3 + p * 5 + 2) (.int .i64 s.code)).set_ (3 + p * 5 + 3) (str s.val)).set_ (3 + p * 5 + 4) (.int .i64 s.n)
  rw [← machL_set bp bl tok ss p s (by rw [h.2]; exact hp)]
  simpa using h1
end Go.Proofs.YtjdageiphebfpaaDoor

namespace Go.Proofs.YtjdageiphebfpaaDoor
open Go.RowKit
open Pl Mem

theorem one_ints (q : List Int) : ∀ u ∈ ints q, u.oneCell' = true := by
  intro u hu
  unfold ints at hu
  obtain ⟨x, _, rfl⟩ := List.mem_map.1 hu
  rfl

theorem QOwn.rd {w : World} {v : Value} {q : List Int} (h : QOwn w v q) : ∃ A c, v = .slice A q.length c ∧ q.length ≤ c ∧ c ≤ maxLen ∧ Rd w (fun k => v.ownBlock = some k) 1 A q.length (ints q) := by
  rcases h with ⟨rfl, rfl⟩ | ⟨g, off, cap, cur, rfl, hg, hle, hoc, hm, hc⟩
  · exact ⟨none, 0, rfl, Nat.le_refl _, by unfold maxLen; omega, Rd.nil_⟩
  · refine ⟨some ⟨g, off, none⟩, cap, rfl, hle, hm, by simp [ints], fun hn => ⟨_, rfl, rfl, (Array.getElem?_eq_some_iff.1 hg).1, fun j u hu => ?_⟩⟩
    have hj : j < q.length := by
      rcases Nat.lt_or_ge j (ints q).length with h1 | h1
      · simpa [ints] using h1
      · rw [List.getElem?_eq_none h1] at hu; cases hu
    have h2 : q[j]? = some q[j] := List.getElem?_eq_getElem hj
    have h3 : u = .int .i64 q[j] := by
      unfold ints at hu
      rw [List.getElem?_map, h2] at hu
      exact (Option.some.inj hu).symm
    have h4 : (⟨g, off, none⟩ : Addr).add j = ⟨g, off + j, none⟩ := by unfold Addr.add; split <;> simp_all
    rw [h4, cell_of_row w g (off + j) cur _ (0, 0) hg, hc j _ h2, h3]

theorem run_append_q {w : World} (ty : TypeId) (base : Nat) (v : Value) (n : Nat) (xs : List Value) (hown : w.ownsRow base 3 1 v n xs) (T : Nat → Prop) (A : Option Addr) (m c : Nat) (q : List Int) (hr : Rd w T 1 A m (ints q))
    (hb : n + m ≤ 1000000) (hbase : base ≤ w.heap.size) :
    ∃ v' w', (Builtin.append_ #[39, 39] ty #[v, .slice A m c]).run Tryd.prog w = .ok v' w' ∧ w'.ownsRow base 3 1 v' (n + m) (xs ++ ints q) ∧ w.grownBy w' v.ownBlock := by
  obtain ⟨i, hi, hz, hz1, hz2⟩ : ∃ i, Tryd.prog.info? 3 = some i ∧ i.zero = some (.int .i64 0) ∧ i.size = 1 ∧ i.bytes = 8 := info_parts (by kernel_rfl)
  cases A with
  | none =>
    have hm : m = 0 := by
      rcases Nat.eq_zero_or_pos m with h0 | h0
      · exact h0
      · obtain ⟨ad, h, _⟩ := hr.2 h0; cases h
    subst hm
    have hq : ints q = [] := List.eq_nil_of_length_eq_zero (by simpa using hr.1)
    rw [hq, List.append_nil, Nat.add_zero]
    refine ⟨v, w, ?_, hown, World.grownBy.refl w _⟩
    rcases hown.2 with ⟨rfl, rfl⟩ | ⟨g, cap, cur, rfl, _, _, hnc, _⟩
    · simp [Builtin.append_, run_underlying Tryd.underlying39, sizeOf, typeInfo, hi, Builtin.lenOf, Builtin.firstCells]
    · simp [Builtin.append_, run_underlying Tryd.underlying39, sizeOf, typeInfo, hi, Builtin.lenOf, Builtin.firstCells, hnc, storeCells]
  | some ad =>
    have hcells : ∀ j u, (ints q)[j]? = some u → w.cell? (ad.add j) = some u := by
      intro j u hu
      have hl := hr.1
      rcases Nat.eq_zero_or_pos m with h0 | h0
      · subst h0
        have hq : ints q = [] := List.eq_nil_of_length_eq_zero (by simpa using hl)
        rw [hq] at hu; simp at hu
      · obtain ⟨ad', h, _, _, hc⟩ := hr.2 h0
        cases h
        exact hc j u hu
    obtain ⟨v', w', hrun, h2, h3, _, _⟩ := run_append_own_at (P := Tryd.prog) w base 39 ty 3 i (.int .i64 0) 1 8 Tryd.underlying39 hi hz hz1 hz2 rfl (by omega) v n xs hown ad m c (ints q) hr.1 hcells (one_ints q) (by unfold maxLen; omega) (by omega) hbase
    exact ⟨v', w', hrun, h2, h3⟩

theorem step_append_q {w : World} {ops : Array Oper} {o : Oper} {a : Act} {K : Act → World → Prop} {Q : Exit → Act → World → Prop} {X : Prop} (hgd : o.guard = none) (s x : Operand)
    (ho : o.op = .call { callee := .builtin .append, args := #[s, x], argTypes := #[39, 39] })
    (base : Nat) (v : Value) (n : Nat) (xs : List Value) (hs : a.eval s = v) (hown : w.ownsRow base 3 1 v n xs) (T : Nat → Prop) (A : Option Addr) (m c : Nat) (q : List Int) (hx : a.eval x = .slice A m c) (hr : Rd w T 1 A m (ints q))
    (hb : n + m ≤ 1000000) (hbase : base ≤ w.heap.size)
    (h : ∀ v' w', w'.ownsRow base 3 1 v' (n + m) (xs ++ ints q) → w.grownBy w' v.ownBlock → K (a.put o.dst v') w') :
    if Region.wanted o (yielded ops a.tmps) = true then Oper.wp Tryd.prog o a w K Q else X := by
  have hw : Region.wanted o (yielded ops a.tmps) = true := by simp [Region.wanted, hgd]
  rw [if_pos hw]
  obtain ⟨v', w', hrun, h2, h3⟩ := run_append_q (w := w) o.type base v n xs hown T A m c q hr hb hbase
  unfold Oper.wp execOp
  simp only [ho, resolve, invoke, builtin, Sem.run_bind, Sem.run_pure, Result.andThen_ok, List.map_toArray, List.map_cons, List.map_nil, hs, hx, hrun]
  exact h v' w' h2 h3

/-- A new slice of one int. -/
theorem own_new (w : World) (base : Nat) (hb : base ≤ w.heap.size) (x : Int) : (w.alloc (.cells #[.int .i64 x] 3)).ownsRow base 3 1 (.slice (some ⟨w.heap.size, 0, none⟩) 1 1) 1 [.int .i64 x] :=
  ⟨rfl, Or.inr ⟨w.heap.size, 1, #[.int .i64 x], rfl, hb, heap_alloc_new w _, Nat.le_refl _, by unfold maxLen; omega, rfl, rfl⟩⟩
end Go.Proofs.YtjdageiphebfpaaDoor
