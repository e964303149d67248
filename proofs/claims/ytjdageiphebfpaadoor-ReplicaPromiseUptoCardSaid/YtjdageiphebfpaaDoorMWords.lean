/- Reading a snapshot, step by step as the program does; plain Lean. -/
import Derived.Test.YtjdageiphebfpaaDoorMBase
import GoSem.Op.String
import Derived.Maps.Own
import Derived.Maps.RangeRun
import Derived.MapKept
import Derived.Maps.RangeWalk
import Derived.Deep.AppendLies
import Derived.Maps.AppendAt
namespace Go.Proofs.YtjdageiphebfpaaDoor
namespace Pl
open Go

/-- Go's order of strings: at most. -/
def ble (a b : Bytes) : Bool := Op.bytesLess a b || a == b

structure PSt where
  st : St
  last : Bytes
  L : List (Bytes × Bytes)

def pStep (b : Bytes) (x : PSt) : PSt :=
  ⟨⟨(mText b 8 (mText b 8 x.st).2).2.p, (mText b 8 (mText b 8 x.st).2).2.bad || ble (mText b 8 x.st).1 x.last⟩, (mText b 8 x.st).1, aput x.L (mText b 8 x.st).1 (mText b 8 (mText b 8 x.st).2).1⟩
def pIter (b : Bytes) : Nat → PSt → PSt
  | 0, x => x
  | q + 1, x => pStep b (pIter b q x)
def pRun (b : Bytes) (s : St) (L : List (Bytes × Bytes)) : PSt := pIter b (mCount b 16 s).1 ⟨(mCount b 16 s).2, [], L⟩

/-! ### the locks -/
structure Lk where
  holder : Int
  token : Int
  queue : List Int

structure QSt where
  st : St
  q : List Int
def qStep (b : Bytes) (h : Int) (x : QSt) : QSt :=
  ⟨⟨(mCount b 15 x.st).2.p, (mCount b 15 x.st).2.bad || decide (((mCount b 15 x.st).1 : Int) ∈ h :: x.q)⟩, x.q ++ [((mCount b 15 x.st).1 : Int)]⟩
def qIter (b : Bytes) (h : Int) : Nat → QSt → QSt
  | 0, x => x
  | q + 1, x => qStep b h (qIter b h q x)

structure LSt where
  st : St
  last : Bytes
  toks : List Int
  L : List (Bytes × Lk)
def lName (b : Bytes) (x : LSt) : Bytes × St := mText b 8 x.st
def lHold (b : Bytes) (x : LSt) : Nat × St := mCount b 15 (lName b x).2
def lTok (b : Bytes) (tok : Nat) (x : LSt) : Nat × St := mCount b tok (lHold b x).2
def lCnt (b : Bytes) (tok : Nat) (x : LSt) : Nat × St := mCount b 15 (lTok b tok x).2
def lQ (b : Bytes) (tok : Nat) (x : LSt) : QSt := qIter b (lHold b x).1 (lCnt b tok x).1 ⟨(lCnt b tok x).2, []⟩
def lBad (b : Bytes) (tok : Nat) (x : LSt) : Bool := ble (lName b x).1 x.last || decide (((lTok b tok x).1 : Int) = 0) || decide (((lTok b tok x).1 : Int) ∈ x.toks)
def lStep (b : Bytes) (tok : Nat) (x : LSt) : LSt :=
  ⟨⟨(lQ b tok x).st.p, (lQ b tok x).st.bad || lBad b tok x⟩, (lName b x).1, x.toks ++ [((lTok b tok x).1 : Int)], aput x.L (lName b x).1 ⟨(lHold b x).1, (lTok b tok x).1, (lQ b tok x).q⟩⟩
def lIter (b : Bytes) (tok : Nat) : Nat → LSt → LSt
  | 0, x => x
  | q + 1, x => lStep b tok (lIter b tok q x)
def lRun (b : Bytes) (tok : Nat) (s : St) : LSt := lIter b tok (mCount b 8 s).1 ⟨(mCount b 8 s).2, [], [], []⟩

theorem lIter_toks (b : Bytes) (tok q : Nat) (x : LSt) : (lIter b tok q x).toks.length = x.toks.length + q := by
  induction q with
  | zero => rfl
  | succ q ih => simp only [lIter, lStep, List.length_append, ih, List.length_singleton]; omega
theorem qIter_len (b : Bytes) (h : Int) (q : Nat) (x : QSt) : (qIter b h q x).q.length = x.q.length + q := by
  induction q with
  | zero => rfl
  | succ q ih => simp only [qIter, qStep, List.length_append, ih, List.length_singleton]; omega

/-! ### the sessions -/
structure Ses where
  inc : Int
  req : Int
  code : Int
  val : Bytes
  n : Int
def zeroSes : Ses := ⟨0, 0, 0, [], 0⟩

structure SSt where
  st : St
  last : Int
  ss : List Ses
def sP (b : Bytes) (x : SSt) : Nat × St := mCount b 15 x.st
def sI (b : Bytes) (x : SSt) : Nat × St := mCount b maxC (sP b x).2
def sR (b : Bytes) (x : SSt) : Nat × St := mCount b maxC (sI b x).2
def sC (b : Bytes) (x : SSt) : Nat × St := mCount b 11 (sR b x).2
def sV (b : Bytes) (x : SSt) : Bytes × St := mText b 8 (sC b x).2
def sN (b : Bytes) (x : SSt) : Nat × St := mCount b 99999999 (sV b x).2
def sSes (b : Bytes) (x : SSt) : Ses := ⟨(sI b x).1, (sR b x).1, (sC b x).1, (sV b x).1, (sN b x).1⟩
def sBad (b : Bytes) (x : SSt) : Bool := decide (((sP b x).1 : Int) ≤ x.last) || decide ((sI b x).1 = 0) || decide ((sR b x).1 = 0) || decide ((sC b x).1 = 0) || decide ((sC b x).1 = 10)
def sStep (b : Bytes) (x : SSt) : SSt := ⟨⟨(sN b x).2.p, (sN b x).2.bad || sBad b x⟩, (sP b x).1, x.ss.set (sP b x).1 (sSes b x)⟩
def sIter (b : Bytes) : Nat → SSt → SSt
  | 0, x => x
  | q + 1, x => sStep b (sIter b q x)
def sRun (b : Bytes) (s : St) (ss : List Ses) : SSt := sIter b (mCount b 16 s).1 ⟨(mCount b 16 s).2, -1, ss⟩
/-- Is there a client among them that has no session? -/
def lacks (ss : List Ses) (l : List Int) : Bool := l.any fun p => decide ((ss.getD p.toNat zeroSes).inc = 0)
def lacksL (ss : List Ses) (L : List (Bytes × Lk)) : Bool := L.any fun p => lacks ss (p.2.holder :: p.2.queue)

theorem sIter_len (b : Bytes) (q : Nat) (x : SSt) : (sIter b q x).ss.length = x.ss.length := by
  induction q with
  | zero => rfl
  | succ q ih => simp only [sIter, sStep, List.length_set, ih]

/-- Holders and those who wait are nodes. -/
def LkOk (k : Lk) : Prop := (0 ≤ k.holder ∧ k.holder ≤ 15) ∧ (∀ x ∈ k.queue, 0 ≤ x ∧ x ≤ 15) ∧ k.queue.length ≤ 15
theorem qIter_ok (b : Bytes) (h : Int) (q : Nat) (x : QSt) (hx : ∀ y ∈ x.q, (0 : Int) ≤ y ∧ y ≤ 15) : ∀ y ∈ (qIter b h q x).q, (0 : Int) ≤ y ∧ y ≤ 15 := by
  induction q with
  | zero => exact hx
  | succ q ih =>
    intro y hy
    simp only [qIter, qStep, List.mem_append, List.mem_singleton] at hy
    rcases hy with hy | hy
    · exact ih y hy
    · have := mCount_le b 15 (qIter b h q x).st
      omega
theorem lIter_ok (b : Bytes) (tok q : Nat) (x : LSt) (hx : ∀ p ∈ x.L, LkOk p.2) : ∀ p ∈ (lIter b tok q x).L, LkOk p.2 := by
  induction q with
  | zero => exact hx
  | succ q ih =>
    intro p hp
    simp only [lIter, lStep] at hp
    rcases aput_mem hp with rfl | ⟨hp, _⟩
    · have := mCount_le b 15 (lName b (lIter b tok q x)).2
      refine ⟨⟨by simp only []; omega, by simp only [lHold]; omega⟩, qIter_ok b _ _ _ (by simp), ?_⟩
      have h2 : (lQ b tok (lIter b tok q x)).q.length = 0 + (lCnt b tok (lIter b tok q x)).1 := qIter_len b _ _ _
      have h3 : (lCnt b tok (lIter b tok q x)).1 ≤ 15 := mCount_le b 15 _
      simp only []
      omega
    · exact ih p hp

theorem lacks_succ (ss : List Ses) (l : List Int) (j : Nat) (h : j < l.length) : lacks ss (l.take (j + 1)) = (lacks ss (l.take j) || decide ((ss.getD (l[j]).toNat zeroSes).inc = 0)) := by
  unfold lacks
  rw [List.take_succ_eq_append_getElem h, List.any_append]
  simp
end Pl
end Go.Proofs.YtjdageiphebfpaaDoor

namespace Go.Proofs.YtjdageiphebfpaaDoor
namespace Mem
open Go.RowKit Go.MapKept Pl
open Go.ChangeMaps (setBlock)

/-- A type of keys, as values. -/
structure KV (d : TypeDesc) (K : Type) where
  kv : K → Value
  key : ∀ k, IsKey d (kv k)
  inj : ∀ a b, kv a = kv b → a = b

section
variable {K V : Type} {d : TypeDesc} (c : KV d K) (ev : V → Value)
def asv (L : List (K × V)) : List (Value × Value) := L.map fun p => (c.kv p.1, ev p.2)

/-- Block b is a map that holds just these pairs, laid in this order. -/
def MapIs (w : World) (b : Nat) (L : List (K × V)) : Prop :=
  ∃ es clock, w.heap[b]? = some (.map es clock) ∧ Stamped es clock ∧ es.toList.map (fun e => (e.key, e.val)) = asv c ev L

variable {c ev} {w w' : World} {b : Nat} {L : List (K × V)}
theorem MapIs.lt (h : MapIs c ev w b L) : b < w.heap.size := by
  obtain ⟨es, clock, hb, _⟩ := h
  exact (Array.getElem?_eq_some_iff.1 hb).1
theorem MapIs.keep {B : Nat} {S : Nat → Prop} (h : MapIs c ev w b L) (hk : Keep B S w w') (hB : b < B) (hS : ¬ S b) : MapIs c ev w' b L := by
  obtain ⟨es, clock, hb, hst, hl⟩ := h
  exact ⟨es, clock, (hk.block b hB hS).trans hb, hst, hl⟩
theorem MapIs.of_block (h : MapIs c ev w b L) (hk : w'.heap[b]? = w.heap[b]?) : MapIs c ev w' b L := by
  obtain ⟨es, clock, hb, hst, hl⟩ := h
  exact ⟨es, clock, hk.trans hb, hst, hl⟩
theorem MapIs.alloc (h : MapIs c ev w b L) (o : Obj) : MapIs c ev (w.alloc o) b L := h.of_block (Below.heap_alloc w o b h.lt)
theorem MapIs.drewN (h : MapIs c ev w b L) (n : Nat) : MapIs c ev (w.drewN n) b L := h
theorem MapIs.far (h : MapIs c ev w b L) {p : Addr} (hp : b ≠ p.block) (u : Value) : MapIs c ev (w.setCell p u) b L := h.of_block (Below.heap_setCell w p u b hp)
theorem MapIs.new (c : KV d K) (ev : V → Value) (w : World) : MapIs c ev (w.alloc (.map #[] 0)) w.heap.size [] := ⟨#[], 0, heap_alloc_new w _, stamped_empty 0, rfl⟩
theorem MapIs.new_ (c : KV d K) (ev : V → Value) {w : World} {g : Nat} (hg : w.heap.size = g) : MapIs c ev (w.alloc (.map #[] 0)) g [] := hg ▸ MapIs.new c ev w
theorem MapIs.ne_blk {g : Nat} {t : TypeId} {cs : Array Value} (h : MapIs c ev w b L) (hg : Blk w g t cs) : b ≠ g := by
  rintro rfl
  obtain ⟨es, clock, hb, _⟩ := h
  unfold Blk at hg
  rw [hb] at hg
  cases hg

theorem MapIs.keys (h : MapIs c ev w b L) : L.Pairwise fun a b => a.1 ≠ b.1 := by
  obtain ⟨es, clock, _, hst, hl⟩ := h
  have h3 := ((stamped_iff es clock).1 hst).2.2
  have h4 : (es.toList.map (fun e => (e.key, e.val))).Pairwise fun x y => x.1 ≠ y.1 := by rw [List.pairwise_map]; exact h3
  rw [hl] at h4
  unfold asv at h4
  rw [List.pairwise_map] at h4
  exact h4.imp fun hne e => hne (by rw [e])

end

section
variable {K V : Type} [DecidableEq K] {d : TypeDesc} {c : KV d K} {ev : V → Value} {w w' : World} {b : Nat} {L : List (K × V)}
/-- Where a key stands. -/
theorem MapIs.find {es : Array MapEntry} (hl : es.toList.map (fun e => (e.key, e.val)) = asv c ev L) (k : K) :
    (Instr.findNow d (c.kv k) es.toList 0 = some none ∧ aget L k = none) ∨
    ∃ j v, Instr.findNow d (c.kv k) es.toList 0 = some (some (j, ev v)) ∧ L[j]? = some (k, v) ∧ ∃ e, es[j]? = some e ∧ e.key = c.kv k ∧ e.val = ev v := by
  have hkeys : ∀ x ∈ es.toList, IsKey d x.key := by
    intro x hx
    have : (x.key, x.val) ∈ asv c ev L := hl ▸ List.mem_map.2 ⟨x, hx, rfl⟩
    obtain ⟨p, _, hp⟩ := List.mem_map.1 this
    rw [show x.key = c.kv p.1 from (congrArg Prod.fst hp).symm]
    exact c.key _
  rcases findNow_spec (c.key k) es.toList 0 hkeys with ⟨h1, h2⟩ | ⟨j, e, h1, h2, h3⟩
  · refine .inl ⟨h1, aget_none.2 fun p hp e => ?_⟩
    have : (c.kv p.1, ev p.2) ∈ es.toList.map (fun e => (e.key, e.val)) := hl ▸ List.mem_map.2 ⟨p, hp, rfl⟩
    obtain ⟨x, hx, hxe⟩ := List.mem_map.1 this
    exact h2 x hx ((congrArg Prod.fst hxe).trans (by rw [e]))
  · have h4 : (asv c ev L)[j]? = some (e.key, e.val) := by rw [← hl, List.getElem?_map, h2]; rfl
    unfold asv at h4
    rw [List.getElem?_map] at h4
    cases hj : L[j]? with
    | none => rw [hj] at h4; cases h4
    | some p =>
      rw [hj] at h4
      simp only [Option.map_some, Option.some.injEq, Prod.mk.injEq] at h4
      have hk : p.1 = k := c.inj _ _ (h4.1.trans h3)
      obtain ⟨p1, p2⟩ := p
      simp only at hk h4
      subst hk
      exact .inr ⟨j, p2, by rw [h1, Nat.zero_add, h4.2], hj, e, by rw [← Array.getElem?_toList]; exact h2, h3, h4.2.symm⟩

theorem run_look {P : Program} {t kt e : TypeId} (h : MapIs c ev w b L) (ht : P.underlying t = some (.map kt e)) (hd : P.underlying kt = some d) {z : Value} (hz : (zeroValue e).run P w = .ok z w) (k : K) (ok : Bool) :
    (Instr.lookup t (.map (some b)) (c.kv k) ok).run P w = .ok (if ok then .tuple #[((aget L k).map ev).getD z, .bool (aget L k).isSome] else ((aget L k).map ev).getD z) w := by
  have hkeys := h.keys
  obtain ⟨es, clock, hb, hst, hl⟩ := h
  rcases MapIs.find hl k with ⟨h1, h2⟩ | ⟨j, v, h1, h2, _⟩
  · rw [h2]
    simp [Instr.lookup, run_underlying ht, MapKept.run_getObj_map hb, MapKept.run_checkKey hd (c.key k), MapKept.run_findKey hd h1, hz, Result.andThen]
  · rw [show aget L k = some v from aget_some hkeys (p := (k, v)) (List.mem_of_getElem? h2)]
    simp [Instr.lookup, run_underlying ht, MapKept.run_getObj_map hb, MapKept.run_checkKey hd (c.key k), MapKept.run_findKey hd h1, Result.andThen]

theorem sameBits_key {d : TypeDesc} {v : Value} (h : IsKey d v) : Instr.sameBits 10000 v v = true := by
  cases d <;> cases v <;> simp_all [IsKey, Instr.sameBits, bytes_beq]

/-- 'm[k] = v'. -/
theorem run_put {P : Program} {t kt e : TypeId} (h : MapIs c ev w b L) (ht : P.underlying t = some (.map kt e)) (hd : P.underlying kt = some d) (k : K) (v : V) :
    ∃ w', (Instr.mapUpdate t (.map (some b)) (c.kv k) (ev v)).run P w = .ok () w' ∧ MapIs c ev w' b (aput L k v) ∧ w.grownBy w' (some b) := by
  have hkeys := h.keys
  obtain ⟨es, clock, hb, hst, hl⟩ := h
  have hg : ∀ o : Obj, w.grownBy { w with heap := w.heap.setIfInBounds b o } (some b) := fun o => ⟨rfl, rfl, rfl, by simp, fun i _ hi => (heap_set (o' := o) hb).2 i (fun e => hi (by rw [e]))⟩
  rcases MapIs.find hl k with ⟨h1, h2⟩ | ⟨j, v0, h1, h2, e0, he, hek, hev⟩
  · refine ⟨_, ?_, ⟨es.push { key := c.kv k, val := ev v, born := clock }, clock + 1, (heap_set hb).1, stamped_push hst ?_, ?_⟩, hg _⟩
    · simp [Instr.mapUpdate, run_underlying ht, MapKept.run_getObj_map hb, MapKept.run_checkKey hd (c.key k), MapKept.run_findKey hd h1, MapKept.run_setObj_map _ hb, Result.andThen]
    · intro x hx e
      have : (x.key, x.val) ∈ asv c ev L := hl ▸ List.mem_map.2 ⟨x, hx, rfl⟩
      obtain ⟨p, hp, hpe⟩ := List.mem_map.1 this
      exact aget_none.1 h2 p hp (c.inj _ _ ((congrArg Prod.fst hpe).trans e))
    · unfold aput
      rw [h2]
      simp only [Option.isSome_none, Bool.false_eq_true, if_false, Array.toList_push, List.map_append, List.map_cons, List.map_nil, hl]
      simp [asv]
  · refine ⟨_, ?_, ⟨es.modify j fun e => { e with key := c.kv k, val := ev v }, clock, (heap_set hb).1, stamped_modify hst j _ (fun _ _ => rfl) (fun e _ hej => ?_), ?_⟩, hg _⟩
    · have hk : ((Option.map (fun x => x.key) es[j]?).getD (c.kv k)) = c.kv k := by rw [he]; simpa using hek
      simp [Instr.mapUpdate, run_underlying ht, MapKept.run_getObj_map hb, MapKept.run_checkKey hd (c.key k), MapKept.run_findKey hd h1, Instr.keyThatStays, hk, sameBits_key (c.key k), MapKept.run_setObj_map _ hb, Result.andThen]
    · have : e = e0 := Option.some.inj (hej.symm.trans he)
      rw [this, hek]
    · unfold aput
      rw [show aget L k = some v0 from aget_some hkeys (p := (k, v0)) (List.mem_of_getElem? h2)]
      simp only [Option.isSome_some, if_true]
      rw [arep_set hkeys h2]
      apply List.ext_getElem?
      intro i
      unfold asv at hl ⊢
      have hli := congrArg (·[i]?) hl
      simp only [List.getElem?_map, Array.getElem?_toList] at hli
      simp only [List.getElem?_map, Array.getElem?_toList, Array.getElem?_modify, List.getElem?_set]
      have hj : j < L.length := (List.getElem?_eq_some_iff.1 h2).1
      by_cases hij : j = i
      · subst hij
        simp [he, hj]
      · simp only [hij, if_false]
        exact hli

omit [DecidableEq K] in
/-- len(m) -/
theorem run_len_map {P : Program} {t kt e ty : TypeId} (h : MapIs c ev w b L) (ht : P.underlying t = some (.map kt e)) :
    (Builtin.len_ #[t] ty #[.map (some b)]).run P w = .ok (goInt L.length) w := by
  obtain ⟨es, clock, hb, hst, hl⟩ := h
  have hs : es.size = L.length := by
    have := congrArg List.length hl
    simpa [asv] using this
  simp [Builtin.len_, run_underlying ht, MapKept.run_getObj_map hb, Result.andThen, hs]

/-- delete(m, k) -/
theorem run_del {P : Program} {t kt e ty : TypeId} {args : Array TypeId} (h : MapIs c ev w b L) (ha : args[0]? = some t) (ht : P.underlying t = some (.map kt e)) (hd : P.underlying kt = some d) (k : K) :
    ∃ w', (Builtin.delete_ args ty #[.map (some b), c.kv k]).run P w = .ok (.tuple #[]) w' ∧ MapIs c ev w' b (adel L k) ∧ w.grownBy w' (some b) := by
  have hkeys := h.keys
  obtain ⟨es, clock, hb, hst, hl⟩ := h
  have hg : ∀ o : Obj, w.grownBy { w with heap := w.heap.setIfInBounds b o } (some b) := fun o => ⟨rfl, rfl, rfl, by simp, fun i _ hi => (heap_set (o' := o) hb).2 i (fun e => hi (by rw [e]))⟩
  rcases MapIs.find hl k with ⟨h1, h2⟩ | ⟨j, v0, h1, h2, e0, he, hek, hev⟩
  · refine ⟨_, ?_, ⟨es, clock, (heap_set hb).1, hst, ?_⟩, hg _⟩
    · simp [Builtin.delete_, ha, run_underlying ht, MapKept.run_getObj_map hb, MapKept.run_checkKey hd (c.key k), MapKept.run_findKey hd h1, MapKept.run_setObj_map _ hb, Result.andThen]
    · unfold adel
      rw [List.filter_eq_self.2 (fun p hp => by simpa using aget_none.1 h2 p hp)]
      exact hl
  · refine ⟨_, ?_, ⟨es.eraseIdxIfInBounds j, clock, (heap_set hb).1, stamped_erase hst j, ?_⟩, hg _⟩
    · simp [Builtin.delete_, ha, run_underlying ht, MapKept.run_getObj_map hb, MapKept.run_checkKey hd (c.key k), MapKept.run_findKey hd h1, MapKept.run_setObj_map _ hb, Result.andThen]
    · have hj : j < L.length := (List.getElem?_eq_some_iff.1 h2).1
      have hes : j < es.size := (Array.getElem?_eq_some_iff.1 he).1
      have e1 : (es.eraseIdxIfInBounds j).toList = es.toList.eraseIdx j := by
        unfold Array.eraseIdxIfInBounds
        rw [dif_pos hes, Array.toList_eraseIdx]
      rw [e1]
      have e2 : adel L k = L.eraseIdx j := by
        have hLj : L[j]'hj = (k, v0) := by
          have := List.getElem?_eq_getElem hj
          rw [this] at h2
          exact Option.some.inj h2
        have hsplit : L = L.take j ++ (k, v0) :: L.drop (j + 1) := by
          rw [← hLj, ← List.drop_eq_getElem_cons hj, List.take_append_drop]
        rw [List.eraseIdx_eq_take_drop_succ]
        unfold adel
        conv => lhs; rw [hsplit]
        rw [hsplit] at hkeys
        rw [List.pairwise_append] at hkeys
        obtain ⟨_, hk2, hk3⟩ := hkeys
        rw [List.filter_append, List.filter_cons]
        simp only [ne_eq, not_true_eq_false, decide_false, Bool.false_eq_true, if_false]
        rw [List.filter_eq_self.2 (fun p hp => by simpa using hk3 p hp (k, v0) (by simp)), List.filter_eq_self.2 (fun p hp => by simpa using fun e => (List.pairwise_cons.1 hk2).1 p hp e.symm)]
      rw [e2]
      unfold asv at hl ⊢
      rw [Go.ChangeMaps.map_eraseIdx, Go.ChangeMaps.map_eraseIdx, hl]

/-- 'm[k] = v' AT THE OPERATION. -/
theorem wpList_put {P : Program} {ops : Array Oper} {rest : List Oper} {o : Oper} {a : Act} {Q : Exit → Act → World → Prop}
    (hg : o.guard = none) (m x y : Operand) (t : TypeId) (hop : o.op = Op.mapUpdate t m x y) {kt e : TypeId} (ht : P.underlying t = some (.map kt e)) (hd : P.underlying kt = some d)
    (hm : a.eval m = .map (some b)) (h : MapIs c ev w b L) (k : K) (v : V) (hx : a.eval x = c.kv k) (hv : a.eval y = ev v)
    (hK : ∀ w', MapIs c ev w' b (aput L k v) → w.grownBy w' (some b) → wpList P ops Q rest (a.put o.dst undef) w') :
    wpList P ops Q (o :: rest) a w := by
  refine wpList_plain hg fun K' hK' => ?_
  obtain ⟨w', hrun, r1, r2⟩ := run_put h ht hd k v
  unfold Oper.wp
  simp [execOp, hop, hm, hx, hv, hrun, Result.andThen]
  exact hK' _ _ (hK w' r1 r2)
end
end Mem
end Go.Proofs.YtjdageiphebfpaaDoor

namespace Go.Proofs.YtjdageiphebfpaaDoor
namespace Mem
open Go.RowKit Go.MapKept Pl
open Go.ChangeMaps (setBlock)

section
variable {K V : Type} {d : TypeDesc} (c : KV d K) (ev : V → Value)
/-- Block r is an iterator over the map in block b, which holds L; of these pairs 'left' are still to come. -/
def Rng (w : World) (r b : Nat) (L left : List (K × V)) : Prop :=
  ∃ es clock seen, w.heap[r]? = some (.mapIter (some b) clock seen clock) ∧ w.heap[b]? = some (.map es clock) ∧ Stamped es clock ∧ es.toList.map (fun e => (e.key, e.val)) = asv c ev L ∧
    left.Sublist L ∧ (leftOf es seen).toList.map (fun e => (e.key, e.val)) = asv c ev left

variable {c ev} {w w' : World} {r b : Nat} {L left : List (K × V)}
theorem Rng.keep {B : Nat} {S : Nat → Prop} (h : Rng c ev w r b L left) (hk : Keep B S w w') (hr : r < B ∧ ¬ S r) (hb : b < B ∧ ¬ S b) : Rng c ev w' r b L left := by
  obtain ⟨es, clock, seen, h1, h2, h3⟩ := h
  exact ⟨es, clock, seen, (hk.block r hr.1 hr.2).trans h1, (hk.block b hb.1 hb.2).trans h2, h3⟩
theorem Rng.lt (h : Rng c ev w r b L left) : r < w.heap.size ∧ b < w.heap.size := by
  obtain ⟨es, clock, seen, h1, h2, _⟩ := h
  exact ⟨(Array.getElem?_eq_some_iff.1 h1).1, (Array.getElem?_eq_some_iff.1 h2).1⟩

/-- 'range m'. -/
theorem run_rng {P : Program} {t kt e : TypeId} (h : MapIs c ev w b L) (ht : P.underlying t = some (.map kt e)) :
    ∃ w', (Instr.range t (.map (some b))).run P w = .ok (.pointer (some ⟨w.heap.size, 0, none⟩)) w' ∧ Rng c ev w' w.heap.size b L L ∧ w'.heap.size = w.heap.size + 1 ∧ Below w.heap.size w w' := by
  have hlt := h.lt
  obtain ⟨es, clock, hb, hst, hl⟩ := h
  refine ⟨w.alloc (.mapIter (some b) clock #[] clock), ?_, ⟨es, clock, #[], heap_alloc_new w _, (Below.heap_alloc w _ b hlt).trans hb, hst, hl, List.Sublist.refl _, ?_⟩, by simp, (Below.refl _ _).alloc (Nat.le_refl _) _⟩
  · simp [Instr.range, run_underlying ht, MapKept.run_getObj_map hb, Result.andThen]
  · rw [← hl]
    congr 1
    unfold leftOf
    simp

/-- The step. -/
theorem run_nxt {P : Program} (h : Rng c ev w r b L left) (hbr : b ≠ r) (hk : L.Pairwise fun a b => a.1 ≠ b.1) (ty : TypeId) :
    (left = [] ∧ (Instr.next (.pointer (some ⟨r, 0, none⟩)) false ty).run P w = .ok (.tuple #[.bool false]) w) ∨
    ∃ p w' left', p ∈ left ∧ (Instr.next (.pointer (some ⟨r, 0, none⟩)) false ty).run P w = .ok (.tuple #[.bool true, c.kv p.1, ev p.2]) w' ∧ Rng c ev w' r b L left' ∧ left'.length < left.length ∧ (∀ x ∈ left', x ∈ left) ∧ (∀ x ∈ left, x = p ∨ x ∈ left') ∧
      (Instr.entry (.pointer (some ⟨r, 0, none⟩))).run P w' = .ok (.tuple #[c.kv p.1, ev p.2]) w' ∧ w.grownBy w' (some r) := by
  obtain ⟨es, clock, seen, h1, h2, hst, hl, hsub, hleft⟩ := h
  have hst' := (stamped_iff es clock).1 hst
  rcases run_next_at (P := P) w ty r b clock clock seen es clock h1 h2 hst'.1 (Nat.le_refl _) with ⟨h0, hrun⟩ | ⟨e, he, w1, hw1, hrun⟩
  · left
    refine ⟨?_, hrun⟩
    have : (leftOf es seen).toList = [] := by
      apply List.eq_nil_of_length_eq_zero
      simpa using h0
    rw [this] at hleft
    unfold asv at hleft
    simpa using hleft.symm
  · right
    have hmem : (e.key, e.val) ∈ asv c ev left := hleft ▸ List.mem_map.2 ⟨e, he, rfl⟩
    obtain ⟨p, hp, hpe⟩ := List.mem_map.1 hmem
    simp only [Prod.mk.injEq] at hpe
    have hees : e ∈ es.toList := by
      unfold leftOf at he
      simp at he
      simpa using he.1
    have hnew : (leftOf es (seen.push e.born)).toList = (leftOf es seen).toList.filter fun x => x.born != e.born := by
      unfold leftOf
      rw [Array.toList_filter, Array.toList_filter, List.filter_filter]
      apply List.filter_congr
      intro x _
      rw [Bool.eq_iff_iff]
      simp [Array.mem_push]
      exact ⟨fun h => ⟨h.2, h.1⟩, fun h => ⟨h.2, h.1⟩⟩
    have hsubl : ((leftOf es (seen.push e.born)).toList.map fun e => (e.key, e.val)).Sublist (left.map fun p => (c.kv p.1, ev p.2)) := by
      rw [hnew]
      have := (List.filter_sublist (l := (leftOf es seen).toList) (p := fun x => x.born != e.born)).map fun e => (e.key, e.val)
      rw [hleft] at this
      exact this
    obtain ⟨left', hl1, hl2⟩ := List.sublist_map_iff.1 hsubl
    have hlen : left'.length < left.length := by
      have e1 := congrArg List.length hl2
      have e2 := congrArg List.length hleft
      simp only [List.length_map, asv] at e1 e2
      rw [← e1, ← e2, hnew]
      have := List.length_filter_lt_length_iff_exists (l := (leftOf es seen).toList) (p := fun x => x.born != e.born)
      exact this.2 ⟨e, he, by simp⟩
    have heq : ∀ x ∈ L, ∀ y ∈ L, x.1 = y.1 → x = y := by
      intro x hx y hy hxy
      have hP := List.pairwise_iff_getElem.1 hk
      obtain ⟨i, hi, rfl⟩ := List.mem_iff_getElem.1 hx
      obtain ⟨j, hj, rfl⟩ := List.mem_iff_getElem.1 hy
      rcases Nat.lt_trichotomy i j with hij | hij | hij
      · exact absurd hxy (hP i j hi hj hij)
      · subst hij; rfl
      · exact absurd hxy.symm (hP j i hj hi hij)
    refine ⟨p, _, left', hp, by rw [hpe.1, hpe.2]; exact hrun, ⟨es, clock, seen.push e.born, ?_, ?_, hst, hl, hl1.trans hsub, hl2⟩, hlen, fun x hx => hl1.subset hx, ?_, ?_, ?_⟩
    · rcases hw1 with rfl | rfl <;> exact (heap_set (o' := .mapIter (some b) clock (seen.push e.born) clock) h1).1
    · rcases hw1 with rfl | rfl <;> exact ((heap_set (o' := .mapIter (some b) clock (seen.push e.born) clock) h1).2 b hbr).trans h2
    · intro x hx
      have hx1 : (c.kv x.1, ev x.2) ∈ (leftOf es seen).toList.map (fun e => (e.key, e.val)) := hleft ▸ List.mem_map.2 ⟨x, hx, rfl⟩
      obtain ⟨e', he', hee⟩ := List.mem_map.1 hx1
      simp only [Prod.mk.injEq] at hee
      by_cases hborn : e'.born = e.born
      · left
        have hes' : e' ∈ es.toList := by
          unfold leftOf at he'
          simp at he'
          simpa using he'.1
        have hee' : e' = e := by
          have hn := hst'.2.1
          have h1 := find_born e' es.toList hn hes'
          have h2 := find_born e es.toList hn hees
          rw [hborn] at h1
          exact Option.some.inj (h1.symm.trans h2)
        subst hee'
        exact heq x (hsub.subset hx) p (hsub.subset hp) (c.inj _ _ (hee.1.symm.trans hpe.1.symm))
      · right
        have : (e'.key, e'.val) ∈ (leftOf es (seen.push e.born)).toList.map (fun e => (e.key, e.val)) := List.mem_map.2 ⟨e', by rw [hnew]; exact List.mem_filter.2 ⟨he', by simpa using hborn⟩, rfl⟩
        rw [hl2] at this
        obtain ⟨y, hy, hye⟩ := List.mem_map.1 this
        simp only [Prod.mk.injEq] at hye
        have : y = x := heq y (hsub.subset (hl1.subset hy)) x (hsub.subset hx) (c.inj _ _ (hye.1.trans hee.1))
        rw [← this]; exact hy
    · rw [hpe.1, hpe.2]
      refine run_entry_at _ r b clock seen es clock e ?_ ?_ hees hst'.2.1
      · rcases hw1 with rfl | rfl <;> exact (heap_set (o' := .mapIter (some b) clock (seen.push e.born) clock) h1).1
      · rcases hw1 with rfl | rfl <;> exact ((heap_set (o' := .mapIter (some b) clock (seen.push e.born) clock) h1).2 b hbr).trans h2
    · rcases hw1 with rfl | rfl <;> exact ⟨rfl, rfl, rfl, by simp [setBlock], fun i _ hi => (heap_set (o' := .mapIter (some b) clock (seen.push e.born) clock) h1).2 i (fun e => hi (by rw [e]))⟩

theorem wpList_rng {P : Program} {ops : Array Oper} {rest : List Oper} {o : Oper} {a : Act} {Q : Exit → Act → World → Prop} (hg : o.guard = none) (m : Operand) (t : TypeId) (hop : o.op = Op.range t m) {kt e : TypeId} (ht : P.underlying t = some (.map kt e))
    (hm : a.eval m = .map (some b)) (h : MapIs c ev w b L)
    (hK : ∀ w', Rng c ev w' w.heap.size b L L → w'.heap.size = w.heap.size + 1 → Below w.heap.size w w' → wpList P ops Q rest (a.put o.dst (.pointer (some ⟨w.heap.size, 0, none⟩))) w') : wpList P ops Q (o :: rest) a w := by
  refine wpList_plain hg fun K' hK' => ?_
  obtain ⟨w', hrun, r1, r2, r3⟩ := run_rng h ht
  unfold Oper.wp
  simp [execOp, hop, hm, hrun, Result.andThen]
  exact hK' _ _ (hK w' r1 r2 r3)

theorem wpList_nxt {P : Program} {ops : Array Oper} {rest : List Oper} {o : Oper} {a : Act} {Q : Exit → Act → World → Prop} (hg : o.guard = none) (it : Operand) (hop : o.op = Op.next it false) (hit : a.eval it = .pointer (some ⟨r, 0, none⟩))
    (h : Rng c ev w r b L left) (hbr : b ≠ r) (hk : L.Pairwise fun a b => a.1 ≠ b.1)
    (hDone : left = [] → wpList P ops Q rest (a.put o.dst (.tuple #[.bool false])) w)
    (hMore : ∀ p w' left', p ∈ left → Rng c ev w' r b L left' → left'.length < left.length → (∀ x ∈ left', x ∈ left) → (∀ x ∈ left, x = p ∨ x ∈ left') →
      (Instr.entry (.pointer (some ⟨r, 0, none⟩))).run P w' = .ok (.tuple #[c.kv p.1, ev p.2]) w' → w.grownBy w' (some r) → wpList P ops Q rest (a.put o.dst (.tuple #[.bool true, c.kv p.1, ev p.2])) w') : wpList P ops Q (o :: rest) a w := by
  refine wpList_plain hg fun K' hK' => ?_
  unfold Oper.wp
  rcases run_nxt (P := P) h hbr hk o.type with ⟨h0, hrun⟩ | ⟨p, w', left', h1, hrun, h2, h3, h4, h5, h6, h7⟩
  · simp [execOp, hop, hit, hrun, Result.andThen]
    exact hK' _ _ (hDone h0)
  · simp [execOp, hop, hit, hrun, Result.andThen]
    exact hK' _ _ (hMore p w' left' h1 h2 h3 h4 h5 h6 h7)
end
end Mem
end Go.Proofs.YtjdageiphebfpaaDoor

namespace Go.Proofs.YtjdageiphebfpaaDoor
open Go.RowKit
open Mem

theorem run_append_rd {P : Program} {w : World} (base : Nat) (t ty e : TypeId) (i : TypeInfo) (z : Value) (size bytes : Nat) (ht : P.underlying t = some (.slice e)) (hi : P.info? e = some i) (hz : i.zero = some z)
    (hsize : i.size = size) (hby : i.bytes = bytes) (hzs : z.cells.size = size) (hsz : 0 < size)
    (v : Value) (n : Nat) (xs : List Value) (hown : w.ownsRow base e size v n xs)
    (T : Nat → Prop) (A : Option Addr) (m c : Nat) (news : List Value) (hr : Rd w T size A m news) (h1 : ∀ u ∈ news, u.oneCell' = true)
    (h63 : n + m ≤ maxLen) (hbytes : (n + m) * bytes ≤ 140737488355328) (hbase : base ≤ w.heap.size) :
    ∃ v' w', (Builtin.append_ #[t, t] ty #[v, .slice A m c]).run P w = .ok v' w' ∧ w'.ownsRow base e size v' (n + m) (xs ++ news) ∧ w.grownBy w' v.ownBlock ∧
      (v' = .slice none 0 0 ↔ v = .slice none 0 0 ∧ m = 0) ∧ (v'.ownBlock = v.ownBlock ∨ v'.ownBlock = some w.heap.size) := by
  cases A with
  | none =>
    have hm : m = 0 := by
      rcases Nat.eq_zero_or_pos m with h0 | h0
      · exact h0
      · obtain ⟨ad, h, _⟩ := hr.2 h0; cases h
    subst hm
    have hq : news = [] := List.eq_nil_of_length_eq_zero (by simpa using hr.1)
    subst hq
    rw [List.append_nil, Nat.add_zero]
    refine ⟨v, w, ?_, hown, World.grownBy.refl w _, by simp, Or.inl rfl⟩
    rcases hown.2 with ⟨rfl, rfl⟩ | ⟨g, cap, cur, rfl, _, _, hnc, _⟩
    · simp [Builtin.append_, run_underlying ht, sizeOf, typeInfo, hi, Builtin.lenOf, Builtin.firstCells]
    · simp [Builtin.append_, run_underlying ht, sizeOf, typeInfo, hi, Builtin.lenOf, Builtin.firstCells, hnc, storeCells]
  | some ad =>
    have hcells : ∀ j u, news[j]? = some u → w.cell? (ad.add j) = some u := by
      intro j u hu
      have hl := hr.1
      rcases Nat.eq_zero_or_pos m with h0 | h0
      · subst h0
        have hq : news = [] := List.eq_nil_of_length_eq_zero (by simpa using hl)
        rw [hq] at hu; simp at hu
      · obtain ⟨ad', h, _, _, hc⟩ := hr.2 h0
        cases h
        exact hc j u hu
    exact run_append_own_at (P := P) w base t ty e i z size bytes ht hi hz hsize hby hzs hsz v n xs hown ad m c news hr.1 hcells h1 h63 hbytes hbase

theorem step_append_rd {P : Program} {w : World} {ops : Array Oper} {o : Oper} {a : Act} {K : Act → World → Prop} {Q : Exit → Act → World → Prop} {X : Prop} (hgd : o.guard = none) (s x : Operand)
    (base : Nat) (t e : TypeId) (i : TypeInfo) (z : Value) (size bytes : Nat) (ho : o.op = .call { callee := .builtin .append, args := #[s, x], argTypes := #[t, t] })
    (ht : P.underlying t = some (.slice e)) (hi : P.info? e = some i) (hz : i.zero = some z)
    (hsize : i.size = size) (hby : i.bytes = bytes) (hzs : z.cells.size = size) (hsz : 0 < size)
    (v : Value) (n : Nat) (xs : List Value) (hs : a.eval s = v) (hown : w.ownsRow base e size v n xs)
    (T : Nat → Prop) (A : Option Addr) (m c : Nat) (news : List Value) (hx : a.eval x = .slice A m c) (hr : Rd w T size A m news) (h1 : ∀ u ∈ news, u.oneCell' = true)
    (h63 : n + m ≤ maxLen) (hbytes : (n + m) * bytes ≤ 140737488355328) (hbase : base ≤ w.heap.size)
    (h : ∀ v' w', w'.ownsRow base e size v' (n + m) (xs ++ news) → w.grownBy w' v.ownBlock → (v'.ownBlock = v.ownBlock ∨ v'.ownBlock = some w.heap.size) → K (a.put o.dst v') w') :
    if Region.wanted o (yielded ops a.tmps) = true then Oper.wp P o a w K Q else X := by
  have hw : Region.wanted o (yielded ops a.tmps) = true := by simp [Region.wanted, hgd]
  rw [if_pos hw]
  obtain ⟨v', w', hrun, h2, h3, _, h5⟩ := run_append_rd (P := P) (w := w) base t o.type e i z size bytes ht hi hz hsize hby hzs hsz v n xs hown T A m c news hr h1 h63 hbytes hbase
  unfold Oper.wp execOp
  simp only [ho, resolve, invoke, builtin, Sem.run_bind, Sem.run_pure, Result.andThen_ok, List.map_toArray, List.map_cons, List.map_nil, hs, hx, hrun]
  exact h v' w' h2 h3 h5

theorem wpList_append_rd {P : Program} {w : World} {ops : Array Oper} {rest : List Oper} {o : Oper} {a : Act} {Q : Exit → Act → World → Prop} (hgd : o.guard = none) (s x : Operand)
    (base : Nat) (t e : TypeId) (i : TypeInfo) (z : Value) (size bytes : Nat) (ho : o.op = .call { callee := .builtin .append, args := #[s, x], argTypes := #[t, t] })
    (ht : P.underlying t = some (.slice e)) (hi : P.info? e = some i) (hz : i.zero = some z)
    (hsize : i.size = size) (hby : i.bytes = bytes) (hzs : z.cells.size = size) (hsz : 0 < size)
    (v : Value) (n : Nat) (xs : List Value) (hs : a.eval s = v) (hown : w.ownsRow base e size v n xs)
    (T : Nat → Prop) (A : Option Addr) (m c : Nat) (news : List Value) (hx : a.eval x = .slice A m c) (hr : Rd w T size A m news) (h1 : ∀ u ∈ news, u.oneCell' = true)
    (h63 : n + m ≤ maxLen) (hbytes : (n + m) * bytes ≤ 140737488355328) (hbase : base ≤ w.heap.size)
    (h : ∀ v' w', w'.ownsRow base e size v' (n + m) (xs ++ news) → w.grownBy w' v.ownBlock → (v'.ownBlock = v.ownBlock ∨ v'.ownBlock = some w.heap.size) → wpList P ops Q rest (a.put o.dst v') w') :
    wpList P ops Q (o :: rest) a w := by
  have := step_append_rd (X := True) (K := wpList P ops Q rest) (Q := Q) (ops := ops) hgd s x base t e i z size bytes ho ht hi hz hsize hby hzs hsz v n xs hs hown T A m c news hx hr h1 h63 hbytes hbase h
  have hw : Region.wanted o (yielded ops a.tmps) = true := by simp [Region.wanted, hgd]
  rw [if_pos hw] at this
  unfold wpList
  rw [if_pos hw]
  exact Or.inl this

/-- Bytes are cells of one kind. -/
theorem one_u8s (l : List UInt8) : ∀ u ∈ u8s l, u.oneCell' = true := by
  intro u hu
  unfold u8s at hu
  obtain ⟨x, _, rfl⟩ := List.mem_map.1 hu
  rfl
end Go.Proofs.YtjdageiphebfpaaDoor
