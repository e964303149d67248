/- The reference's read. -/
import Derived.Test.YtjdageiphebfpaaDoorMRfWords
import Derived.Deep.RegionLaw
import Derived.StillTailTactics
import Derived.Test.YtjdageiphebfpaaDoorMLocks
namespace Go.Proofs.YtjdageiphebfpaaDoor
open Go.RowKit
open Pl Mem

/-- What holds while a snapshot's inside is read. -/
structure RfI (w W : World) (g : Nat) (T : Nat → Prop) (bs : Bytes) (s : St) (tok : Int) (ps : List (Bytes × Bytes)) (hs : List HkV) (al : List Ak) : Prop where
  rd : NRd W g T bs s
  mach : ∃ v1 v2, FMach W w.heap.size (w.heap.size + 1) tok ps hs al v1 v2
  keep : Keep w.heap.size (· = g) w W
  size : w.heap.size + 1 ≤ W.heap.size

section
variable {w W W' : World} {g : Nat} {T : Nat → Prop} {bs : Bytes} {s s' : St} {tok : Int} {ps : List (Bytes × Bytes)} {hs : List HkV} {al : List Ak}
theorem RfI.call (h : RfI w W g T bs s tok ps hs al) (hg : g < w.heap.size) (hN : NRd W' g T bs s') (hk : Keep W.heap.size (· = g) W W') : RfI w W' g T bs s' tok ps hs al where
  rd := hN
  mach := by
    obtain ⟨v1, v2, hm⟩ := h.mach
    exact ⟨v1, v2, hm.keep hk (Nat.le_refl _) (by omega) (fun k hk _ => by omega)⟩
  keep := h.keep.and hk h.keep.size (fun _ _ h => h)
  size := Nat.le_trans h.size hk.size
theorem RfI.own (h : RfI w W g T bs s tok ps hs al) (hg : g < w.heap.size) (hT : ∀ k, T k → k < w.heap.size) (t : Int) : RfI w (W.setCell ⟨w.heap.size, 2, none⟩ (.int .i64 t)) g T bs s t ps hs al where
  rd := h.rd.keep (B := W.heap.size) (S := (· = w.heap.size)) ((Keep.refl _ _ _).own 2 _) (Nat.le_refl _) (by omega) (fun k _ hk e => by have := hT k hk; omega)
  mach := by
    obtain ⟨v1, v2, hm⟩ := h.mach
    exact ⟨v1, v2, hm.tokSet t⟩
  keep := h.keep.new (Nat.le_refl _) 2 _
  size := by simpa [World.setCell] using h.size
theorem RfI.alloc (h : RfI w W g T bs s tok ps hs al) (o : Obj) : RfI w (W.alloc o) g T bs s tok ps hs al where
  rd := h.rd.keep (B := W.heap.size) (S := fun _ => False) ((Keep.refl _ _ _).alloc (Nat.le_refl _) _) (Nat.le_refl _) (fun h => h) (fun _ _ _ h => h)
  mach := by
    obtain ⟨v1, v2, hm⟩ := h.mach
    exact ⟨v1, v2, hm.keep (S := fun _ => False) ((Keep.refl W.heap.size _ _).alloc (Nat.le_refl _) _) (Nat.le_refl _) (fun h => h) (fun _ _ _ h => h)⟩
  keep := h.keep.alloc (by have := h.size; omega) _
  size := by have := h.size; simp; omega
/-- A row has grown, and its slice is laid into the machine. -/
theorem RfI.rdGrown {W1 : World} (h : NRd W g T bs s) (hg : g < w.heap.size) (hT : ∀ k, T k → k < w.heap.size) {row : Option Nat} (hgr : W.grownBy W1 row) (hrow : ∀ k, row = some k → w.heap.size + 1 ≤ k) (i : Nat) (u : Value) : NRd (W1.setCell ⟨w.heap.size, i, none⟩ u) g T bs s := by
  have h1 := h.keep (Keep.of_row hgr) (Nat.le_refl _) (fun e => by have := hrow g e; omega) (fun k _ hk e => by have := hT k hk; have := hrow k e; omega)
  exact h1.keep (B := W1.heap.size) (S := (· = w.heap.size)) ((Keep.refl _ _ _).own i _) (Nat.le_refl _) (by omega) (fun k _ hk e => by have := hT k hk; omega)
theorem RfI.fin0 (hN : NRd W g T bs s) (hsz : w.heap.size + 1 ≤ W.heap.size) (hkp : Keep w.heap.size (· = g) w W) {v1 v2 : Value} (hg : g < w.heap.size) (hT : ∀ k, T k → k < w.heap.size) (hpk : Keep W.heap.size (· = w.heap.size) W W') (hm : FMach W' w.heap.size (w.heap.size + 1) tok ps hs al v1 v2) : RfI w W' g T bs s tok ps hs al := by
  refine ⟨hN.keep hpk (Nat.le_refl _) (by omega) (fun k _ hk e => by have := hT k hk; omega), ⟨v1, v2, hm⟩, ?_, Nat.le_trans hsz hpk.size⟩
  exact hkp.trans (hpk.mono (B' := w.heap.size) (S' := (· = g)) (by omega) (fun k hk e => by omega))
theorem FMach.drew_ {M base : Nat} {v1 v2 : Value} (h : FMach W M base tok ps hs al v1 v2) : FMach W.drew M base tok ps hs al v1 v2 := ⟨h.blk, h.own1, h.own2, h.qs, h.len, h.lt⟩
theorem Keep.six {M : Nat} (p : Nat) (sv : Ses) : Keep W.heap.size (· = M) W ((((((W.setCell ⟨M, 3 + p * 6, none⟩ (.bool true)).setCell ⟨M, 3 + p * 6 + 1, none⟩ (.int .i64 sv.inc)).setCell ⟨M, 3 + p * 6 + 2, none⟩ (.int .i64 sv.req)).setCell ⟨M, 3 + p * 6 + 3, none⟩ (.int .i64 sv.code)).setCell ⟨M, 3 + p * 6 + 4, none⟩ (str sv.val)).setCell ⟨M, 3 + p * 6 + 5, none⟩ (.int .i64 sv.n)) :=
  ((((((Keep.refl W.heap.size (· = M) W).own _ _).own _ _).own _ _).own _ _).own _ _).own _ _
theorem RfI.fin (hN : NRd W g T bs s) (hsz : w.heap.size + 1 ≤ W.heap.size) (hkp : Keep w.heap.size (· = g) w W) {v1 v2 : Value} (hm : FMach W w.heap.size (w.heap.size + 1) tok ps hs al v1 v2) (hg : g < w.heap.size) (hT : ∀ k, T k → k < w.heap.size) {p : Nat} (hp : p < 16) (sv : Ses) :
    RfI w (((((((W.setCell ⟨w.heap.size, 3 + p * 6, none⟩ (.bool true)).setCell ⟨w.heap.size, 3 + p * 6 + 1, none⟩ (.int .i64 sv.inc)).setCell ⟨w.heap.size, 3 + p * 6 + 2, none⟩ (.int .i64 sv.req)).setCell ⟨w.heap.size, 3 + p * 6 + 3, none⟩ (.int .i64 sv.code)).setCell ⟨w.heap.size, 3 + p * 6 + 4, none⟩ (.string ⟨sv.val.toArray⟩)).setCell ⟨w.heap.size, 3 + p * 6 + 5, none⟩ (.int .i64 sv.n)).drew) g T bs s tok ps hs (al.set p ⟨true, sv⟩) := by
  have hpk := Keep.six (W := W) (M := w.heap.size) p sv
  have hmp := hm.put p ⟨true, sv⟩ hp
  unfold str at hpk hmp
  simp only [] at hmp
  generalize ((((((W.setCell ⟨w.heap.size, 3 + p * 6, none⟩ (.bool true)).setCell ⟨w.heap.size, 3 + p * 6 + 1, none⟩ (.int .i64 sv.inc)).setCell ⟨w.heap.size, 3 + p * 6 + 2, none⟩ (.int .i64 sv.req)).setCell ⟨w.heap.size, 3 + p * 6 + 3, none⟩ (.int .i64 sv.code)).setCell ⟨w.heap.size, 3 + p * 6 + 4, none⟩ (.string ⟨sv.val.toArray⟩)).setCell ⟨w.heap.size, 3 + p * 6 + 5, none⟩ (.int .i64 sv.n)) = W' at hpk hmp ⊢
  exact RfI.fin0 hN hsz hkp hg hT hpk.drew hmp.drew_
theorem RfI.pair (hN : NRd W g T bs s) (hsz : w.heap.size + 1 ≤ W.heap.size) (hkp : Keep w.heap.size (· = g) w W) {v1 v2 : Value} (hm : FMach W w.heap.size (w.heap.size + 1) tok ps hs al v1 v2) (hg : g < w.heap.size) (hT : ∀ k, T k → k < w.heap.size) (p : Bytes × Bytes) {W1 : World} {v' : Value}
    (hown : W1.ownsRow (w.heap.size + 1) 109 2 v' (ps.length + 1) (pairC ps ++ [str p.1, str p.2])) (hgr : W.grownBy W1 v1.ownBlock) : RfI w (W1.setCell ⟨w.heap.size, 0, none⟩ v') g T bs s tok (ps ++ [p]) hs al where
  rd := RfI.rdGrown hN hg hT hgr (fun k e => (own_obj hm.own1 e).1) 0 _
  mach := ⟨v', v2, hm.pair p hown hgr⟩
  keep := (hkp.grown hgr (by omega) (fun k e => Or.inl (by have := (own_obj hm.own1 e).1; omega))).new (Nat.le_refl _) 0 _
  size := by have := hgr.size; simp [World.setCell]; omega
theorem RfI.lock (hN : NRd W g T bs s) (hsz : w.heap.size + 1 ≤ W.heap.size) (hkp : Keep w.heap.size (· = g) w W) {v1 v2 : Value} (hm : FMach W w.heap.size (w.heap.size + 1) tok ps hs al v1 v2) (hg : g < w.heap.size) (hT : ∀ k, T k → k < w.heap.size) (x : HkV) (hx1 : QOwn W x.v x.k.queue) (hx2 : ∀ k, x.v.ownBlock = some k → w.heap.size + 1 ≤ k) {W1 : World} {v' : Value}
    (hown : W1.ownsRow (w.heap.size + 1) 111 4 v' (hs.length + 1) (hksC hs ++ hkC x)) (hgr : W.grownBy W1 v2.ownBlock) : RfI w (W1.setCell ⟨w.heap.size, 1, none⟩ v') g T bs s tok ps (hs ++ [x]) al where
  rd := RfI.rdGrown hN hg hT hgr (fun k e => (own_obj hm.own2 e).1) 1 _
  mach := ⟨v1, v', hm.lock x hx1 hx2 hown hgr⟩
  keep := (hkp.grown hgr (by omega) (fun k e => Or.inl (by have := (own_obj hm.own2 e).1; omega))).new (Nat.le_refl _) 1 _
  size := by have := hgr.size; simp [World.setCell]; omega
end
/-- What holds while a local struct is filled; wo: the world at its making. -/
structure LocI (wo W : World) (g : Nat) (T : Nat → Prop) (bs : Bytes) (s : St) (t : TypeId) (cs : Array Value) : Prop where
  rd : NRd W g T bs s
  loc : Blk W wo.heap.size t cs
  keep : Keep wo.heap.size (· = g) wo W
  size : wo.heap.size + 1 ≤ W.heap.size
section
variable {wo W W' : World} {g : Nat} {T : Nat → Prop} {bs : Bytes} {s s' : St} {t : TypeId} {cs : Array Value}
theorem LocI.call (h : LocI wo W g T bs s t cs) (hg : g < wo.heap.size) (hN : NRd W' g T bs s') (hk : Keep W.heap.size (· = g) W W') : LocI wo W' g T bs s' t cs where
  rd := hN
  loc := h.loc.keep hk h.loc.lt (by omega)
  keep := h.keep.and hk h.keep.size (fun _ _ h => h)
  size := Nat.le_trans h.size hk.size
theorem LocI.set (h : LocI wo W g T bs s t cs) (hg : g < wo.heap.size) (hT : ∀ k, T k → k < wo.heap.size) (i : Nat) (u : Value) : LocI wo (W.setCell ⟨wo.heap.size, i, none⟩ u) g T bs s t (cs.setIfInBounds i u) where
  rd := h.rd.keep (B := W.heap.size) (S := (· = wo.heap.size)) ((Keep.refl _ _ _).own i _) (Nat.le_refl _) (by omega) (fun k _ hk e => by have := hT k hk; omega)
  loc := h.loc.set_ i u
  keep := h.keep.new (Nat.le_refl _) i _
  size := by simpa [World.setCell] using h.size
end
theorem rd_new (w : World) (t : TypeId) (T : Nat → Prop) (size n : Nat) (xs : List Value) (h : xs.length = n * size) (hT : T w.heap.size) : Rd (w.alloc (.cells xs.toArray t)) T size (some ⟨w.heap.size, 0, none⟩) n xs :=
  ⟨h, fun _ => ⟨_, rfl, hT, by simp, fun j u hu => by
    have e : (⟨w.heap.size, 0, none⟩ : Addr).add j = ⟨w.heap.size, j, none⟩ := by unfold Addr.add; split <;> simp_all
    rw [e, (Blk.new w t xs.toArray).cell, List.getElem?_toArray]
    exact hu⟩⟩

/-- What holds while one lock is read; wr: the world at its begin. -/
structure RlI (wr W : World) (g : Nat) (T : Nat → Prop) (bs : Bytes) (s : St) (c0 c1 c2 v : Value) (q : List Int) : Prop where
  rd : NRd W g T bs s
  lk : Blk W wr.heap.size 111 #[c0, c1, c2, v]
  own : W.ownsRow (wr.heap.size + 1) 3 1 v q.length (ints q)
  keep : Keep wr.heap.size (· = g) wr W
  size : wr.heap.size + 1 ≤ W.heap.size
section
variable {wr W W' : World} {g : Nat} {T : Nat → Prop} {bs : Bytes} {s s' : St} {c0 c1 c2 v : Value} {q : List Int}
theorem RlI.call (h : RlI wr W g T bs s c0 c1 c2 v q) (hg : g < wr.heap.size) (hN : NRd W' g T bs s') (hk : Keep W.heap.size (· = g) W W') : RlI wr W' g T bs s' c0 c1 c2 v q where
  rd := hN
  lk := h.lk.keep hk h.lk.lt (by omega)
  own := own_keepB h.own hk (Nat.le_refl _) (fun k _ _ hb => by omega)
  keep := h.keep.and hk h.keep.size (fun _ _ h => h)
  size := Nat.le_trans h.size hk.size
theorem RlI.far (h : NRd W g T bs s) (hg : g < wr.heap.size) (hT : ∀ k, T k → k < wr.heap.size) (i : Nat) (u : Value) : NRd (W.setCell ⟨wr.heap.size, i, none⟩ u) g T bs s :=
  h.keep (B := W.heap.size) (S := (· = wr.heap.size)) ((Keep.refl _ _ _).own i _) (Nat.le_refl _) (by omega) (fun k _ hk e => by have := hT k hk; omega)
theorem RlI.set0 (h : RlI wr W g T bs s c0 c1 c2 v q) (hg : g < wr.heap.size) (hT : ∀ k, T k → k < wr.heap.size) (u : Value) : RlI wr (W.setCell ⟨wr.heap.size, 0, none⟩ u) g T bs s u c1 c2 v q where
  rd := RlI.far h.rd hg hT 0 u
  lk := h.lk.set_ 0 u
  own := own_keepB h.own (S := (· = wr.heap.size)) ((Keep.refl W.heap.size _ _).own 0 _) (Nat.le_refl _) (fun k _ _ _ => by omega)
  keep := h.keep.new (Nat.le_refl _) 0 _
  size := by simpa [World.setCell] using h.size
theorem RlI.set1 (h : RlI wr W g T bs s c0 c1 c2 v q) (hg : g < wr.heap.size) (hT : ∀ k, T k → k < wr.heap.size) (u : Value) : RlI wr (W.setCell ⟨wr.heap.size, 1, none⟩ u) g T bs s c0 u c2 v q where
  rd := RlI.far h.rd hg hT 1 u
  lk := h.lk.set_ 1 u
  own := own_keepB h.own (S := (· = wr.heap.size)) ((Keep.refl W.heap.size _ _).own 1 _) (Nat.le_refl _) (fun k _ _ _ => by omega)
  keep := h.keep.new (Nat.le_refl _) 1 _
  size := by simpa [World.setCell] using h.size
theorem RlI.set2 (h : RlI wr W g T bs s c0 c1 c2 v q) (hg : g < wr.heap.size) (hT : ∀ k, T k → k < wr.heap.size) (u : Value) : RlI wr (W.setCell ⟨wr.heap.size, 2, none⟩ u) g T bs s c0 c1 u v q where
  rd := RlI.far h.rd hg hT 2 u
  lk := h.lk.set_ 2 u
  own := own_keepB h.own (S := (· = wr.heap.size)) ((Keep.refl W.heap.size _ _).own 2 _) (Nat.le_refl _) (fun k _ _ _ => by omega)
  keep := h.keep.new (Nat.le_refl _) 2 _
  size := by simpa [World.setCell] using h.size
/-- One more that waits. -/
theorem RlI.app (h : RlI wr W g T bs s c0 c1 c2 v q) (hg : g < wr.heap.size) (hT : ∀ k, T k → k < wr.heap.size) (o : Obj) (x : Int) {W1 : World} {v' : Value} (hown : W1.ownsRow (wr.heap.size + 1) 3 1 v' (q.length + 1) (ints q ++ [.int .i64 x])) (hgr : (W.alloc o).grownBy W1 v.ownBlock) :
    RlI wr (W1.setCell ⟨wr.heap.size, 3, none⟩ v') g T bs s c0 c1 c2 v' (q ++ [x]) := by
  have ha : Keep W.heap.size (fun _ => False) W (W.alloc o) := (Keep.refl _ _ _).alloc (Nat.le_refl _) _
  have hsz := h.size
  have hgs := hgr.size
  have hsa : (W.alloc o).heap.size = W.heap.size + 1 := by simp
  have hk := Keep.of_row hgr
  have hrow : ∀ k, v.ownBlock = some k → wr.heap.size + 1 ≤ k := fun k e => (own_obj h.own e).1
  have hN1 := (h.rd.keep ha (Nat.le_refl _) (fun h => h) (fun _ _ _ h => h)).keep hk (Nat.le_refl _) (fun e => by have := hrow g e; omega) (fun k _ hk e => by have := hT k hk; have := hrow k e; omega)
  refine ⟨RlI.far hN1 hg hT 3 v', ((h.lk.alloc o).keep hk (h.lk.alloc o).lt (fun e => by have := hrow _ e; omega)).set_ 3 v', ?_, ((h.keep.alloc (by omega) o).grown hgr (by omega) (fun k e => Or.inl (by have := hrow k e; omega))).new (Nat.le_refl _) 3 _, by simp [World.setCell]; omega⟩
  have := own_keepB hown (S := (· = wr.heap.size)) ((Keep.refl W1.heap.size _ _).own 3 v') (Nat.le_refl _) (fun k _ _ _ => by omega)
  simpa [ints] using this
end

theorem zeroMach : Tryd.zeroCells107 = (fmL (.slice none 0 0) (.slice none 0 0) 0 (List.replicate 16 zeroAk)).toArray := by kernel_rfl
theorem lock_info : (Tryd.prog.info? 111).map (fun i => (i.zero, i.size, i.bytes)) = some (some (.agg #[.string ⟨#[]⟩, .int .i64 0, .int .i64 0, .slice none 0 0]), 4, 56) := by kernel_rfl
theorem pair_info : (Tryd.prog.info? 109).map (fun i => (i.zero, i.size, i.bytes)) = some (some (.agg #[.string ⟨#[]⟩, .string ⟨#[]⟩]), 2, 32) := by kernel_rfl

set_option maxRecDepth 100000 in
set_option maxHeartbeats 4000000 in
theorem nread (g : Nat) (T : Nat → Prop) (bs : Bytes) (w : World) (hbs : bs.length ≤ 1099511627776) (h : NRd w g T bs ⟨3, false⟩) (hT : ∀ k, T k → k < w.heap.size) :
    Calls Tryd.prog 31 #[.pointer (some ⟨g, 0, none⟩)] w fun e w' => ∃ M, w.heap.size ≤ M ∧ 
      e = .returned (.pointer (some ⟨w.heap.size, 0, none⟩)) ∧ ∃ hs, RfI w w' g T bs (fS bs).st (fTok bs).1 (fP bs).ps hs (fS bs).al ∧ hs.map HkV.k = (fL bs).hs := by
  have hg := h.lt
  have HTk := Lib.hid fun W h => (show Calls Tryd.prog 16 #[.pointer (some ⟨g, 0, none⟩), .int .i64 0, .int .i64 99999999] W fun e w' => e = .returned (.int .i64 (fTok bs).1) ∧ NRd w' g T bs (fTok bs).2 ∧ Keep W.heap.size (· = g) W w' from nnum g T bs ⟨3, false⟩ 0 99999999 W h)
  have HN1 := Lib.hid fun W h => (show Calls Tryd.prog 16 #[.pointer (some ⟨g, 0, none⟩), .int .i64 0, .int .i64 16] W fun e w' => e = .returned (.int .i64 (fN1 bs).1) ∧ NRd w' g T bs (fN1 bs).2 ∧ Keep W.heap.size (· = g) W w' from nnum g T bs (fTok bs).2 0 16 W h)
  have hn1 : ((fN1 bs).1 : Int) ≤ 16 := nNum_hi bs 0 16 (fTok bs).2 (by omega)
  go_enter Tryd.func31, Tryd.ntmps31
  go_wp2_with fail
  have hI0 : RfI w (w.alloc (.cells Tryd.zeroCells107 107)) g T bs ⟨3, false⟩ 0 [] [] (List.replicate 16 zeroAk) := by
    refine ⟨h.keep (B := w.heap.size) (S := fun _ => False) ((Keep.refl _ _ _).alloc (Nat.le_refl _) _) (Nat.le_refl _) (fun h => h) (fun _ _ _ h => h), ⟨.slice none 0 0, .slice none 0 0, ⟨?_, ⟨rfl, Or.inl ⟨rfl, rfl⟩⟩, ⟨rfl, Or.inl ⟨rfl, rfl⟩⟩, (fun x hx => by cases hx), rfl, by omega⟩⟩, (Keep.refl _ _ _).alloc (Nat.le_refl _) _, by simp⟩
    rw [← zeroMach]
    exact Blk.new w _ _
  refine (HTk.out _ hI0.rd).mono ?_
  rintro e W1 ⟨rfl, hN, hk⟩
  have hI1 := hI0.call hg hN hk
  clear hI0 hN hk HTk
  obtain ⟨v1, v2, hm⟩ := hI1.mach
  have c2 := hm.c2
  have f2 := hm.blk.frozen 2
  clear hm
  go_wp2_with fail
  have hI2 := hI1.own hg hT (fTok bs).1
  clear hI1 c2 f2
  generalize W1.setCell ⟨w.heap.size, 2, none⟩ (.int .i64 (fTok bs).1) = W2 at hI2 ⊢
  refine (HN1.out _ hI2.rd).mono ?_
  rintro e W3 ⟨rfl, hN, hk⟩
  have hI3 := hI2.call hg hN hk
  clear hI2 hN hk HN1
  have HfP : Hid (fP bs = fpIter bs (fN1 bs).1 ⟨(fN1 bs).2, []⟩) := rfl
  generalize hx0 : (⟨(fN1 bs).2, []⟩ : FP) = X0 at HfP
  have hI3 : RfI w W3 g T bs X0.st (fTok bs).1 X0.ps [] (List.replicate 16 zeroAk) := by rw [← hx0]; exact hI3
  have hps0 : X0.ps.length = 0 := by rw [← hx0]; rfl
  clear hx0
  generalize (fN1 bs).1 = N at hn1 HfP ⊢
  go_wp2_with fail
  go_loopw [5] (fun i wr => ∃ q : Nat, q ≤ N ∧ i = .int .i64 q ∧ RfI w wr g T bs (fpIter bs q X0).st (fTok bs).1 (fpIter bs q X0).ps [] (List.replicate 16 zeroAk)) (fun i _ => N - (intOf i).toNat)
  case atStart => exact ⟨0, by omega, rfl, hI3⟩
  case round =>
    obtain ⟨q, hq, rfl, hIr⟩ := hrel
    clear hI3
    by_cases hl : q < N
    · have hlen : (fpIter bs q X0).ps.length ≤ 16 := by rw [fpIter_len]; omega
      have HST : Hid (fpIter bs (q + 1) X0 = fpStep bs (fpIter bs q X0)) := rfl
      generalize fpIter bs q X0 = X at *
      have HK := Lib.hid fun W h => (show Calls Tryd.prog 17 #[.pointer (some ⟨g, 0, none⟩), .int .i64 1, .int .i64 8] W fun e w' => ∃ A' c', e = .returned (.slice A' (fpK bs X).1.length c') ∧ w'.ownsRow W.heap.size 5 1 (.slice A' (fpK bs X).1.length c') (fpK bs X).1.length (u8s (fpK bs X).1) ∧ NRd w' g T bs (fpK bs X).2 ∧ Keep W.heap.size (· = g) W w' from nbytes g T bs X.st 1 8 W hbs h)
      have HV := Lib.hid fun W h => (show Calls Tryd.prog 28 #[.pointer (some ⟨g, 0, none⟩), .int .i64 8] W fun e w' => e = .returned (.string ⟨(fpV bs X).1.toArray⟩) ∧ NRd w' g T bs (fpV bs X).2 ∧ Keep W.heap.size (· = g) W w' from ntext g T bs (fpK bs X).2 8 W hbs h)
      go_wp2_with fail
      refine (HK.out _ hIr.rd).mono ?_
      rintro e w1 ⟨A1, c1, rfl, hown, hN, hk⟩
      have hI1 := hIr.call hg hN hk
      have hV := run_str (P := Tryd.prog) (src := 27) Tryd.underlying27 Tryd.underlying5 Tryd.underlying9 (c := c1) (Rd.of_own hown)
      unfold str at hV
      clear hIr hN hk hown HK
      go_wp2_with fail
      clear hV
      refine (HV.out _ hI1.rd).mono ?_
      rintro e w2 ⟨rfl, hN, hk⟩
      have hI2 := hI1.call hg hN hk
      clear hI1 hN hk HV
      obtain ⟨v1, v2, hm⟩ := hI2.mach
      have c0 := hm.c0
      have f0 := hm.blk.frozen 0
      obtain ⟨ip, hip, hy1, hy2, hy3⟩ := info_parts pair_info
      have hma := hm.keep (S := fun _ => False) ((Keep.refl w2.heap.size _ _).alloc (Nat.le_refl _) (.cells #[.string ⟨(fpK bs X).1.toArray⟩, .string ⟨(fpV bs X).1.toArray⟩] 109)) (Nat.le_refl _) (fun h => h) (fun _ _ _ h => h)
      have hI2a := hI2.alloc (.cells #[.string ⟨(fpK bs X).1.toArray⟩, .string ⟨(fpV bs X).1.toArray⟩] 109)
      go_wp2_with (
        at_builtin
        refine wpList_append_rd (by rfl) (.tmp 40) (.tmp 44) (w.heap.size + 1) 101 109 ip (.agg #[.string ⟨#[]⟩, .string ⟨#[]⟩]) 2 32 (by rfl) Tryd.underlying101 hip hy1 hy2 hy3 (by rfl) (by omega) v1 X.ps.length (pairC X.ps) (by rfl) hma.own1 (fun _ => True) (some ⟨w2.heap.size, 0, none⟩) 1 1 [.string ⟨(fpK bs X).1.toArray⟩, .string ⟨(fpV bs X).1.toArray⟩] (by rfl) (rd_new w2 _ _ _ _ _ rfl trivial) (by simp [Value.oneCell']) (by unfold maxLen; omega) (by omega) (by have := hI2.size; simp; omega) ?_
        intro v' w4 hown4 hg4 hob4
        obtain ⟨A4, c4, rfl, hl4⟩ := own_slice_ hown4
        have hb4 := hma.blk.keep (Keep.of_row hg4) hma.blk.lt (fun e => by have := (own_obj hma.own1 e).1; omega)
        have f4 := hb4.frozen 0
        have d4 : w4.cell? ⟨w.heap.size, 0, none⟩ = some v1 := by rw [hb4.cell]; simp [fmL]
        clear hb4)
      have hF := RfI.pair hI2a.rd hI2a.size hI2a.keep hma hg hT ((fpK bs X).1, (fpV bs X).1) hown4 hg4
      have HF := Lib.hid hF
      clear hF hown4 hg4 hob4 hma hI2a hI2 hm c0 f0 f4 d4 hip hy1 hy2 hy3
      go_roundw
      case rel => exact ⟨q + 1, by omega, by go_num, by rw [HST.out]; exact HF.out⟩
      case measure => simp [intOf]; omega
    · obtain rfl : q = N := by omega
      rw [← HfP.out] at hIr
      clear HfP hps0 hl hq hn1
      have HN2 := Lib.hid fun W h => (show Calls Tryd.prog 16 #[.pointer (some ⟨g, 0, none⟩), .int .i64 0, .int .i64 8] W fun e w' => e = .returned (.int .i64 (fN2 bs).1) ∧ NRd w' g T bs (fN2 bs).2 ∧ Keep W.heap.size (· = g) W w' from nnum g T bs (fP bs).st 0 8 W h)
      have hn2 : ((fN2 bs).1 : Int) ≤ 8 := nNum_hi bs 0 8 (fP bs).st (by omega)
      go_wp2_with fail
      refine (HN2.out _ hIr.rd).mono ?_
      rintro e W4 ⟨rfl, hN, hk⟩
      have hI4 := hIr.call hg hN hk
      clear hIr hN hk HN2
      have HfL : Hid (fL bs = flIter bs (fN2 bs).1 ⟨(fN2 bs).2, []⟩) := rfl
      generalize hy0 : (⟨(fN2 bs).2, []⟩ : FL) = Y0 at HfL
      have hI4 : RfI w W4 g T bs Y0.st (fTok bs).1 (fP bs).ps [] (List.replicate 16 zeroAk) := by rw [← hy0]; exact hI4
      have hhs0 : Y0.hs = [] := by rw [← hy0]
      have HY0 := Lib.hid hhs0
      clear hy0 hhs0
      generalize (fN2 bs).1 = N2 at hn2 HfL ⊢
      go_wp2_with fail
      go_loopw [8] (fun i wr => ∃ q : Nat, q ≤ N2 ∧ i = .int .i64 q ∧ ∃ hs, RfI w wr g T bs (flIter bs q Y0).st (fTok bs).1 (fP bs).ps hs (List.replicate 16 zeroAk) ∧ Hid (hs.map HkV.k = (flIter bs q Y0).hs)) (fun i _ => N2 - (intOf i).toNat)
      case atStart => exact ⟨0, by omega, rfl, [], hI4, HY0.out.symm⟩
      case round =>
        obtain ⟨wo, hwo⟩ : ∃ x, x = wr := ⟨_, rfl⟩
        subst hwo
        obtain ⟨q, hq, rfl, hs, hIr, HHS⟩ := hrel
        clear hI4
        by_cases hl : q < N2
        · have hlen : hs.length ≤ 8 := by
            have h1 := congrArg List.length HHS.out
            rw [List.length_map, flIter_len, HY0.out] at h1
            simp at h1; omega
          have HST : Hid (flIter bs (q + 1) Y0 = flStep bs (flIter bs q Y0)) := rfl
          generalize flIter bs q Y0 = Y at *
          have HA := Lib.hid fun W h => (show Calls Tryd.prog 17 #[.pointer (some ⟨g, 0, none⟩), .int .i64 1, .int .i64 8] W fun e w' => ∃ A' c', e = .returned (.slice A' (flName bs Y.st).1.length c') ∧ w'.ownsRow W.heap.size 5 1 (.slice A' (flName bs Y.st).1.length c') (flName bs Y.st).1.length (u8s (flName bs Y.st).1) ∧ NRd w' g T bs (flName bs Y.st).2 ∧ Keep W.heap.size (· = g) W w' from nbytes g T bs Y.st 1 8 W hbs h)
          have HB := Lib.hid fun W h => (show Calls Tryd.prog 16 #[.pointer (some ⟨g, 0, none⟩), .int .i64 0, .int .i64 15] W fun e w' => e = .returned (.int .i64 (flHold bs Y.st).1) ∧ NRd w' g T bs (flHold bs Y.st).2 ∧ Keep W.heap.size (· = g) W w' from nnum g T bs (flName bs Y.st).2 0 15 W h)
          have HC := Lib.hid fun W h => (show Calls Tryd.prog 16 #[.pointer (some ⟨g, 0, none⟩), .int .i64 1, .int .i64 99999999] W fun e w' => e = .returned (.int .i64 (flTok bs Y.st).1) ∧ NRd w' g T bs (flTok bs Y.st).2 ∧ Keep W.heap.size (· = g) W w' from nnum g T bs (flHold bs Y.st).2 1 99999999 W h)
          have HD := Lib.hid fun W h => (show Calls Tryd.prog 16 #[.pointer (some ⟨g, 0, none⟩), .int .i64 0, .int .i64 15] W fun e w' => e = .returned (.int .i64 (flCnt bs Y.st).1) ∧ NRd w' g T bs (flCnt bs Y.st).2 ∧ Keep W.heap.size (· = g) W w' from nnum g T bs (flTok bs Y.st).2 0 15 W h)
          have hn3 : ((flCnt bs Y.st).1 : Int) ≤ 15 := nNum_hi bs 0 15 (flTok bs Y.st).2 (by omega)
          have hgr : g < wo.heap.size := by have := hIr.size; omega
          have hTr : ∀ k, T k → k < wo.heap.size := fun k hk => by have := hT k hk; have := hIr.size; omega
          go_wp2_with fail
          have hL0 : RlI wo (wo.alloc (.cells #[.string ⟨#[]⟩, .int .i64 0, .int .i64 0, .slice none 0 0] 111)) g T bs Y.st (.string ⟨#[]⟩) (.int .i64 0) (.int .i64 0) (.slice none 0 0) [] :=
            ⟨(hIr.alloc _).rd, Blk.new wo _ _, ⟨rfl, Or.inl ⟨rfl, rfl⟩⟩, (Keep.refl _ _ _).alloc (Nat.le_refl _) _, by simp⟩
          refine (HA.out _ hL0.rd).mono ?_
          rintro e w1 ⟨A1, c1, rfl, hown, hN, hk⟩
          have hL1 := hL0.call hgr hN hk
          have hV := run_str (P := Tryd.prog) (src := 27) Tryd.underlying27 Tryd.underlying5 Tryd.underlying9 (c := c1) (Rd.of_own hown)
          unfold str at hV
          have r := hL1.lk.cell 0
          have f := hL1.lk.frozen 0
          clear hL0 hN hk hown HA
          go_wp2_with fail
          have hL2 := hL1.set0 hgr hTr (.string ⟨(flName bs Y.st).1.toArray⟩)
          clear hV hL1 r f
          generalize w1.setCell ⟨wo.heap.size, 0, none⟩ (.string ⟨(flName bs Y.st).1.toArray⟩) = w2 at hL2 ⊢
          refine (HB.out _ hL2.rd).mono ?_
          rintro e w3 ⟨rfl, hN, hk⟩
          have hL3 := hL2.call hgr hN hk
          have r := hL3.lk.cell 1
          have f := hL3.lk.frozen 1
          clear hL2 hN hk HB
          go_wp2_with fail
          have hL4 := hL3.set1 hgr hTr (.int .i64 (flHold bs Y.st).1)
          clear hL3 r f
          generalize w3.setCell ⟨wo.heap.size, 1, none⟩ (.int .i64 (flHold bs Y.st).1) = w4 at hL4 ⊢
          refine (HC.out _ hL4.rd).mono ?_
          rintro e w5 ⟨rfl, hN, hk⟩
          have hL5 := hL4.call hgr hN hk
          have r := hL5.lk.cell 2
          have f := hL5.lk.frozen 2
          clear hL4 hN hk HC
          go_wp2_with fail
          have hL6 := hL5.set2 hgr hTr (.int .i64 (flTok bs Y.st).1)
          clear hL5 r f
          generalize w5.setCell ⟨wo.heap.size, 2, none⟩ (.int .i64 (flTok bs Y.st).1) = w6 at hL6 ⊢
          refine (HD.out _ hL6.rd).mono ?_
          rintro e w7 ⟨rfl, hN, hk⟩
          have hL7 := hL6.call hgr hN hk
          clear hL6 hN hk HD
          have HQ : Hid (flQ bs Y.st = fqIter bs (flCnt bs Y.st).1 ⟨(flCnt bs Y.st).2, []⟩) := rfl
          generalize hz0 : (⟨(flCnt bs Y.st).2, []⟩ : FQ) = Z0 at HQ
          have hL7 : ∃ v, RlI wo w7 g T bs Z0.st (.string ⟨(flName bs Y.st).1.toArray⟩) (.int .i64 (flHold bs Y.st).1) (.int .i64 (flTok bs Y.st).1) v Z0.q := by rw [← hz0]; exact ⟨_, hL7⟩
          have hq0 : Z0.q.length = 0 := by rw [← hz0]; rfl
          clear hz0
          generalize (flCnt bs Y.st).1 = N3 at hn3 HQ ⊢
          go_wp2_with fail
          go_loopw [11] (fun i wq => ∃ j : Nat, j ≤ N3 ∧ i = .int .i64 j ∧ ∃ v, RlI wo wq g T bs (fqIter bs j Z0).st (.string ⟨(flName bs Y.st).1.toArray⟩) (.int .i64 (flHold bs Y.st).1) (.int .i64 (flTok bs Y.st).1) v (fqIter bs j Z0).q) (fun i _ => N3 - (intOf i).toNat)
          case atStart => exact ⟨0, by omega, rfl, hL7⟩
          case round =>
            obtain ⟨j, hj, rfl, v, hLr⟩ := hrel
            clear hL7
            by_cases hlj : j < N3
            · have hjl : (fqIter bs j Z0).q.length ≤ 15 := by rw [fqIter_len]; omega
              have HSQ : Hid (fqIter bs (j + 1) Z0 = fqStep bs (fqIter bs j Z0)) := rfl
              generalize fqIter bs j Z0 = Z at *
              have HE := Lib.hid fun W h => nnum g T bs Z.st 0 15 W h
              have HZ : Hid (fqStep bs Z = ⟨(nNum bs 0 15 Z.st).2, Z.q ++ [((nNum bs 0 15 Z.st).1 : Int)]⟩) := rfl
              generalize nNum bs 0 15 Z.st = rz at HE HZ
              go_wp2_with fail
              refine (HE.out _ hLr.rd).mono ?_
              rintro e w8 ⟨rfl, hN, hk⟩
              have hL8 := hLr.call hgr hN hk
              clear hLr hN hk HE
              have r := hL8.lk.cell 3
              have f := hL8.lk.frozen 3
              have owa := own_keepB hL8.own (S := fun _ => False) ((Keep.refl w8.heap.size _ _).alloc (Nat.le_refl _) (.cells #[.int .i64 rz.1] 3)) (Nat.le_refl _) (fun _ _ _ _ h => h)
              obtain ⟨A8, c8, hv8, hl8⟩ := own_slice_ hL8.own
              subst hv8
              obtain ⟨ii, hii, hy1, hy2, hy3⟩ := info_parts int_info
              go_wp2_with (
                at_builtin
                refine wpList_append_rd (by rfl) (.tmp 76) (.tmp 78) (wo.heap.size + 1) 39 3 ii (.int .i64 0) 1 8 (by rfl) Tryd.underlying39 hii hy1 hy2 hy3 (by rfl) (by omega) (.slice A8 Z.q.length c8) Z.q.length (ints Z.q) (by rfl) owa (fun _ => True) (some ⟨w8.heap.size, 0, none⟩) 1 1 [.int .i64 rz.1] (by rfl) (rd_new w8 _ _ _ _ _ rfl trivial) (by simp [Value.oneCell']) (by unfold maxLen; omega) (by omega) (by have := hL8.size; simp; omega) ?_
                intro v' w9 hown9 hg9 hob9
                obtain ⟨A9, c9, rfl, hl9⟩ := own_slice_ hown9
                have hb9 := (hL8.lk.alloc (.cells #[.int .i64 rz.1] 3)).keep (Keep.of_row hg9) (hL8.lk.alloc (.cells #[.int .i64 rz.1] 3)).lt (fun e => by have := (own_obj owa e).1; omega)
                have f9 := hb9.frozen 3
                have d9 := hb9.cell 3
                clear hb9)
              have hF := hL8.app hgr hTr _ _ hown9 hg9
              have HF := Lib.hid hF
              clear hF hown9 hg9 hob9 owa hL8 r f f9 d9 hii hy1 hy2 hy3
              go_roundw
              case rel => exact ⟨j + 1, by omega, by go_num, _, by rw [HSQ.out, HZ.out]; exact HF.out⟩
              case measure => simp [intOf]; omega
            · obtain rfl : j = N3 := by omega
              rw [← HQ.out] at hLr
              clear HQ hq0 hlj hj hn3
              obtain ⟨A3, c3, hv3, hl3⟩ := own_slice_ hLr.own
              subst hv3
              obtain ⟨v1, v2, hm⟩ := hIr.mach
              have hmW := hm.keep hLr.keep (Nat.le_refl _) (by omega) (fun k hk _ => by omega)
              have hkW := hIr.keep.and hLr.keep hIr.keep.size (fun _ _ h => h)
              have hsW : w.heap.size + 1 ≤ wr.heap.size := Nat.le_trans hIr.size hLr.keep.size
              have r0 := hLr.lk.cell 0
              have r1 := hLr.lk.cell 1
              have r2 := hLr.lk.cell 2
              have r3 := hLr.lk.cell 3
              have c1 := hmW.c1
              have f1 := hmW.blk.frozen 1
              go_wp2_with fail
              have c1a : (wr.alloc (.cells #[.string ⟨(flName bs Y.st).1.toArray⟩, .int .i64 (flHold bs Y.st).1, .int .i64 (flTok bs Y.st).1, .slice A3 (flQ bs Y.st).q.length c3] 111)).cell? ⟨w.heap.size, 1, none⟩ = some v2 := cell_alloc c1 (.cells #[.string ⟨(flName bs Y.st).1.toArray⟩, .int .i64 (flHold bs Y.st).1, .int .i64 (flTok bs Y.st).1, .slice A3 (flQ bs Y.st).q.length c3] 111)
              have hmb := hmW.keep (S := fun _ => False) ((Keep.refl wr.heap.size _ _).alloc (Nat.le_refl _) (.cells #[.string ⟨(flName bs Y.st).1.toArray⟩, .int .i64 (flHold bs Y.st).1, .int .i64 (flTok bs Y.st).1, .slice A3 (flQ bs Y.st).q.length c3] 111)) (Nat.le_refl _) (fun h => h) (fun _ _ _ h => h)
              have hma : FMach (wr.alloc (.cells #[.string ⟨(flName bs Y.st).1.toArray⟩, .int .i64 (flHold bs Y.st).1, .int .i64 (flTok bs Y.st).1, .slice A3 (flQ bs Y.st).q.length c3] 111)).drew w.heap.size (w.heap.size + 1) (fTok bs).1 (fP bs).ps hs (List.replicate 16 zeroAk) v1 v2 := ⟨hmb.blk, hmb.own1, hmb.own2, hmb.qs, hmb.len, hmb.lt⟩
              clear hmb
              have hNa : NRd (wr.alloc (.cells #[.string ⟨(flName bs Y.st).1.toArray⟩, .int .i64 (flHold bs Y.st).1, .int .i64 (flTok bs Y.st).1, .slice A3 (flQ bs Y.st).q.length c3] 111)).drew g T bs (flQ bs Y.st).st := hLr.rd.keep (B := wr.heap.size) (S := fun _ => False) ((Keep.refl wr.heap.size _ wr).alloc (Nat.le_refl _) _).drew (Nat.le_refl _) (fun h => h) (fun _ _ _ h => h)
              have hQa : QOwn (wr.alloc (.cells #[.string ⟨(flName bs Y.st).1.toArray⟩, .int .i64 (flHold bs Y.st).1, .int .i64 (flTok bs Y.st).1, .slice A3 (flQ bs Y.st).q.length c3] 111)).drew (.slice A3 (flQ bs Y.st).q.length c3) (flQ bs Y.st).q := (QOwn.of_own hLr.own).keep (S := fun _ => False) ((Keep.refl wr.heap.size _ wr).alloc (Nat.le_refl _) (.cells #[.string ⟨(flName bs Y.st).1.toArray⟩, .int .i64 (flHold bs Y.st).1, .int .i64 (flTok bs Y.st).1, .slice A3 (flQ bs Y.st).q.length c3] 111)).drew (Nat.le_refl _) (fun _ _ h => h)
              have hQb : ∀ k, (Value.slice A3 (flQ bs Y.st).q.length c3).ownBlock = some k → w.heap.size + 1 ≤ k := fun k e => by have := (own_obj hLr.own e).1; have := hIr.size; omega
              have hka := (hkW.alloc (B := w.heap.size) (by omega) (.cells #[.string ⟨(flName bs Y.st).1.toArray⟩, .int .i64 (flHold bs Y.st).1, .int .i64 (flTok bs Y.st).1, .slice A3 (flQ bs Y.st).q.length c3] 111)).drew
              have hza : w.heap.size + 1 ≤ (wr.alloc (.cells #[.string ⟨(flName bs Y.st).1.toArray⟩, .int .i64 (flHold bs Y.st).1, .int .i64 (flTok bs Y.st).1, .slice A3 (flQ bs Y.st).q.length c3] 111)).drew.heap.size := by show _ ≤ (wr.heap.push _).size; simp; omega
              obtain ⟨il, hil, hy1, hy2, hy3⟩ := info_parts lock_info
              have hva : ∀ u ∈ ([.string ⟨(flName bs Y.st).1.toArray⟩, .int .i64 (flHold bs Y.st).1, .int .i64 (flTok bs Y.st).1, .slice A3 (flQ bs Y.st).q.length c3] : List Value), u.oneCell' = true := by simp [Value.oneCell']
              have HVA := Lib.hid hva
              clear hva
              go_region_law
                (first
                  | (refine step_append_rd (by rfl) (.tmp 85) (.tmp 87) (w.heap.size + 1) 102 111 il (.agg #[.string ⟨#[]⟩, .int .i64 0, .int .i64 0, .slice none 0 0]) 4 56 (by rfl) Tryd.underlying102 hil hy1 hy2 hy3 (by rfl) (by omega) v2 hs.length (hksC hs) (by rfl) hma.own2 (fun _ => True) (some ⟨wr.heap.size, 0, none⟩) 1 1 [.string ⟨(flName bs Y.st).1.toArray⟩, .int .i64 (flHold bs Y.st).1, .int .i64 (flTok bs Y.st).1, .slice A3 (flQ bs Y.st).q.length c3] (by rfl) (rd_new wr 111 (fun _ => True) 4 1 [.string ⟨(flName bs Y.st).1.toArray⟩, .int .i64 (flHold bs Y.st).1, .int .i64 (flTok bs Y.st).1, .slice A3 (flQ bs Y.st).q.length c3] rfl trivial) HVA.out (by unfold maxLen; omega) (by omega) hza ?_
                     intro v' w4 hown4 hg4 hob4
                     obtain ⟨A4, c4, rfl, hl4⟩ := own_slice_ hown4
                     have hb4 := hma.blk.keep (Keep.of_row hg4) hma.blk.lt (fun e => by have := (own_obj hma.own2 e).1; omega)
                     have f4 := hb4.frozen 1
                     have d4 : w4.cell? ⟨w.heap.size, 1, none⟩ = some v2 := by rw [hb4.cell]; simp [fmL]
                     clear hb4))
              all_goals have hF := RfI.lock hNa hza hka hma hg hT ⟨flHk bs Y.st, .slice A3 (flQ bs Y.st).q.length c3⟩ hQa hQb hown4 hg4
              all_goals have HF := Lib.hid hF
              all_goals clear hF hown4 hg4 hob4 hma hNa hQa hQb hka hza HVA hil hy1 hy2 hy3 c1a hLr r0 r1 r2 r3 c1 f1 f4 d4 hmW hm hIr
              all_goals go_wp2
              all_goals refine ⟨⟨q + 1, by omega, by go_num, hs ++ [⟨flHk bs Y.st, .slice A3 (flQ bs Y.st).q.length c3⟩], ?_, ?_⟩, by simp [intOf]; omega⟩
              all_goals first
                | (rw [HST.out]; exact HF.out)
                | (show _ = _; rw [HST.out, List.map_append, HHS.out]; rfl)
        · obtain rfl : q = N2 := by omega
          rw [← HfL.out] at hIr HHS
          clear HfL hq hl hn2 HY0
          have HN3 := Lib.hid fun W h => (show Calls Tryd.prog 16 #[.pointer (some ⟨g, 0, none⟩), .int .i64 0, .int .i64 16] W fun e w' => e = .returned (.int .i64 (fN3 bs).1) ∧ NRd w' g T bs (fN3 bs).2 ∧ Keep W.heap.size (· = g) W w' from nnum g T bs (fL bs).st 0 16 W h)
          have hn4 : ((fN3 bs).1 : Int) ≤ 16 := nNum_hi bs 0 16 (fL bs).st (by omega)
          go_wp2_with fail
          refine (HN3.out _ hIr.rd).mono ?_
          rintro e W6 ⟨rfl, hN, hk⟩
          have hI6 := hIr.call hg hN hk
          clear hIr hN hk HN3
          have HfS : Hid (fS bs = fsIter bs (fN3 bs).1 ⟨(fN3 bs).2, 0, List.replicate 16 zeroAk⟩) := rfl
          generalize hx0 : (⟨(fN3 bs).2, 0, List.replicate 16 zeroAk⟩ : FS) = S0 at HfS
          have hI6 : RfI w W6 g T bs S0.st (fTok bs).1 (fP bs).ps hs S0.al := by rw [← hx0]; exact hI6
          have HS0 := Lib.hid (show S0.next = 0 by rw [← hx0])
          clear hx0
          generalize (fN3 bs).1 = N4 at hn4 HfS ⊢
          go_wp2_with fail
          go_loopw [13, 14] (fun nx i wr => ∃ q : Nat, q ≤ N4 ∧ i = .int .i64 q ∧ nx = .int .i64 (fsIter bs q S0).next ∧ RfI w wr g T bs (fsIter bs q S0).st (fTok bs).1 (fP bs).ps hs (fsIter bs q S0).al) (fun _ i _ => N4 - (intOf i).toNat)
          case atStart => exact ⟨0, by omega, rfl, by show _ = Value.int .i64 (S0.next : Nat); rw [HS0.out]; rfl, hI6⟩
          case round =>
            obtain ⟨q, hq, rfl, rfl, hIr⟩ := hrel
            clear hI6
            by_cases hl : q < N4
            · have hnx := fsIter_next bs q S0 (by rw [HS0.out]; omega)
              have HST : Hid (fsIter bs (q + 1) S0 = fsStep bs (fsIter bs q S0)) := rfl
              generalize fsIter bs q S0 = X at *
              have HQ := Lib.hid fun W h => (show Calls Tryd.prog 16 #[.pointer (some ⟨g, 0, none⟩), .int .i64 X.next, .int .i64 15] W fun e w' => e = .returned (.int .i64 (fsQ bs X).1) ∧ NRd w' g T bs (fsQ bs X).2 ∧ Keep W.heap.size (· = g) W w' from nnum g T bs X.st X.next 15 W h)
              have HfsI := Lib.hid fun W h => (show Calls Tryd.prog 16 #[.pointer (some ⟨g, 0, none⟩), .int .i64 1, .int .i64 4611686018427387904] W fun e w' => e = .returned (.int .i64 (fsI bs X).1) ∧ NRd w' g T bs (fsI bs X).2 ∧ Keep W.heap.size (· = g) W w' from nnum g T bs (fsQ bs X).2 1 4611686018427387904 W h)
              have HfsR := Lib.hid fun W h => (show Calls Tryd.prog 16 #[.pointer (some ⟨g, 0, none⟩), .int .i64 1, .int .i64 4611686018427387904] W fun e w' => e = .returned (.int .i64 (fsR bs X).1) ∧ NRd w' g T bs (fsR bs X).2 ∧ Keep W.heap.size (· = g) W w' from nnum g T bs (fsI bs X).2 1 4611686018427387904 W h)
              have HfsC := Lib.hid fun W h => (show Calls Tryd.prog 16 #[.pointer (some ⟨g, 0, none⟩), .int .i64 1, .int .i64 11] W fun e w' => e = .returned (.int .i64 (fsC bs X).1) ∧ NRd w' g T bs (fsC bs X).2 ∧ Keep W.heap.size (· = g) W w' from nnum g T bs (fsR bs X).2 1 11 W h)
              have HfsV := Lib.hid fun W h => (show Calls Tryd.prog 28 #[.pointer (some ⟨g, 0, none⟩), .int .i64 8] W fun e w' => e = .returned (.string ⟨(fsV bs X).1.toArray⟩) ∧ NRd w' g T bs (fsV bs X).2 ∧ Keep W.heap.size (· = g) W w' from ntext g T bs (fsC bs X).2 8 W hbs h)
              have HfsN := Lib.hid fun W h => (show Calls Tryd.prog 16 #[.pointer (some ⟨g, 0, none⟩), .int .i64 0, .int .i64 99999999] W fun e w' => e = .returned (.int .i64 (fsN bs X).1) ∧ NRd w' g T bs (fsN bs X).2 ∧ Keep W.heap.size (· = g) W w' from nnum g T bs (fsV bs X).2 0 99999999 W h)
              have hq15 : ((fsQ bs X).1 : Int) ≤ 15 := nNum_hi bs X.next 15 X.st (by omega)
              go_wp2_with fail
              refine (HQ.out _ hIr.rd).mono ?_
              rintro e w1 ⟨rfl, hN, hk⟩
              have hI1 := hIr.call hg hN hk
              clear hIr hN hk HQ
              have hg1 : g < w1.heap.size := by have := hI1.size; omega
              have hT1 : ∀ k, T k → k < w1.heap.size := fun k hk => by have := hT k hk; have := hI1.size; omega
              go_wp2_with fail
              have hL0 : LocI w1 (w1.alloc (.cells #[.bool true, .int .i64 0, .int .i64 0, .int .i64 0, .string ⟨#[]⟩, .int .i64 0] 104)) g T bs (fsQ bs X).2 104 #[.bool true, .int .i64 0, .int .i64 0, .int .i64 0, .string ⟨#[]⟩, .int .i64 0] := ⟨(hI1.alloc _).rd, Blk.new w1 _ _, (Keep.refl _ _ _).alloc (Nat.le_refl _) _, by simp⟩
              refine (HfsI.out _ hL0.rd).mono ?_
              rintro e z0 ⟨rfl, hN, hk⟩
              have hE := hL0.call hg1 hN hk
              clear hL0 hN hk HfsI
              have r := hE.loc.cell 1
              have f := hE.loc.frozen 1
              go_wp2_with fail
              have hL1 : LocI w1 (z0.setCell ⟨w1.heap.size, 1, none⟩ (.int .i64 (fsI bs X).1)) g T bs (fsI bs X).2 104 #[.bool true, .int .i64 (fsI bs X).1, .int .i64 0, .int .i64 0, .string ⟨#[]⟩, .int .i64 0] := hE.set hg1 hT1 1 _
              clear r f hE
              generalize z0.setCell ⟨w1.heap.size, 1, none⟩ (.int .i64 (fsI bs X).1) = y0 at hL1 ⊢
              refine (HfsR.out _ hL1.rd).mono ?_
              rintro e z1 ⟨rfl, hN, hk⟩
              have hE := hL1.call hg1 hN hk
              clear hL1 hN hk HfsR
              have r := hE.loc.cell 2
              have f := hE.loc.frozen 2
              go_wp2_with fail
              have hL2 : LocI w1 (z1.setCell ⟨w1.heap.size, 2, none⟩ (.int .i64 (fsR bs X).1)) g T bs (fsR bs X).2 104 #[.bool true, .int .i64 (fsI bs X).1, .int .i64 (fsR bs X).1, .int .i64 0, .string ⟨#[]⟩, .int .i64 0] := hE.set hg1 hT1 2 _
              clear r f hE
              generalize z1.setCell ⟨w1.heap.size, 2, none⟩ (.int .i64 (fsR bs X).1) = y1 at hL2 ⊢
              refine (HfsC.out _ hL2.rd).mono ?_
              rintro e z2 ⟨rfl, hN, hk⟩
              have hE := hL2.call hg1 hN hk
              clear hL2 hN hk HfsC
              have r := hE.loc.cell 3
              have f := hE.loc.frozen 3
              go_wp2_with fail
              have hL3 : LocI w1 (z2.setCell ⟨w1.heap.size, 3, none⟩ (.int .i64 (fsC bs X).1)) g T bs (fsC bs X).2 104 #[.bool true, .int .i64 (fsI bs X).1, .int .i64 (fsR bs X).1, .int .i64 (fsC bs X).1, .string ⟨#[]⟩, .int .i64 0] := hE.set hg1 hT1 3 _
              clear r f hE
              generalize z2.setCell ⟨w1.heap.size, 3, none⟩ (.int .i64 (fsC bs X).1) = y2 at hL3 ⊢
              refine (HfsV.out _ hL3.rd).mono ?_
              rintro e z3 ⟨rfl, hN, hk⟩
              have hE := hL3.call hg1 hN hk
              clear hL3 hN hk HfsV
              have r := hE.loc.cell 4
              have f := hE.loc.frozen 4
              go_wp2_with fail
              have hL4 : LocI w1 (z3.setCell ⟨w1.heap.size, 4, none⟩ (.string ⟨(fsV bs X).1.toArray⟩)) g T bs (fsV bs X).2 104 #[.bool true, .int .i64 (fsI bs X).1, .int .i64 (fsR bs X).1, .int .i64 (fsC bs X).1, .string ⟨(fsV bs X).1.toArray⟩, .int .i64 0] := hE.set hg1 hT1 4 _
              clear r f hE
              generalize z3.setCell ⟨w1.heap.size, 4, none⟩ (.string ⟨(fsV bs X).1.toArray⟩) = y3 at hL4 ⊢
              refine (HfsN.out _ hL4.rd).mono ?_
              rintro e z4 ⟨rfl, hN, hk⟩
              have hE := hL4.call hg1 hN hk
              clear hL4 hN hk HfsN
              have r := hE.loc.cell 5
              have f := hE.loc.frozen 5
              go_wp2_with fail
              have hL5 : LocI w1 (z4.setCell ⟨w1.heap.size, 5, none⟩ (.int .i64 (fsN bs X).1)) g T bs (fsN bs X).2 104 #[.bool true, .int .i64 (fsI bs X).1, .int .i64 (fsR bs X).1, .int .i64 (fsC bs X).1, .string ⟨(fsV bs X).1.toArray⟩, .int .i64 (fsN bs X).1] := hE.set hg1 hT1 5 _
              clear r f hE
              generalize z4.setCell ⟨w1.heap.size, 5, none⟩ (.int .i64 (fsN bs X).1) = y4 at hL5 ⊢
              obtain ⟨v1, v2, hm⟩ := hI1.mach
              have hmW := hm.keep hL5.keep (Nat.le_refl _) (by omega) (fun k hk _ => by omega)
              have hkW := hI1.keep.and hL5.keep hI1.keep.size (fun _ _ h => h)
              have hsW : w.heap.size + 1 ≤ y4.heap.size := Nat.le_trans hI1.size hL5.keep.size
              have hql : (fsQ bs X).1 < X.al.length := by rw [hm.len]; omega
              obtain ⟨so, hold⟩ : ∃ so, X.al[(fsQ bs X).1]? = some so := ⟨_, List.getElem?_eq_getElem hql⟩
              have m0 : y4.cell? ⟨w.heap.size, 3 + (fsQ bs X).1 * 6, none⟩ = some (.bool so.has) := hmW.ak hold (j := 0) (by omega)
              have u0 := hmW.blk.frozen (3 + (fsQ bs X).1 * 6)
              have s0 : y4.cell? ⟨w1.heap.size, 0, none⟩ = some (.bool true) := hL5.loc.cell 0
              have m1 : y4.cell? ⟨w.heap.size, 3 + (fsQ bs X).1 * 6 + 1, none⟩ = some (.int .i64 so.s.inc) := hmW.ak hold (j := 1) (by omega)
              have u1 := hmW.blk.frozen (3 + (fsQ bs X).1 * 6 + 1)
              have s1 : y4.cell? ⟨w1.heap.size, 1, none⟩ = some (.int .i64 (fsI bs X).1) := hL5.loc.cell 1
              have m2 : y4.cell? ⟨w.heap.size, 3 + (fsQ bs X).1 * 6 + 2, none⟩ = some (.int .i64 so.s.req) := hmW.ak hold (j := 2) (by omega)
              have u2 := hmW.blk.frozen (3 + (fsQ bs X).1 * 6 + 2)
              have s2 : y4.cell? ⟨w1.heap.size, 2, none⟩ = some (.int .i64 (fsR bs X).1) := hL5.loc.cell 2
              have m3 : y4.cell? ⟨w.heap.size, 3 + (fsQ bs X).1 * 6 + 3, none⟩ = some (.int .i64 so.s.code) := hmW.ak hold (j := 3) (by omega)
              have u3 := hmW.blk.frozen (3 + (fsQ bs X).1 * 6 + 3)
              have s3 : y4.cell? ⟨w1.heap.size, 3, none⟩ = some (.int .i64 (fsC bs X).1) := hL5.loc.cell 3
              have m4 : y4.cell? ⟨w.heap.size, 3 + (fsQ bs X).1 * 6 + 4, none⟩ = some (str so.s.val) := hmW.ak hold (j := 4) (by omega)
              have u4 := hmW.blk.frozen (3 + (fsQ bs X).1 * 6 + 4)
              have s4 : y4.cell? ⟨w1.heap.size, 4, none⟩ = some (.string ⟨(fsV bs X).1.toArray⟩) := hL5.loc.cell 4
              have m5 : y4.cell? ⟨w.heap.size, 3 + (fsQ bs X).1 * 6 + 5, none⟩ = some (.int .i64 so.s.n) := hmW.ak hold (j := 5) (by omega)
              have u5 := hmW.blk.frozen (3 + (fsQ bs X).1 * 6 + 5)
              have s5 : y4.cell? ⟨w1.heap.size, 5, none⟩ = some (.int .i64 (fsN bs X).1) := hL5.loc.cell 5
              clear hold hql
              have hq16 : (fsQ bs X).1 < 16 := by omega
              go_region
              go_wp2
              refine ⟨⟨q + 1, by omega, by go_num, ?_, ?_⟩, by simp [intOf]; omega⟩
              · rw [HST.out]; exact congrArg (Value.int .i64) (by push_cast; rfl)
              · rw [HST.out]
                exact RfI.fin hL5.rd hsW hkW hmW hg hT hq16 (fsSes bs X)
            · obtain rfl : q = N4 := by omega
              rw [← HfS.out] at hIr
              clear HfS hl hq hn4 HS0
              have HI := Lib.hid hIr
              clear hIr
              go_wp2
              go_ret
              exact ⟨w.heap.size, Nat.le_refl _, rfl, hs, HI.out, HHS.out⟩
end Go.Proofs.YtjdageiphebfpaaDoor
