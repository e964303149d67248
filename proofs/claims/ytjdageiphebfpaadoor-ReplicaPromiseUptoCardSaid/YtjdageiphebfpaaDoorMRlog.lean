/- The replica's reader: log. -/
import Derived.Test.YtjdageiphebfpaaDoorMRd
import Derived.Test.YtjdageiphebfpaaDoorMWords
import Derived.Deep.DeepCutAuto
import Derived.Deep.RegionLaw
namespace Go.Proofs.YtjdageiphebfpaaDoor
open Go.RowKit
open Pl Mem

def cmdCells (c : Cmd) : List Value := [.int .i64 c.client, .int .i64 c.inc, .int .i64 c.req, .int .i64 c.op, str c.key, str c.val, str c.old]
def cmdsCells (l : List Cmd) : List Value := l.flatMap cmdCells

/-- What a log's reader hands back: its words, and where they lie. -/
def StateIs (w : World) (base : Nat) (v : Value) (ep ba : Int) (sn : Bytes) (tl : List Cmd) : Prop :=
  ∃ vs vt, v = .agg #[.int .i64 ep, .int .i64 ba, vs, vt] ∧ w.ownsRow base 5 1 vs sn.length (u8s sn) ∧ w.ownsRow base 57 7 vt tl.length (cmdsCells tl)

theorem own_slice {w : World} {base : Nat} {e : TypeId} {size n : Nat} {v : Value} {xs : List Value} (h : w.ownsRow base e size v n xs) : ∃ A c, v = .slice A n c ∧ n ≤ c := by
  rcases h.2 with ⟨rfl, rfl⟩ | ⟨g, cap, cur, rfl, _, _, hle, _⟩
  · exact ⟨none, 0, rfl, Nat.le_refl _⟩
  · exact ⟨_, cap, rfl, hle⟩
theorem ownsRow_keep_ {w w' : World} {B base : Nat} {S : Nat → Prop} {e : TypeId} {size : Nat} {v : Value} {n : Nat} {xs : List Value} (h : w.ownsRow base e size v n xs) (hk : Keep B S w w') (hB : w.heap.size ≤ B) (hS : ∀ k cur, v.ownBlock = some k → w.heap[k]? = some (.cells cur e (0, 0)) → ¬ S k) : w'.ownsRow base e size v n xs := by
  refine ⟨h.1, ?_⟩
  rcases h.2 with hn | ⟨g, cap, cur, rfl, hb, hgg, rest⟩
  · exact .inl hn
  · refine .inr ⟨g, cap, cur, rfl, hb, ?_, rest⟩
    rw [hk.block g (Nat.lt_of_lt_of_le (Array.getElem?_eq_some_iff.1 hgg).1 hB) (hS g cur rfl hgg)]
    exact hgg
/-- What is kept while the log is read. -/
structure GInv (w0 wc : World) (g : Nat) (T : Nat → Prop) (bs : Bytes) (rs : Int) (st : St) (gs : Nat) (ep ba : Int) (sn : Bytes) (vs : Value) (tl : List Cmd) (vt : Value) : Prop where
  rd : RRd wc g T bs rs st
  rb : Mem.Blk wc w0.heap.size 32 #[.int .i64 0, .int .i64 0, .slice none 0 0, .slice none 0 0]
  sb : Mem.Blk wc gs 32 #[.int .i64 ep, .int .i64 ba, vs, vt]
  so : wc.ownsRow w0.heap.size 5 1 vs sn.length (u8s sn)
  tx : wc.ownsRow w0.heap.size 57 7 vt tl.length (cmdsCells tl)
  kp : Keep w0.heap.size (· = g) w0 wc
  hi : w0.heap.size < gs
  lo : g < w0.heap.size
  tt : ∀ k, T k → k < w0.heap.size

theorem GInv.keep {w0 w w' : World} {g : Nat} {T : Nat → Prop} {bs : Bytes} {rs : Int} {st : St} {sb : Nat} {ep ba : Int} {sn : Bytes} {vs vt : Value} {tl : List Cmd} (h : GInv w0 w g T bs rs st sb ep ba sn vs tl vt) (hk : Keep w.heap.size (· = g) w w') {st' : St} (hr : RRd w' g T bs rs st') : GInv w0 w' g T bs rs st' sb ep ba sn vs tl vt := by
  have hs := h.kp.size
  have h1 := h.hi
  have h2 := h.lo
  refine ⟨hr, h.rb.keep hk h.rb.lt (by omega), h.sb.keep hk h.sb.lt (by omega), ownsRow_keep h.so hk (Nat.le_refl _) (by omega), ownsRow_keep h.tx hk (Nat.le_refl _) (by omega), h.kp.and hk hs (fun _ _ h => h), h1, h2, h.tt⟩

theorem Keep.far {B : Nat} {S : Nat → Prop} {w w' : World} (h : Keep w.heap.size (· = B) w w') (hB : B ≤ w.heap.size) : Keep B S w w' :=
  ⟨h.os, h.tape, h.output, h.size, fun k hk _ => h.block k (by omega) (by omega)⟩
/-- A state is laid in its block. -/
def laidState (w : World) (r : Nat) (ep ba : Int) (vs vt : Value) : World :=
  (((w.setCell ⟨r, 0, none⟩ (.int .i64 ep)).setCell ⟨r, 1, none⟩ (.int .i64 ba)).setCell ⟨r, 2, none⟩ vs).setCell ⟨r, 3, none⟩ vt
theorem laidState_keep (w : World) (r : Nat) (ep ba : Int) (vs vt : Value) : Keep w.heap.size (· = r) w (laidState w r ep ba vs vt) :=
  ((((Keep.refl w.heap.size (· = r) w).own 0 _).own 1 _).own 2 _).own 3 _
theorem laidState_blk {w : World} {r : Nat} {t : TypeId} {x0 x1 x2 x3 : Value} (h : Mem.Blk w r t #[x0, x1, x2, x3]) (ep ba : Int) (vs vt : Value) : Mem.Blk (laidState w r ep ba vs vt) r t #[.int .i64 ep, .int .i64 ba, vs, vt] := by
  have h4 := (((h.set_ 0 (.int .i64 ep)).set_ 1 (.int .i64 ba)).set_ 2 vs).set_ 3 vt
  simpa [laidState] using h4
/-- The log is handed back. -/
theorem GInv.fin {w0 w : World} {g : Nat} {T T' : Nat → Prop} {bs : Bytes} {rs : Int} {st : St} {sb : Nat} {ep ba : Int} {sn : Bytes} {vs vt : Value} {tl : List Cmd} (h : GInv w0 w g T' bs rs st sb ep ba sn vs tl vt) (hT : ¬ T g) (hTT : ∀ k, T' k → T k) :
    StateIs (laidState w w0.heap.size ep ba vs vt) w0.heap.size (.agg #[.int .i64 ep, .int .i64 ba, vs, vt]) ep ba sn tl ∧ RRd (laidState w w0.heap.size ep ba vs vt) g T bs rs st ∧ Keep w0.heap.size (· = g) w0 (laidState w w0.heap.size ep ba vs vt) := by
  have hk := laidState_keep w w0.heap.size ep ba vs vt
  have h2 := h.lo
  refine ⟨⟨vs, vt, rfl, ownsRow_keep_ h.so hk (Nat.le_refl _) ?_, ownsRow_keep_ h.tx hk (Nat.le_refl _) ?_⟩, ?_, h.kp.trans (Keep.far hk h.kp.size)⟩
  · intro k cur _ hc e
    subst e
    have := h.rb
    unfold Mem.Blk at this
    rw [hc] at this
    injection this with this
    injection this with _ this
    exact absurd this (by decide)
  · intro k cur _ hc e
    subst e
    have := h.rb
    unfold Mem.Blk at this
    rw [hc] at this
    injection this with this
    injection this with _ this
    exact absurd this (by decide)
  · refine (h.rd.keep hk (Nat.le_refl _) (by omega) (fun k hk hTk e => ?_) (fun fb cs hb e => ?_)).more hT (fun k _ hk => hTT k hk)
    · have := h.tt k hTk; omega
    · subst e
      exact hb.ne_ h.rb (by decide) rfl

theorem rd_new_cmd (w : World) (c : Cmd) : Rd (w.alloc (.cells #[.int .i64 c.client, .int .i64 c.inc, .int .i64 c.req, .int .i64 c.op, str c.key, str c.val, str c.old] 57)) (fun _ => True) 7 (some ⟨w.heap.size, 0, none⟩) 1 (cmdCells c) := by
  refine ⟨rfl, fun _ => ⟨_, rfl, trivial, by simp, fun j u hu => ?_⟩⟩
  have h := Blk.new w 57 #[.int .i64 c.client, .int .i64 c.inc, .int .i64 c.req, .int .i64 c.op, str c.key, str c.val, str c.old]
  have hadd : (⟨w.heap.size, 0, none⟩ : Addr).add j = ⟨w.heap.size, j, none⟩ := by unfold Addr.add; split <;> simp_all
  rw [hadd, h.cell j, List.getElem?_toArray]
  exact hu
theorem one_cmd (c : Cmd) : ∀ u ∈ cmdCells c, u.oneCell' = true := by
  intro u hu
  simp only [cmdCells, List.mem_cons, List.not_mem_nil, or_false] at hu
  rcases hu with rfl | rfl | rfl | rfl | rfl | rfl | rfl <;> rfl
theorem cmdsCells_snoc (l : List Cmd) (c : Cmd) : cmdsCells l ++ cmdCells c = cmdsCells (l ++ [c]) := by simp [cmdsCells]

theorem own_blk {w : World} {base : Nat} {e : TypeId} {size n : Nat} {v : Value} {xs : List Value} (h : w.ownsRow base e size v n xs) (k : Nat) (hk : v.ownBlock = some k) : base ≤ k ∧ ∃ cur, w.heap[k]? = some (.cells cur e (0, 0)) := by
  rcases h.2 with ⟨rfl, _⟩ | ⟨g, cap, cur, rfl, hb, hgg, _⟩
  · cases hk
  · simp [Value.ownBlock] at hk
    subst hk
    exact ⟨hb, cur, hgg⟩
theorem two_types {w : World} {k : Nat} {a b : Array Value} {s t : TypeId} {f f' : Nat × Nat} (h : w.heap[k]? = some (.cells a s f)) (h' : w.heap[k]? = some (.cells b t f')) : s = t := by
  rw [h] at h'
  injection h' with h'
  injection h' with _ h'
/-- A command is appended, and the new slice laid in its field. -/
theorem GInv.app {w0 w w3 : World} {g : Nat} {T : Nat → Prop} {bs : Bytes} {rs : Int} {st : St} {sb : Nat} {ep ba : Int} {sn : Bytes} {vs vt v' : Value} {tl : List Cmd} {c : Cmd} (h : GInv w0 w g T bs rs st sb ep ba sn vs tl vt) (o : Obj)
    (hown : w3.ownsRow w0.heap.size 57 7 v' (tl.length + 1) (cmdsCells tl ++ cmdCells c)) (hg : (w.alloc o).grownBy w3 vt.ownBlock) :
    GInv w0 (w3.setCell ⟨sb, 3, none⟩ v') g T bs rs st sb ep ba sn vs (tl ++ [c]) v' ∧ w3.cell? ⟨sb, 3, none⟩ = some vt ∧ w3.frozen? ⟨sb, 3, none⟩ = false := by
  have hO := own_blk h.tx
  have hk1 := Keep.of_row hg
  have hk2 : Keep w.heap.size (fun k => vt.ownBlock = some k) w w3 := ((Keep.refl w.heap.size (fun k => vt.ownBlock = some k) w).alloc (Nat.le_refl _) o).and hk1 (by simp) (fun _ _ h => h)
  have hlo := h.lo
  have hhi := h.hi
  have hsz := h.kp.size
  have hsb : ¬ vt.ownBlock = some sb := fun e => by
    obtain ⟨_, cur, hc⟩ := hO sb e
    exact absurd (two_types hc h.sb) (by decide)
  have hrb : ¬ vt.ownBlock = some w0.heap.size := fun e => by
    obtain ⟨_, cur, hc⟩ := hO _ e
    exact absurd (two_types hc h.rb) (by decide)
  have hS3 := h.sb.keep hk2 h.sb.lt hsb
  have hs3 : Keep w3.heap.size (· = sb) w3 (w3.setCell ⟨sb, 3, none⟩ v') := (Keep.refl w3.heap.size (· = sb) w3).own 3 v'
  refine ⟨⟨?_, ?_, ?_, ?_, ?_, ?_, hhi, hlo, h.tt⟩, hS3.cell 3, hS3.frozen 3⟩
  · refine (h.rd.keep hk2 (Nat.le_refl _) (fun e => ?_) (fun k _ hT e => ?_) (fun fb cs hb e => ?_)).keep hs3 (Nat.le_refl _) (by omega) (fun k _ hT e => ?_) (fun fb cs hb e => ?_)
    · have := (hO _ e).1; omega
    · have := (hO _ e).1; have := h.tt k hT; omega
    · obtain ⟨_, cur, hc⟩ := hO fb e
      exact absurd (two_types hc hb) (by decide)
    · have := h.tt k hT; omega
    · subst e
      exact absurd (two_types hb hS3) (by decide)
  · exact (h.rb.keep hk2 h.rb.lt hrb).far (by simp; omega) v'
  · exact hS3.set_ 3 v'
  · refine ownsRow_keep_ (ownsRow_keep_ h.so hk2 (Nat.le_refl _) (fun k cur _ hc e => ?_)) hs3 (Nat.le_refl _) (fun k cur _ hc e => ?_)
    · obtain ⟨_, cur', hc'⟩ := hO k e
      exact absurd (two_types hc hc') (by decide)
    · subst e
      exact absurd (two_types hc hS3) (by decide)
  · have := ownsRow_keep_ hown hs3 (Nat.le_refl _) (fun k cur _ hc e => by
      subst e
      exact absurd (two_types hc hS3) (by decide))
    rw [cmdsCells_snoc] at this
    simpa using this
  · exact (h.kp.and hk2 hsz (fun k hk e => by have := (hO _ e).1; omega)).new (by omega) 3 v'

theorem Blk.four {w : World} {g : Nat} {t : TypeId} {a b c d : Value} (h : Mem.Blk w g t #[a, b, c, d]) :
    (w.cell? ⟨g, 0, none⟩ = some a ∧ w.cell? ⟨g, 1, none⟩ = some b ∧ w.cell? ⟨g, 2, none⟩ = some c ∧ w.cell? ⟨g, 3, none⟩ = some d) ∧
    w.frozen? ⟨g, 0, none⟩ = false ∧ w.frozen? ⟨g, 1, none⟩ = false ∧ w.frozen? ⟨g, 2, none⟩ = false ∧ w.frozen? ⟨g, 3, none⟩ = false :=
  ⟨⟨h.cell 0, h.cell 1, h.cell 2, h.cell 3⟩, h.frozen 0, h.frozen 1, h.frozen 2, h.frozen 3⟩
theorem u8_info : (Tryd.prog.info? 5).map (fun i => (i.zero, i.size, i.bytes)) = some (some (.int .u8 0), 1, 1) := by kernel_rfl
theorem cmd_info : (Tryd.prog.info? 57).map (fun i => (i.zero, i.size, i.bytes)) = some (some (.agg #[.int .i64 0, .int .i64 0, .int .i64 0, .int .i64 0, .string ⟨#[]⟩, .string ⟨#[]⟩, .string ⟨#[]⟩]), 7, 80) := by kernel_rfl

set_option maxRecDepth 100000 in
set_option maxHeartbeats 2000000 in
theorem rlog (g : Nat) (T : Nat → Prop) (bs : Bytes) (rs : Int) (s : St) (w : World) (hg64 : 12 ≤ g) (hbs : bs.length ≤ 1099511627776) (hT : RRd w g T bs rs s) (e : Env w)
    (hnib : ∀ i : Nat, i < 16 → w.cell? ⟨0, i, none⟩ = some (.int .u32 (nib i).toNat)) :
    Calls Tryd.prog 14 #[.pointer (some ⟨g, 0, none⟩)] w fun e w' => ∃ v,
      e = .returned v ∧ StateIs w' w.heap.size v (gEp bs s).1 (gBase bs s).1 (gSnap bs s).1 (gX bs s).tail ∧ RRd w' g T bs rs (gOut bs s) ∧ Keep w.heap.size (· = g) w w' := by
  have hTT : Hid (¬ T g) := hT.1
  have h := hT.more (T' := fun k => T k ∧ k < w.heap.size) (fun e => hT.1 e.1) (fun k hk hT => ⟨hT, hk⟩)
  have hlenS : (gSnap bs s).1.length ≤ bs.length := rBytes_len bs _ (rCount_p bs _ (rCount_p bs s h.2.1))
  obtain ⟨i1, hi1, hz1, hz2, hz3⟩ := info_parts u8_info
  obtain ⟨i2, hi2, hy1, hy2, hy3⟩ := info_parts cmd_info
  obtain ⟨T', hT'⟩ : ∃ T' : Nat → Prop, T' = fun k => T k ∧ k < w.heap.size := ⟨_, rfl⟩
  rw [← hT'] at h
  have hTT' : Hid (∀ k, T' k → T k ∧ k < w.heap.size) := fun k hk => by rw [hT'] at hk; exact hk
  clear hT hT'
  have HC := Lib.hid (fun s part W h => rcount g T' bs rs s part W h)
  have HB := Lib.hid (fun s part W h => rbytes g T' bs rs s part W h)
  have hg := h.lt
  have hk0 : Keep w.heap.size (· = g) w (w.alloc (.cells #[.int .i64 0, .int .i64 0, .slice none 0 0, .slice none 0 0] 32)) := (Keep.refl _ _ _).alloc (Nat.le_refl _) _
  have hR0 := Blk.new w 32 #[.int .i64 0, .int .i64 0, .slice none 0 0, .slice none 0 0]
  have h0 := h.keep (S := fun _ => False) ((Keep.refl w.heap.size _ w).alloc (Nat.le_refl _) (.cells #[.int .i64 0, .int .i64 0, .slice none 0 0, .slice none 0 0] 32)) (Nat.le_refl _) (fun h => h) (fun _ _ _ h => h) (fun _ _ _ h => h)
  have hs0 : (w.alloc (.cells #[.int .i64 0, .int .i64 0, .slice none 0 0, .slice none 0 0] 32)).heap.size = w.heap.size + 1 := by simp
  go_enter Tryd.func14, Tryd.ntmps14
  go_wp2_with fail
  generalize w.alloc (.cells #[.int .i64 0, .int .i64 0, .slice none 0 0, .slice none 0 0] 32) = w0 at *
  refine (HC.out _ _ _ h0).mono ?_
  rintro e1 w1 ⟨rfl, hM1, hk1⟩
  change RRd w1 g T' bs rs (gEp bs s).2 at hM1
  change Keep w0.heap.size _ w0 w1 at hk1
  have hR1 := hR0.keep hk1 hR0.lt (by omega)
  have hk1' := hk0.and hk1 hk0.size (fun _ _ h => h)
  clear h0 hR0 hk0 hk1
  go_wp2_with fail
  refine (HC.out _ _ _ hM1).mono ?_
  rintro e2 w2 ⟨rfl, hM2, hk2⟩
  change RRd w2 g T' bs rs (gBase bs s).2 at hM2
  have hR2 := hR1.keep hk2 hR1.lt (by omega)
  have hk2' := hk1'.and hk2 hk1'.size (fun _ _ h => h)
  clear hR1 hM1 hk1' hk2
  go_wp2_with fail
  have hSA := Blk.new w2 32 #[.int .i64 (rCount bs s).1, .int .i64 (rCount bs (gEp bs s).2).1, .slice none 0 0, .slice none 0 0]
  have hs2 := hk2'.size
  have hr2lt := hR2.lt
  have hRA := hR2.alloc (.cells #[.int .i64 (rCount bs s).1, .int .i64 (rCount bs (gEp bs s).2).1, .slice none 0 0, .slice none 0 0] 32)
  have hMA := hM2.keep (S := fun _ => False) ((Keep.refl w2.heap.size _ w2).alloc (Nat.le_refl _) (.cells #[.int .i64 (rCount bs s).1, .int .i64 (rCount bs (gEp bs s).2).1, .slice none 0 0, .slice none 0 0] 32)) (Nat.le_refl _) (fun h => h) (fun _ _ _ h => h) (fun _ _ _ h => h)
  have hkA := hk2'.alloc hs2 (.cells #[.int .i64 (rCount bs s).1, .int .i64 (rCount bs (gEp bs s).2).1, .slice none 0 0, .slice none 0 0] 32)
  have hsA : (w2.alloc (.cells #[.int .i64 (rCount bs s).1, .int .i64 (rCount bs (gEp bs s).2).1, .slice none 0 0, .slice none 0 0] 32)).heap.size = w2.heap.size + 1 := by simp
  generalize w2.alloc (.cells #[.int .i64 (rCount bs s).1, .int .i64 (rCount bs (gEp bs s).2).1, .slice none 0 0, .slice none 0 0] 32) = wA at *
  clear hM2 hR2 hk2'
  refine (HB.out _ _ _ hMA).mono ?_
  rintro e3 w3 ⟨A', c', rfl, hle3, hrd3, hM3, hk3⟩
  change Rd w3 _ 1 A' (gSnap bs s).1.length (u8s (gSnap bs s).1) at hrd3
  change (gSnap bs s).1.length ≤ c' at hle3
  change RRd w3 g T' bs rs (gSnap bs s).2 at hM3
  have hk3s := hk3.size
  have hS3 := hSA.keep hk3 hSA.lt (by omega)
  have hR3 := hRA.keep hk3 hRA.lt (by omega)
  have hk3' := hkA.and hk3 hkA.size (fun _ _ h => h)
  have HR3 := Lib.hid hrd3
  clear hSA hRA hMA hkA hk3 hrd3
  have hnil : w3.ownsRow w.heap.size 5 1 (.slice none 0 0) 0 [] := ⟨rfl, Or.inl ⟨rfl, rfl⟩⟩
  go_upto_region 3 with (
    at_builtin
    refine wpList_append_rd (by rfl) (.const (.slice none 0 0)) (.tmp 13) w.heap.size 27 5 i1 (.int .u8 0) 1 1 (by rfl) Tryd.underlying27 hi1 hz1 hz2 hz3 (by rfl) (by omega) (.slice none 0 0) 0 [] (by rfl) hnil _ A' (gSnap bs s).1.length c' (u8s (gSnap bs s).1) (by rfl) HR3.out (one_u8s _) (by unfold maxLen; omega) (by omega) (by omega) ?_
    intro vs w4 hown4 hg4 hob4
    have hkg4 : Keep w3.heap.size (fun _ => False) w3 w4 := (Keep.of_row hg4).mono (Nat.le_refl _) (fun k _ e => by simp [Value.ownBlock] at e)
    rw [Nat.zero_add, List.nil_append] at hown4
    obtain ⟨Av, cv, rfl, hlv⟩ := own_slice hown4
    have hS4 := hS3.keep hkg4 hS3.lt (fun h => h)
    have hR4 := hR3.keep hkg4 hR3.lt (fun h => h)
    have hM4 := hM3.keep hkg4 (Nat.le_refl _) (fun h => h) (fun _ _ _ h => h) (fun _ _ _ h => h)
    have hk4' := hk3'.and hkg4 hk3'.size (fun _ _ h => h.elim)
    have S42 := hS4.cell 2
    have f42 := hS4.frozen 2
    clear hkg4 hg4 hob4)
  have hI : GInv w (w4.setCell ⟨w2.heap.size, 2, none⟩ (.slice Av (gSnap bs s).1.length cv)) g T' bs rs (gSnap bs s).2 w2.heap.size (gEp bs s).1 (gBase bs s).1 (gSnap bs s).1 (.slice Av (gSnap bs s).1.length cv) [] (.slice none 0 0) := by
    have hs4 : Keep w4.heap.size (· = w2.heap.size) w4 (w4.setCell ⟨w2.heap.size, 2, none⟩ (.slice Av (gSnap bs s).1.length cv)) := (Keep.refl _ _ _).own 2 _
    refine ⟨hM4.keep hs4 (Nat.le_refl _) (by omega) (fun k hk hT e => ?_) (fun fb cs hb e => ?_), hR4.far (by simp; omega) _, hS4.set_ 2 _, ownsRow_keep_ hown4 hs4 (Nat.le_refl _) (fun k cur _ hc e => ?_), ⟨rfl, Or.inl ⟨rfl, rfl⟩⟩, hk4'.new hs2 2 _, hr2lt, hg, fun k hk => (hTT'.out k hk).2⟩
    · have := (hTT'.out k hT).2; omega
    · subst e
      exact absurd (two_types hb hS4) (by decide)
    · subst e
      exact absurd (two_types hc hS4) (by decide)
  generalize w4.setCell ⟨w2.heap.size, 2, none⟩ (.slice Av (gSnap bs s).1.length cv) = w5 at hI ⊢
  clear hS4 hR4 hM4 hk4' S42 f42 hown4 HR3 hS3 hR3 hM3 hk3' hnil
  go_cut [20] (fun v wc => wc = w5 ∧ v = .bool (!(gSnap bs s).2.bad))
  case first =>
    obtain ⟨h1, h2, h3, A0, c0, ev, hcap, hb, hf, hr⟩ := hI.rd
    have c3 : w5.cell? ⟨g, 3, none⟩ = some ev := hb.cell 3
    have HI := Lib.hid hI
    clear hI
    rcases hf with ⟨hbad, rfl⟩ | ⟨hbad, fb, pt, rfl, hfb⟩
    · have HBD := Lib.hid hbad
      clear hbad
      go_wp2
      go_meet
      case rel => exact ⟨rfl, by rw [HBD.out]; rfl⟩
    · have HBD := Lib.hid hbad
      clear hbad
      go_wp2
      go_meet
      case rel => exact ⟨rfl, by rw [HBD.out]; rfl⟩
  case rest =>
    obtain ⟨rfl, rfl⟩ := hcut
    go_upto_if 20 with (fail)
    go_cut [] (fun wc => GInv w wc g T' bs rs (gSt4 bs s) w2.heap.size (gEp bs s).1 (gBase bs s).1 (gSnap bs s).1 (.slice Av (gSnap bs s).1.length cv) [] (.slice none 0 0))
    case first =>
      have HI := Lib.hid hI
      cases hb : (gSnap bs s).2.bad with
      | true =>
        have HBD := Lib.hid hb
        clear hI hb
        go_wp2
        go_meet
        case rel => 
          unfold gSt4
          rw [HBD.out]
          exact HI.out
      | false =>
        have HBD := Lib.hid hb
        have hs5 := hI.kp.size
        have s2 : wc.cell? ⟨w2.heap.size, 2, none⟩ = some (.slice Av (gSnap bs s).1.length cv) := hI.sb.cell 2
        have HRS := Lib.hid (crestore Av cv (gSnap bs s).1 wc ((Rd.of_own hI.so).more (fun _ _ _ => trivial)) (by omega) hlv (fun i hi => (hI.kp.cell (p := ⟨0, i, none⟩) (by have := e.size; simp; omega) (by simp; omega)).trans (hnib i hi)))
        have HFL := Lib.hid (fun W part h => rfail g T' bs rs (gSnap bs s).2 part W h)
        clear hb hI
        cases hro : resOk (gSnap bs s).1 with
        | true =>
          rw [hro, if_pos rfl] at HRS
          have HRO := Lib.hid hro
          clear hro
          go_wp2_with fail
          refine HRS.out.mono ?_
          rintro er w6 ⟨m, rfl, _, _, hb6⟩
          have hI6 := HI.out.keep (Keep.of_below hb6) (HI.out.rd.keep (S := fun _ => False) (Keep.of_below hb6) (Nat.le_refl _) (fun h => h) (fun _ _ _ h => h) (fun _ _ _ h => h))
          have HI6 := Lib.hid hI6
          clear hI6 s2 hb6
          go_wp2
          go_meet
          case rel =>
            unfold gSt4
            rw [HBD.out, HRO.out]
            have hst : (gSnap bs s).2 = ⟨(gSnap bs s).2.p, false⟩ := by rw [← HBD.out]
            have := HI6.out
            rw [hst] at this
            simpa using this
        | false =>
          rw [hro, if_neg (by simp)] at HRS
          have HRO := Lib.hid hro
          clear hro
          go_wp2_with fail
          refine HRS.out.mono ?_
          rintro er w6 ⟨m, rfl, _, _, hb6⟩
          have hI6 := HI.out.keep (Keep.of_below hb6) (HI.out.rd.keep (S := fun _ => False) (Keep.of_below hb6) (Nat.le_refl _) (fun h => h) (fun _ _ _ h => h) (fun _ _ _ h => h))
          have HI6 := Lib.hid hI6
          clear hI6 s2 hb6
          go_wp2_with fail
          refine (HFL.out _ _ HI6.out.rd).mono ?_
          rintro ef w7 ⟨rfl, hM7, hk7⟩
          have HI7 := Lib.hid (HI6.out.keep hk7 hM7)
          clear hM7 hk7
          go_wp2
          go_meet
          case rel =>
            unfold gSt4
            rw [HBD.out, HRO.out]
            simpa using HI7.out
    case rest =>
      have hI6 := hcut
      clear hcut hI
      go_wp2_with fail
      obtain ⟨N, hN⟩ : ∃ N, (gN bs s).1 = N := ⟨_, rfl⟩
      have HN := Lib.hid hN
      refine (HC.out _ _ _ hI6.rd).mono ?_
      rintro e7 w7 ⟨he7, hM7, hk7⟩
      change e7 = .returned (.int .i64 (gN bs s).1) at he7
      rw [hN] at he7
      subst he7
      have hN62 : N ≤ 4611686018427387904 := by rw [← hN]; exact rCount_le _ _
      clear hN
      change RRd w7 g T' bs rs (gN bs s).2 at hM7
      have hI7 := hI6.keep hk7 hM7
      clear hI6 hM7 hk7
      go_upto_if 34 with (fail)
      go_cut [] (fun wc => GInv w wc g T' bs rs (gSt6 bs s) w2.heap.size (gEp bs s).1 (gBase bs s).1 (gSnap bs s).1 (.slice Av (gSnap bs s).1.length cv) [] (.slice none 0 0))
      case first =>
        have HI := Lib.hid hI7
        have HFL := Lib.hid (fun W part h => rfail g T' bs rs (gN bs s).2 part W h)
        clear hI7
        by_cases h16 : 16 < N
        · have h16' : (16 : Int) < N := by omega
          have H16 := Lib.hid h16
          clear h16
          go_wp2_with fail
          refine (HFL.out _ _ HI.out.rd).mono ?_
          rintro ef w8 ⟨rfl, hM8, hk8⟩
          have HI8 := Lib.hid (HI.out.keep hk8 hM8)
          clear hM8 hk8
          go_wp2
          go_meet
          case rel =>
            unfold gSt6
            rw [HN.out, if_pos H16.out]
            exact HI8.out
        · have h16' : (N : Int) ≤ 16 := by omega
          have H16 := Lib.hid h16
          clear h16
          go_wp2
          go_meet
          case rel =>
            unfold gSt6
            rw [HN.out, if_neg H16.out]
            exact HI.out
      case rest =>
        have hI9 := hcut
        clear hcut hI7
        have h0N : gX bs s = gIter bs N ⟨gSt6 bs s, []⟩ := by unfold gX; rw [HN.out]
        have hbN : 16 < N → (gSt6 bs s).bad = true := fun h => by unfold gSt6; rw [HN.out, if_pos h]
        have H0N := Lib.hid h0N
        have HbN := Lib.hid hbN
        clear h0N hbN
        go_wp2_with fail
        obtain ⟨wo, rfl⟩ : ∃ wo : World, wo = wc := ⟨_, rfl⟩
        go_loopw [38] (fun i wr => ∃ q : Nat, q ≤ N ∧ i = .int .i64 q ∧ ∃ X vt, GInv w wr g T' bs rs X.st w2.heap.size (gEp bs s).1 (gBase bs s).1 (gSnap bs s).1 (.slice Av (gSnap bs s).1.length cv) X.tail vt ∧ X.tail.length ≤ q ∧ (16 < N → X.st.bad = true) ∧ gIter bs (N - q) X = gX bs s) (fun i _ => N - (intOf i).toNat)
        case atStart => exact ⟨0, by omega, rfl, ⟨gSt6 bs s, []⟩, _, hI9, Nat.le_refl _, HbN.out, H0N.out.symm⟩
        case round =>
          obtain ⟨q, hq, rfl, X, vt, hIr, hqt, hqb, hgX⟩ := hrel
          clear hI9
          obtain ⟨At, ct, rfl, hlt⟩ := own_slice hIr.tx
          obtain ⟨h1, h2, h3, A0, c0, ev, hcap, hb, hf, hr⟩ := hIr.rd
          have c3 : wr.cell? ⟨g, 3, none⟩ = some ev := hb.cell 3
          have HG := Lib.hid hgX
          have HQ := Lib.hid hqb
          clear hgX hqb
          by_cases hqN : q < N
          · rcases hf with ⟨hbad, rfl⟩ | ⟨hbad, fb, pt, rfl, hfb⟩
            · have hN16 : N ≤ 16 := by
                rcases Nat.lt_or_ge 16 N with h | h
                · have := HQ.out h; rw [hbad] at this; cases this
                · exact h
              have HBD := Lib.hid hbad
              clear hbad
              have HI := Lib.hid hIr
              have t3 : wr.cell? ⟨w2.heap.size, 3, none⟩ = some (.slice At X.tail.length ct) := hIr.sb.cell 3
              have hlR : (rBytes bs X.st).1.length ≤ bs.length := rBytes_len bs X.st h2
              have HB' := Lib.hid (HB.out X.st)
              have HCM := Lib.hid (fun A n c T W h e hr hn hc => rcommand g T' bs rs (rBytes bs X.st).2 A n c (rBytes bs X.st).1 T W h e hr hn hc)
              unfold cmdV at HCM
              have HE := Lib.hid e
              have hs2' := hIr.kp.size
              clear hb hr hIr hcap
              go_wp2_with fail
              go_region_law
                (first
                  | (go_simp; go_at_call 23; (with_reducible refine (HB'.out _ _ ?_).mono ?_); exact HI.out.rd; rintro e5 v1 ⟨A5, c5, rfl, hl5, hrd5, hM5, hk5⟩
                     have hI5 := HI.out.keep (Keep.and (Keep.refl _ _ _).drew hk5 (Nat.le_refl _) (fun _ _ h => h)) hM5
                     have hc5 : v1.cell? ⟨w2.heap.size, 3, none⟩ = some (.slice At X.tail.length ct) := hI5.sb.cell 3)
                  | (go_simp; go_at_call 25; (with_reducible refine (HCM.out _ _ _ T' _ ?_ ?_ ?_ ?_ ?_).mono ?_); exact hI5.rd; exact HE.out.keep hI5.kp HE.out.size (fun k hk e => by omega); exact hrd5; omega; exact hl5; rintro e6 v2 ⟨rfl, hM6, hk6⟩
                     have hI6 := hI5.keep hk6 hM6
                     have hc6 : v2.cell? ⟨w2.heap.size, 3, none⟩ = some (.slice At X.tail.length ct) := hI6.sb.cell 3
                     have hc6a := cell_alloc hc6 (.cells #[.int .i64 (rCmd (rBytes bs X.st).2 (rBytes bs X.st).1).1.client, .int .i64 (rCmd (rBytes bs X.st).2 (rBytes bs X.st).1).1.inc, .int .i64 (rCmd (rBytes bs X.st).2 (rBytes bs X.st).1).1.req, .int .i64 (rCmd (rBytes bs X.st).2 (rBytes bs X.st).1).1.op, str (rCmd (rBytes bs X.st).2 (rBytes bs X.st).1).1.key, str (rCmd (rBytes bs X.st).2 (rBytes bs X.st).1).1.val, str (rCmd (rBytes bs X.st).2 (rBytes bs X.st).1).1.old] 57))
                  | (refine step_append_rd (by rfl) (.tmp 47) (.tmp 52) w.heap.size 30 57 i2 (.agg #[.int .i64 0, .int .i64 0, .int .i64 0, .int .i64 0, .string ⟨#[]⟩, .string ⟨#[]⟩, .string ⟨#[]⟩]) 7 80 (by rfl) Tryd.underlying30 hi2 hy1 hy2 hy3 (by rfl) (by omega) (.slice At X.tail.length ct) X.tail.length (cmdsCells X.tail) (by rfl) (ownsRow_keep_ hI6.tx ((Keep.refl v2.heap.size (fun _ => False) v2).alloc (Nat.le_refl _) _) (Nat.le_refl _) (fun _ _ _ _ h => h)) (fun _ => True) (some ⟨v2.heap.size, 0, none⟩) 1 1 (cmdCells (rCmd (rBytes bs X.st).2 (rBytes bs X.st).1).1) (by rfl) (rd_new_cmd v2 _) (one_cmd _) (by unfold maxLen; omega) (by omega) (by have := hI6.kp.size; simp; omega) ?_
                     intro v' v3 hown3 hg3 hob3
                     obtain ⟨hI7, hc7, hf7⟩ := hI6.app _ hown3 hg3
                     obtain ⟨A7, c7, rfl, hl7⟩ := own_slice hown3))
              all_goals have HI7 := Lib.hid hI7
              all_goals clear hI7 hg3 hown3 hob3 hc7 hf7 hI6 hc6 hc6a hM6 hk6 hI5 hc5 hM5 hk5 hrd5
              all_goals go_wp2
              all_goals refine ⟨⟨q + 1, by omega, by go_num, gStep bs X, _, HI7.out, ?_, ?_, ?_⟩, by simp [intOf]; omega⟩
              all_goals first
                | (show (X.tail ++ [_]).length ≤ q + 1; simp; omega)
                | (intro h; omega)
                | (rw [← HG.out, show N - q = (N - (q + 1)) + 1 from by omega, gIter, if_neg (by rw [HBD.out]; simp)])
            · have hXg : X = gX bs s := by rw [← HG.out, gIter_bad _ _ _ hbad]
              have hout : gOut bs s = X.st := by
                unfold gOut
                rw [← hXg, hbad, Bool.true_or]
                cases X with | mk st tl => cases st with | mk p b => simp at hbad; subst hbad; rfl
              have HXG := Lib.hid hXg
              have HOUT := Lib.hid hout
              clear hbad hXg hout
              have hF := hIr.fin (T := T) hTT.out (fun k hk => (hTT'.out k hk).1)
              have hLB := laidState_blk hIr.rb (gEp bs s).1 (gBase bs s).1 (.slice Av (gSnap bs s).1.length cv) (.slice At X.tail.length ct)
              obtain ⟨⟨x0, x1, x2, x3⟩, _⟩ := Blk.four hIr.sb
              obtain ⟨⟨y0, y1, y2, y3⟩, z0, z1, z2, z3⟩ := Blk.four hIr.rb
              clear hb hr hIr hcap
              go_wp2
              change bodyPost _ _ _ _ _ (laidState wr w.heap.size (gEp bs s).1 (gBase bs s).1 (.slice Av (gSnap bs s).1.length cv) (.slice At X.tail.length ct))
              generalize laidState wr w.heap.size (gEp bs s).1 (gBase bs s).1 (.slice Av (gSnap bs s).1.length cv) (.slice At X.tail.length ct) = WF at hF hLB ⊢
              obtain ⟨⟨u0, u1, u2, u3⟩, _⟩ := Blk.four hLB
              refine bodyPost_ret (v := .agg #[.int .i64 (gEp bs s).1, .int .i64 (gBase bs s).1, .slice Av (gSnap bs s).1.length cv, .slice At X.tail.length ct]) (by simp [results, Tryd.results14, go_sem, u0, u1, u2, u3]) rfl ⟨_, rfl, ?_⟩
              rw [HOUT.out, ← HXG.out]
              exact hF
          · obtain rfl : q = N := by omega
            have hXg : X = gX bs s := by rw [← HG.out, Nat.sub_self]; rfl
            have HXG := Lib.hid hXg
            clear hXg
            by_cases hmx : 4611686018427387904 < (gBase bs s).1 + X.tail.length
            · have hout : gOut bs s = ⟨X.st.p, true⟩ := by
                unfold gOut
                rw [← HXG.out, decide_eq_true hmx, Bool.or_true]
              have HOUT := Lib.hid hout
              have hmxI : (4611686018427387904 : Int) - X.tail.length < (gBase bs s).1 := by omega
              have hwm : IntKind.i64.wrap (4611686018427387904 - (X.tail.length : Int)) = 4611686018427387904 - (X.tail.length : Int) := IntWalk.i64_in _ (by omega)
              clear hmx hout
              have HFL := Lib.hid (fun W part h => rfail g T' bs rs X.st part W h)
              have HI := Lib.hid hIr
              obtain ⟨⟨x0, x1, x2, x3⟩, _⟩ := Blk.four hIr.sb
              clear hb hr hIr hcap hf
              go_wp2_with fail
              refine (HFL.out _ _ HI.out.rd).mono ?_
              rintro ef w8 ⟨rfl, hM8, hk8⟩
              have hIr := HI.out.keep hk8 hM8
              clear hM8 hk8 x0 x1 x2 x3
              have hF := hIr.fin (T := T) hTT.out (fun k hk => (hTT'.out k hk).1)
              have hLB := laidState_blk hIr.rb (gEp bs s).1 (gBase bs s).1 (.slice Av (gSnap bs s).1.length cv) (.slice At X.tail.length ct)
              obtain ⟨⟨x0, x1, x2, x3⟩, _⟩ := Blk.four hIr.sb
              obtain ⟨⟨y0, y1, y2, y3⟩, z0, z1, z2, z3⟩ := Blk.four hIr.rb
              clear hIr
              go_wp2
              change bodyPost _ _ _ _ _ (laidState w8 w.heap.size (gEp bs s).1 (gBase bs s).1 (.slice Av (gSnap bs s).1.length cv) (.slice At X.tail.length ct))
              generalize laidState w8 w.heap.size (gEp bs s).1 (gBase bs s).1 (.slice Av (gSnap bs s).1.length cv) (.slice At X.tail.length ct) = WF at hF hLB ⊢
              obtain ⟨⟨u0, u1, u2, u3⟩, _⟩ := Blk.four hLB
              refine bodyPost_ret (v := .agg #[.int .i64 (gEp bs s).1, .int .i64 (gBase bs s).1, .slice Av (gSnap bs s).1.length cv, .slice At X.tail.length ct]) (by simp [results, Tryd.results14, go_sem, u0, u1, u2, u3]) rfl ⟨_, rfl, ?_⟩
              rw [HOUT.out, ← HXG.out]
              exact hF
            · have hout : gOut bs s = X.st := by
                unfold gOut
                rw [← HXG.out, decide_eq_false hmx, Bool.or_false]
              have HOUT := Lib.hid hout
              have hmxI : ((gBase bs s).1 : Int) ≤ (4611686018427387904 : Int) - X.tail.length := by omega
              have hwm : IntKind.i64.wrap (4611686018427387904 - (X.tail.length : Int)) = 4611686018427387904 - (X.tail.length : Int) := IntWalk.i64_in _ (by omega)
              clear hmx hout hf
              have hF := hIr.fin (T := T) hTT.out (fun k hk => (hTT'.out k hk).1)
              have hLB := laidState_blk hIr.rb (gEp bs s).1 (gBase bs s).1 (.slice Av (gSnap bs s).1.length cv) (.slice At X.tail.length ct)
              obtain ⟨⟨x0, x1, x2, x3⟩, _⟩ := Blk.four hIr.sb
              obtain ⟨⟨y0, y1, y2, y3⟩, z0, z1, z2, z3⟩ := Blk.four hIr.rb
              clear hb hr hIr hcap
              go_wp2
              change bodyPost _ _ _ _ _ (laidState wr w.heap.size (gEp bs s).1 (gBase bs s).1 (.slice Av (gSnap bs s).1.length cv) (.slice At X.tail.length ct))
              generalize laidState wr w.heap.size (gEp bs s).1 (gBase bs s).1 (.slice Av (gSnap bs s).1.length cv) (.slice At X.tail.length ct) = WF at hF hLB ⊢
              obtain ⟨⟨u0, u1, u2, u3⟩, _⟩ := Blk.four hLB
              refine bodyPost_ret (v := .agg #[.int .i64 (gEp bs s).1, .int .i64 (gBase bs s).1, .slice Av (gSnap bs s).1.length cv, .slice At X.tail.length ct]) (by simp [results, Tryd.results14, go_sem, u0, u1, u2, u3]) rfl ⟨_, rfl, ?_⟩
              rw [HOUT.out, ← HXG.out]
              exact hF
end Go.Proofs.YtjdageiphebfpaaDoor
