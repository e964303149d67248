/- The statement ReplicaPromiseUptoCardSaid: whatever journal comes, of bulk at most 1048576: the program's Promise and the document's are one and the same, and what was handed in reads as it did.
   CONDITIONS: the arguments, and the package variables that the reading takes, hold together at most 1048576 values and letters; the listed package variables hold at the call's begin what the program's text lays (the card ties them to it). -/
import Derived.Test.YtjdageiphebfpaaDoorRows
import Derived.Test.YtjdageiphebfpaaDoorMProm
import Derived.OpenShut
import Derived.Deep.Slices
import Derived.Deep.Fields
import Derived.ChangeSame
import Derived.Test.YtjdageiphebfpaaDoorCards
import Derived.Test.YtjdageiphebfpaaDoorTie
import Derived.Test.YtjdageiphebfpaaDoorMLaw
import Derived.WalkKit
import Derived.ProofKit
import Derived.Carry
import Derived.Deep.DeepHandedRow
import Derived.Deep.DeepWitnessRowRef
import Derived.Lib.LaidTab
import Derived.Lib.LaidIn
import Derived.Stop.LaidErr
namespace Go.Proofs.YtjdageiphebfpaaDoor
open Go.ChangeShapes Go.WideShapes Go.RowKit Go.Deep
open Pl Mem

section
variable {H : Type} {enc : TypeId × Value → H} {P : Program} {w : World} {base : Nat} {spare : Nat → Bool} {held : Bool}
theorem open_slice_fields {t e : TypeId} {fs : Array Field} {fuel : Nat} {cs : List Value} {x : DataW H × List MemPlace} (ht : P.underlying t = some (.slice e)) (he : P.underlying e = some (.struct fs))
    (hone : oneCellFields P fs = true) (hC : P.cellsOf e = fs.size) (h : DataW.trod enc P w base spare held fuel t cs = some x) :
    (cs = [.slice none 0 0] ∧ x = (.nil, [])) ∨
    ∃ (a : Addr) (len cap m : Nat) (D : Nat → DataW H) (Pl : Nat → List MemPlace), cs = [.slice (some a) len cap] ∧ base ≤ a.block ∧ len ≤ cap ∧ cap ≤ maxLen ∧ m = (if spare a.block then cap else len) ∧
      x = (.slice ((List.range len).map D) ((List.range (m - len)).map fun j => D (len + j)), MemPlace.row a (m * fs.size) ++ (List.range m).flatMap Pl) ∧
      ∀ i, i < m → ∃ (ys : List (DataW H × List MemPlace)) (n : Nat), D i = .agg (ys.map (·.1)) ∧ Pl i = ys.flatMap (·.2) ∧ ys.length = fs.size ∧
        ∀ (j : Nat) (f : Field), fs[j]? = some f → ∃ (v : Value) (y : DataW H × List MemPlace), w.cell? (a.add (i * fs.size + j)) = some v ∧ ys[j]? = some y ∧ DataW.trod enc P w base spare held n f.type [v] = some y := by
  rcases open_slice ht h with h0 | ⟨a, len, cap, m, n, D, Pl, hcs, hb, hl, hm, hmm, hx, hi⟩
  · exact .inl h0
  · refine .inr ⟨a, len, cap, m, D, Pl, hcs, hb, hl, hm, hmm, by rw [hC] at hx; exact hx, fun i him => ?_⟩
    obtain ⟨cs', hc, ht'⟩ := hi i him
    rw [hC] at hc
    obtain ⟨ys, n', hn', hy, hlen, hyl, hf⟩ := DataW.trod_struct he ht'
    obtain ⟨_, hcl, hat⟩ := World.cells?_some hc
    simp only [Prod.mk.injEq] at hy
    refine ⟨ys, n', hy.1, hy.2, hyl, fun j f hj => ?_⟩
    obtain ⟨ho, hk⟩ := hone_of hone j f hj
    have hjl : j < fs.size := (Array.getElem?_eq_some_iff.1 hj).1
    have hcell := hat j hjl
    have hv : cs'[j]? = some (cs'[j]'(by omega)) := List.getElem?_eq_getElem (by omega)
    have h1 := hf j f hj
    rw [ho, hk] at h1
    have hone' : (cs'.drop j).take 1 = [cs'[j]'(by omega)] := by
      rw [List.drop_eq_getElem_cons (by omega)]
      rfl
    rw [hone'] at h1
    have hys : ys[j]? = some (ys[j]'(by omega)) := List.getElem?_eq_getElem (by omega)
    refine ⟨_, _, ?_, hys, h1.trans hys⟩
    rw [← Go.Deep.add_add, hcell, hv]
end

theorem bulk_part {H : Type} {d : DataW H} {l : List (DataW H)} (h : d ∈ l) : Rows.uptoBulk d ≤ Rows.uptoBulkAll l := by
  induction l with
  | nil => cases h
  | cons x r ih =>
    simp only [Rows.uptoBulkAll]
    cases List.mem_cons.1 h with
    | inl e => subst e; omega
    | inr e => have := ih e; omega
theorem bulk_one {H : Type} (d : DataW H) : 1 ≤ Rows.uptoBulk d := by
  cases d with
  | lit l => cases l <;> simp [Rows.uptoBulk]
  | nil => simp [Rows.uptoBulk]
  | ptr d => simp [Rows.uptoBulk]
  | slice elems spare => simp [Rows.uptoBulk]
  | agg parts => simp [Rows.uptoBulk]
  | iface t d => simp [Rows.uptoBulk]
  | map entries => simp [Rows.uptoBulk]
  | held h => simp [Rows.uptoBulk]
theorem bulk_len {H : Type} (l : List (DataW H)) : l.length ≤ Rows.uptoBulkAll l := by
  induction l with
  | nil => simp [Rows.uptoBulkAll]
  | cons x r ih => have := bulk_one x; simp only [Rows.uptoBulkAll, List.length_cons]; omega

section
variable {H : Type} {enc : TypeId × Value → H} {W : World}
theorem choose_recs {q : Nat → RecC → Option Addr → Nat → Prop} (n : Nat) (h : ∀ i, i < n → ∃ (r : RecC) (B : Option Addr) (c : Nat), q i r B c) : ∃ R : Nat → RecC, ∀ i, i < n → ∃ B c, q i (R i) B c := by
  refine ⟨fun i => if hi : i < n then Classical.choose (h i hi) else ⟨0, []⟩, fun i hi => ?_⟩
  simp only [hi, dif_pos]
  exact Classical.choose_spec (h i hi)
/-- Bytes. -/
theorem open_body {fuel : Nat} {v : Value} {y : DataW H × List MemPlace} (h : DataW.trod enc Tryd.prog W 0 (fun _ => true) true fuel 27 [v] = some y) (hb : Rows.uptoBulk y.1 ≤ 1048576) :
    ∃ (B : Option Addr) (bs : Bytes) (c : Nat), v = .slice B bs.length c ∧ bs.length ≤ c ∧ bs.length ≤ 1048576 ∧ Rd W (fun _ => True) 1 B bs.length (u8s bs) := by
  rcases open_ints Tryd.underlying27 Tryd.underlying5 (by kernel_rfl) h with ⟨hcs, _⟩ | ⟨a, len, cap, zs, hcs, _, hl, hm, hz, hx, hcell, hwz⟩
  · simp only [List.cons.injEq, and_true] at hcs
    exact ⟨none, [], 0, hcs, Nat.le_refl _, by simp, Rd.nil_⟩
  · simp only [List.cons.injEq, and_true] at hcs
    simp only [if_true] at hz
    have hlen : ((zs.take len).map fun n => UInt8.ofNat n.toNat).length = len := by simp; omega
    have hbl : len ≤ 1048576 := by
      rw [hx] at hb
      simp only [Rows.uptoBulk] at hb
      have := bulk_len (H := H) (lits .u8 (zs.take len))
      have e : (lits (H := H) .u8 (zs.take len)).length = len := by simp [lits]; omega
      omega
    refine ⟨some a, (zs.take len).map fun n => UInt8.ofNat n.toNat, cap, by rw [hlen]; exact hcs, by rw [hlen]; exact hl, by rw [hlen]; exact hbl, ?_⟩
    rw [hlen]
    refine ⟨by rw [u8s_len, hlen, Nat.mul_one], fun hn => ⟨a, rfl, trivial, ?_, fun j u hu => ?_⟩⟩
    · have := World.block_lt_of_cell? W _ (hcell 0 (by omega))
      rw [Mem.block_add] at this
      exact this
    · have hj : j < len := by
        rcases Nat.lt_or_ge j len with h1 | h1
        · exact h1
        · rw [List.getElem?_eq_none (by rw [u8s_len, hlen]; exact h1)] at hu; cases hu
      rw [u8s_get (by rw [hlen]; exact hj)] at hu
      rw [← Option.some.inj hu, hcell j (by omega)]
      have hbd := range_u8 hwz j
      have hjz : j < zs.length := by omega
      simp only [List.getElem_map, List.getElem_take]
      rw [List.getElem?_eq_getElem hjz] at hbd
      simp only [Option.getD_some] at hbd
      have e : zs.getD j 0 = zs[j] := by simp [List.getD, hjz]
      rw [e]
      congr 2
      simp only [UInt8.toNat_ofNat']
      omega

theorem open_recs {v : Value} {d : DataW H} {p : List MemPlace} (h : DataW.Trod enc Tryd.prog W 0 (fun _ => true) true 22 v d p) (hv : ∃ a len cap, v = .slice a len cap) (hb : Rows.uptoBulk d ≤ 1048576) :
    ∃ (A : Option Addr) (l : List RecC) (c : Nat), v = .slice A l.length c ∧ l.length ≤ 1048576 ∧ Recs W (fun _ => True) A l := by
  obtain ⟨fuel, hf⟩ := h
  obtain ⟨a0, len0, cap0, rfl⟩ := hv
  rcases open_slice_fields Tryd.underlying22 Tryd.underlying29 (by kernel_rfl) (by kernel_rfl) hf with ⟨hcs, _⟩ | ⟨a, len, cap, m, D, Pl, hcs, _, hl, hm, hmm, hx, hi⟩
  · simp [Value.cells] at hcs
    obtain ⟨rfl, rfl, rfl⟩ := hcs
    exact ⟨none, [], 0, rfl, by simp, fun j hj => by simp at hj⟩
  · simp [Value.cells] at hcs
    obtain ⟨rfl, rfl, rfl⟩ := hcs
    simp only [if_true] at hmm
    subst hmm
    have hd : d = .slice ((List.range len0).map D) ((List.range (m - len0)).map fun j => D (len0 + j)) := by
      have := congrArg Prod.fst hx; exact this
    have hbulk : len0 ≤ 1048576 ∧ ∀ i, i < len0 → Rows.uptoBulk (D i) ≤ 1048576 := by
      rw [hd] at hb
      simp only [Rows.uptoBulk] at hb
      refine ⟨?_, fun i hi => ?_⟩
      · have := bulk_len ((List.range len0).map D)
        simp at this; omega
      · have := bulk_part (List.mem_map_of_mem (f := D) (List.mem_range.2 hi))
        omega
    have key : ∀ i, i < len0 → ∃ (r : RecC) (B : Option Addr) (c : Nat), W.cell? (a.add (i * 2)) = some (.int .i64 r.kind) ∧ W.cell? (a.add (i * 2 + 1)) = some (.slice B r.body.length c) ∧ r.body.length ≤ c ∧ r.body.length ≤ 1048576 ∧ Rd W (fun _ => True) 1 B r.body.length (u8s r.body) := by
      intro i hil
      obtain ⟨ys, n, hD, _, hyl, hf⟩ := hi i (by omega)
      obtain ⟨v0, y0, c0, e0, t0⟩ := hf 0 _ rfl
      obtain ⟨v1, y1, c1, e1, t1⟩ := hf 1 _ rfl
      obtain ⟨k, hk, _, _⟩ := DataW.trod_int (k := .i64) Tryd.underlying3 t0
      have hk' : v0 = .int .i64 k := by simpa using hk
      have hb1 : Rows.uptoBulk y1.1 ≤ 1048576 := by
        have h1 := hbulk.2 i hil
        rw [hD] at h1
        simp only [Rows.uptoBulk] at h1
        have h2 : y1.1 ∈ ys.map (·.1) := List.mem_map_of_mem (List.mem_of_getElem? e1)
        have h3 := bulk_part h2
        omega
      obtain ⟨B, bs, c, hv1, hc, hbl, hrd⟩ := open_body t1 hb1
      refine ⟨⟨k, bs⟩, B, c, ?_, ?_, hc, hbl, hrd⟩
      · have := c0; rw [hk'] at this; simpa using this
      · have := c1; rw [hv1] at this; simpa using this
    obtain ⟨R, hR⟩ := choose_recs len0 key
    refine ⟨some a, (List.range len0).map R, m, by simp, by simp; exact hbulk.1, fun j hj => ?_⟩
    have hj' : j < len0 := by simpa using hj
    obtain ⟨B, c, k0, k1, hc, hbl, hrd⟩ := hR j hj'
    have hg : ((List.range len0).map R)[j] = R j := by simp
    rw [hg]
    refine ⟨a, B, c, rfl, ?_, trivial, k0, ?_, hc, by omega, hrd⟩
    · have := World.block_lt_of_cell? W _ k0
      rw [Mem.block_add] at this
      exact this
    · show W.cell? ((a.add (j * 2)).add 1) = _
      rw [Mem.add_add]
      exact k1
end
end Go.Proofs.YtjdageiphebfpaaDoor

namespace Go.Proofs.YtjdageiphebfpaaDoor
open Go.ChangeShapes Go.WideShapes Go.ChangeAt Go.RowKit
open Pl Mem

theorem own : ownKnob Tryd.prog.godebug = none := by kernel_rfl
theorem laidOut' : laidOutB Tryd.prog = true := by kernel_rfl
theorem starE : "*" ++ "errors.errorString" = "*errors.errorString" := by decide
theorem rowE (u : TypeId) (h : Tryd.prog.typeName? 3 u = some "*errors.errorString") : u = 150 :=
  typeName_ptr_named (nm := "errors.errorString") (by rw [starE]; kernel_rfl) (by kernel_rfl) (by decide) u (by rw [starE]; exact h)

/-- What the row's list gives. -/
theorem env_of {W : World} (hL : laidMetH Tryd.prog Rows.replicaPromiseUptoRow.laid W) (hS : W.ShapedOpen Tryd.prog) :
    Env W ∧ ∀ i : Nat, i < 16 → W.cell? ⟨0, i, none⟩ = some (.int .u32 (nib i).toNat) := by
  have hL' : laidMet Tryd.prog Rows.replicaPromiseUptoRow.laid W := hL
  have h2 := hL'.tail.tail
  have h4 := h2.tail.tail
  have h5 := h4.tail
  have h6 := h5.tail
  have hpow : Lib.TabIs Tryd.prog W "internal/strconv.uint64pow10" .u64 Lib.pow10Tab :=
    Lib.tabIs_of_head gPow (by kernel_rfl) Tryd.underlying154 Tryd.underlying136 (by kernel_rfl) (by kernel_rfl) h2
  have hshp : Lib.TabIs Tryd.prog W "quorate/machine.shapes" .i64 [0, 3, 1, 7, 1, 9, 1, 1, 17, 32] :=
    Lib.tabIs_of_head gShapes (by kernel_rfl) Tryd.underlying125 Tryd.underlying3 (by kernel_rfl) (by kernel_rfl) h6
  have hgn : Tryd.prog.globalNamed "quorate/wire.nibble" = some 0 := by kernel_rfl
  have hnib : Lib.TabIs Tryd.prog W "quorate/wire.nibble" .u32 [0, 498536548, 997073096, 651767980, 1994146192, 1802195444, 1303535960, 1342533948, 3988292384, 4027552580, 3604390888, 3412177804, 2607071920, 2262029012, 2685067896, 3183342108] :=
    Lib.tabIs_of_head hgn (by kernel_rfl) Tryd.underlying123 Tryd.underlying121 (by kernel_rfl) (by kernel_rfl) h5
  obtain ⟨a, t, hv, _, _, _⟩ := laid_sentinel (g := 2) h4 (by kernel_rfl) (by kernel_rfl) Tryd.underlying34 rowE Tryd.underlying150 Tryd.underlying152 rfl rfl Tryd.underlying9 (by kernel_rfl) (by kernel_rfl)
  have hsz : 12 ≤ W.heap.size := by
    obtain ⟨o, _, ho, _⟩ := hS.2 (12 - 1) (by decide +kernel) (by decide +kernel)
    have := (Array.getElem?_eq_some_iff.1 ho).1
    omega
  refine ⟨⟨hsz, hshp, hpow, ⟨_, _, hv⟩⟩, fun i hi => ?_⟩
  rw [hnib.cell hgn i hi]
  have key : ∀ i : Fin 16, (([0, 498536548, 997073096, 651767980, 1994146192, 1802195444, 1303535960, 1342533948, 3988292384, 4027552580, 3604390888, 3412177804, 2607071920, 2262029012, 2685067896, 3183342108] : List Int).getD i.val 0) = ((nib i.val).toNat : Int) := by decide
  exact congrArg (fun z => some (Value.int .u32 z)) (key ⟨i, hi⟩)

/-- A world for the witness: the settled one with the two errors' structs, the seven variables holding what their initialisers lay. -/
noncomputable def laidWorld (os : Os) : World :=
  let N := (World.settled Tryd.prog os).heap.size
  let w0 := World.holding Tryd.prog os ⟨#[
    .cells #[.string ⟨#[118, 97, 108, 117, 101, 32, 111, 117, 116, 32, 111, 102, 32, 114, 97, 110, 103, 101]⟩] 152, .cells #[.string ⟨#[105, 110, 118, 97, 108, 105, 100, 32, 115, 121, 110, 116, 97, 120]⟩] 152], #[], []⟩
  let put (h : Array Obj) (g : Nat) (cs : Array Value) : Array Obj := h.modify g fun
    | .cells _ t frozen => .cells cs t frozen
    | o => o
  let h0 := put w0.heap 3 #[.iface 150 (.pointer (some ⟨N, 0, none⟩))]
  let h1 := put h0 2 #[.iface 150 (.pointer (some ⟨N + 1, 0, none⟩))]
  let h2 := put h1 0 #[.int .u32 0, .int .u32 498536548, .int .u32 997073096, .int .u32 651767980, .int .u32 1994146192, .int .u32 1802195444, .int .u32 1303535960, .int .u32 1342533948, .int .u32 3988292384, .int .u32 4027552580, .int .u32 3604390888, .int .u32 3412177804, .int .u32 2607071920, .int .u32 2262029012, .int .u32 2685067896, .int .u32 3183342108]
  let h3 := put h2 1 #[.int .i64 0, .int .i64 3, .int .i64 1, .int .i64 7, .int .i64 1, .int .i64 9, .int .i64 1, .int .i64 1, .int .i64 17, .int .i64 32]
  let h4 := put h3 4 #[.int .u64 1, .int .u64 10, .int .u64 100, .int .u64 1000, .int .u64 10000, .int .u64 100000, .int .u64 1000000, .int .u64 10000000, .int .u64 100000000, .int .u64 1000000000, .int .u64 10000000000, .int .u64 100000000000, .int .u64 1000000000000, .int .u64 10000000000000, .int .u64 100000000000000, .int .u64 1000000000000000, .int .u64 10000000000000000, .int .u64 100000000000000000, .int .u64 1000000000000000000, .int .u64 10000000000000000000]
  let h5 := put h4 5 #[.int .u8 0, .int .u8 1, .int .u8 28, .int .u8 2, .int .u8 29, .int .u8 14, .int .u8 24, .int .u8 3, .int .u8 30, .int .u8 22, .int .u8 20, .int .u8 15, .int .u8 25, .int .u8 17, .int .u8 4, .int .u8 8, .int .u8 31, .int .u8 27, .int .u8 13, .int .u8 23, .int .u8 21, .int .u8 19, .int .u8 16, .int .u8 7, .int .u8 26, .int .u8 12, .int .u8 18, .int .u8 6, .int .u8 11, .int .u8 5, .int .u8 10, .int .u8 9]
  let h6 := put h5 6 #[.int .u8 0, .int .u8 1, .int .u8 56, .int .u8 2, .int .u8 57, .int .u8 49, .int .u8 28, .int .u8 3, .int .u8 61, .int .u8 58, .int .u8 42, .int .u8 50, .int .u8 38, .int .u8 29, .int .u8 17, .int .u8 4, .int .u8 62, .int .u8 47, .int .u8 59, .int .u8 36, .int .u8 45, .int .u8 43, .int .u8 51, .int .u8 22, .int .u8 53, .int .u8 39, .int .u8 33, .int .u8 30, .int .u8 24, .int .u8 18, .int .u8 12, .int .u8 5, .int .u8 63, .int .u8 55, .int .u8 48, .int .u8 27, .int .u8 60, .int .u8 41, .int .u8 37, .int .u8 16, .int .u8 46, .int .u8 35, .int .u8 44, .int .u8 21, .int .u8 52, .int .u8 32, .int .u8 23, .int .u8 11, .int .u8 54, .int .u8 26, .int .u8 40, .int .u8 15, .int .u8 34, .int .u8 20, .int .u8 31, .int .u8 10, .int .u8 25, .int .u8 14, .int .u8 19, .int .u8 9, .int .u8 13, .int .u8 8, .int .u8 7, .int .u8 6]
  { w0 with heap := h6 }
noncomputable abbrev N0 : Nat := (World.settled Tryd.prog default).heap.size
theorem laid_in (os : Os) (args : Array Value) : LaidIn Tryd.prog ((laidWorld os).forCall (fun _ _ => 0) ⟨#[], args, []⟩).memory Rows.replicaPromiseUptoRow.laid [5, 6, 4, 3, N0, 2, N0 + 1, 0, 1] :=
  LaidIn.of_run [5, 6, 4, 3, N0, 2, N0 + 1, 0, 1] 8 (by kernel_rfl) (by kernel_rfl) (by kernel_rfl) (by kernel_rfl)
theorem laid_met (os : Os) (args : Array Value) : laidMet Tryd.prog Rows.replicaPromiseUptoRow.laid ((laidWorld os).forCall (fun _ _ => 0) ⟨#[], args, []⟩).memory := (laid_in os args).met
theorem reads (os : Os) {H : Type} (enc : TypeId × Value → H) : ∃ places, DataW.whole enc Tryd.prog ((laidWorld os).forCall (fun _ _ => 0) ⟨#[], #[.slice none 0 0], []⟩).memory Tryd.f3.params.toList Rows.replicaPromiseSpec.vars false #[Value.slice none 0 0].toList 8 = some ([.nil], [], places) :=
  ⟨[], by kernel_rfl⟩

set_option maxRecDepth 100000 in
set_option maxHeartbeats 1000000 in
theorem lifted (os : Os) (started : os.Started) (H : Type) (enc : TypeId × Value → H) (F : Stop.Interp) :
    ReturnsInHanded {} Tryd.checked os 3 .any ((Rows.OpenSpec.upto Rows.replicaPromiseSpec).preRow enc Tryd.prog Tryd.f3 Rows.replicaPromiseUptoRow.domain false Rows.replicaPromiseUptoRow.laid) (((Rows.OpenSpec.upto Rows.replicaPromiseSpec).at F).post enc Tryd.prog Tryd.f3 false true false false) := by
  obtain ⟨places, hx⟩ := reads os enc
  refine returnsInHanded_of_row (C := Tryd.checked) (s := Rows.OpenSpec.upto Rows.replicaPromiseSpec) own started (by kernel_rfl) Tryd.func3
    (witness_row_atRef (enc := enc) (C := Tryd.checked) false (laidWorld os) #[.slice none 0 0] rfl (by kernel_rfl) (by kernel_rfl) (by kernel_rfl)
      (OpenSpec.preRow_of_cond 8 hx (by kernel_rfl) (fun k hk => by cases hk; kernel_rfl) (by kernel_rfl) (laid_met os _))) ?_
  intro W base args ds gs before hval0 hW _ hcond _ hL hSh _
  have hval : ∀ (j : Nat) t v, Tryd.f3.params[j]? = some t → args[j]? = some v → Value.okWide Tryd.prog W .any base t v := hval0
  have hlt0 := fun p hp => hW.lt p hp
  have hW' := hW
  obtain ⟨p, q, hA0, hV0, rfl, _, _⟩ := hW
  have hA : DataW.TrodAll enc Tryd.prog W 0 (fun _ => true) true Tryd.f3.params.toList args.toList ds p := hA0
  rw [Tryd.params3] at hA hval
  obtain ⟨v0, d0, rfl, rfl, h0⟩ := trodAll_one hA
  obtain ⟨rfl, rfl⟩ := trodVars_none hV0
  have hk := hcond _ rfl
  have hbulk : Rows.uptoBulkAll ([d0] ++ []) ≤ 1048576 := of_decide_eq_true hk
  simp only [List.append_nil, Rows.uptoBulkAll, Nat.add_zero] at hbulk
  obtain ⟨A, l, c, rfl, hln, hR⟩ := open_recs h0 (okWide_slice Tryd.underlying22 (hval 0 22 v0 rfl rfl)) hbulk
  obtain ⟨hE, hN⟩ := env_of hL hSh
  refine (lpromise A c l _ W hR (by omega) hE hN).mono ?_
  rintro e W' ⟨rfl, bel⟩
  have e1 : ((Rows.OpenSpec.upto Rows.replicaPromiseSpec).at F).fn H ([d0] ++ []) = { results := [.lit (.bool true)], args := [d0] } := rfl
  refine ⟨_, rfl, _, _, _, [], p, [], hW', ?_, ?_, ?_, bel.frame _, fun h => by cases h⟩
  · rw [e1]; exact trodAll_mk1 (shut_bool Tryd.underlying4 true)
  · rw [e1]; exact trodAll_mk1 (Below.trod laidOut' (by kernel_rfl) (by decide +kernel) h0 bel (fun x hx => hlt0 x (by simpa using hx)))
  · rw [e1]; rfl

theorem saidUpto : Rows.ReplicaPromiseUptoSaid :=
  OpenClaim.holds_of_cond 3 Tryd.f3 rfl rfl rfl rfl rfl rfl rfl ⟨rfl, rfl, rfl, rfl, rfl⟩ rfl rfl rfl rfl rfl (by kernel_rfl) Tryd.func3 (by kernel_rfl)
    (of_decide_eq_true (by kernel_rfl)) (by unfold Func.isWrapper; first | (rw [if_pos (by decide +kernel)]; kernel_rfl) | (rw [if_neg (by decide +kernel)]; exact ⟨rfl, rfl⟩))
    (fun os started H enc _ F => by rw [OpenClaim.pre_eq_preRow]; exact lifted os started H enc F)

theorem plain (f : FuncId) (fn : Func) (hf : Tryd.pinned.checked.prog.funcNamed "quorate/quoratelaw14.ReplicaPromise" = some f) (hfn : Tryd.pinned.checked.prog.funcs[f]? = some fn) :
    true = Tryd.pinned.checked.prog.looks [] ∧ ∀ (j : Nat) t, fn.params[j]? = some t → Tryd.pinned.checked.prog.wantsStandIn t = false := by
  obtain rfl : f = 3 := Option.some.inj ((show Tryd.prog.funcNamed "quorate/quoratelaw14.ReplicaPromise" = some 3 by kernel_rfl).symm.trans hf) |>.symm
  obtain rfl : fn = Tryd.f3 := (Option.some.inj (Tryd.func3.symm.trans hfn)).symm
  refine ⟨by kernel_rfl, fun j t ht => ?_⟩
  rw [Tryd.params3] at ht
  obtain rfl : t = 22 := by simpa using Array.mem_of_getElem? ht
  exact (show Tryd.prog.wantsStandIn 22 = false by kernel_rfl)

/-- The card. -/
theorem cardUpto : Rows.ReplicaPromiseUptoCardSaid :=
  Claim7.holds_tied_plain_at .later [] _ _ _ _ saidUpto (fun _ h => by cases h) (by kernel_rfl) (fun _ h => by cases h) replicaPromiseUpto_row_tie rfl ⟨rfl, rfl⟩ (by kernel_rfl) rfl plain (by kernel_rfl)
end Go.Proofs.YtjdageiphebfpaaDoor
