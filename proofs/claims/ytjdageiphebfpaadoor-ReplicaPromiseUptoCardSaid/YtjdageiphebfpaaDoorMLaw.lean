/- The law's own functions: records, sameRecord, sameRecords. -/
import Derived.Test.YtjdageiphebfpaaDoorMRf16
namespace Go.Proofs.YtjdageiphebfpaaDoor
open Go.RowKit
open Pl Mem

set_option maxRecDepth 100000 in
theorem lsame1 (k : Int) (A A' : Option Addr) (n c c' : Nat) (bs : Bytes) (T T' : Nat → Prop) (w : World) (hr : Rd w T 1 A n (u8s bs)) (hr' : Rd w T' 1 A' n (u8s bs)) :
    Calls Tryd.prog 12 #[.agg #[.int .i64 k, .slice A n c], .agg #[.int .i64 k, .slice A' n c']] w fun e w' => e = .returned (.bool true) ∧ Below w.heap.size w w' := by
  have h1 := (hr.alloc (.cells #[.int .i64 k, .slice A n c] 29)).alloc (.cells #[.int .i64 k, .slice A' n c'] 29)
  have h2 := (hr'.alloc (.cells #[.int .i64 k, .slice A n c] 29)).alloc (.cells #[.int .i64 k, .slice A' n c'] 29)
  have hV := run_str (P := Tryd.prog) (src := 27) Tryd.underlying27 Tryd.underlying5 Tryd.underlying9 (c := c) h1
  have hV' := run_str (P := Tryd.prog) (src := 27) Tryd.underlying27 Tryd.underlying5 Tryd.underlying9 (c := c') h2
  unfold str at hV hV'
  clear h1 h2 hr hr'
  go_enter Tryd.func12, Tryd.ntmps12
  go_wp2
  all_goals go_ret
  all_goals exact ⟨rfl, ((Below.refl _ _).alloc (Nat.le_refl _) _).alloc (by simp) _⟩

theorem Recs.keep {w w' : World} {B : Nat} {S T : Nat → Prop} {A : Option Addr} {l : List RecC} (h : Recs w T A l) (hk : Keep B S w w') (hB : w.heap.size ≤ B) (hS : ∀ k, k < w.heap.size → ¬ S k) : Recs w' T A l := by
  intro j hj
  obtain ⟨ad, A', c', e, h1, h2, h3, h4, h5, h6, h7⟩ := h j hj
  refine ⟨ad, A', c', e, Nat.lt_of_lt_of_le h1 hk.size, h2, ?_, ?_, h5, h6, h7.keep hk hB (fun k hk _ => hS k hk)⟩
  · exact (hk.cell (p := ad.add (j * 2)) (by rw [block_add]; omega) (by rw [block_add]; exact hS _ h1)).trans h3
  · exact (hk.cell (p := ⟨(ad.add (j * 2)).block, (ad.add (j * 2)).off + 1, none⟩) (by show (ad.add (j * 2)).block < _; rw [block_add]; omega) (by show ¬ S (ad.add (j * 2)).block; rw [block_add]; exact hS _ h1)).trans h4

set_option maxRecDepth 100000 in
set_option maxHeartbeats 1000000 in
theorem lsame (A A' : Option Addr) (c c' : Nat) (l : List RecC) (T T' : Nat → Prop) (w : World) (hR : Recs w T A l) (hR' : Recs w T' A' l) (hn : l.length ≤ 1099511627776) :
    Calls Tryd.prog 7 #[.slice A l.length c, .slice A' l.length c'] w fun e w' => e = .returned (.bool true) ∧ Below w.heap.size w w' := by
  have HR := Lib.hid hR
  have HR' := Lib.hid hR'
  clear hR hR'
  have HL := Lib.hid fun k A A' n c c' bs T T' W h h' => lsame1 k A A' n c c' bs T T' W h h'
  go_enter Tryd.func7, Tryd.ntmps7
  go_wp2_with fail
  go_loopw [5] (fun i wr => ∃ j : Nat, j ≤ l.length ∧ i = .int .i64 j ∧ Below w.heap.size w wr) (fun i _ => l.length - (intOf i).toNat)
  case atStart => exact ⟨0, by omega, rfl, Below.refl _ _⟩
  case round =>
    obtain ⟨j, hj, rfl, hb⟩ := hrel
    by_cases hjl : j < l.length
    · have hk := Keep.of_below (S := fun _ => False) hb
      obtain ⟨ad, B, cb, hAe, _, _, k0, k1, _, _, hrd⟩ := (HR.out.keep hk (Nat.le_refl _) (fun _ _ h => h)) j hjl
      obtain ⟨ad', B', cb', hAe', _, _, k0', k1', _, _, hrd'⟩ := (HR'.out.keep hk (Nat.le_refl _) (fun _ _ h => h)) j hjl
      subst hAe
      subst hAe'
      generalize l[j] = r at *
      have hj1 : (0 : Int) ≤ j := by omega
      have hj2 : (j : Int) < l.length := by omega
      have HBB := Lib.hid hb
      clear hb hk
      go_wp2_with fail
      go_region_held3 (fun w' => w'.cell? (ad.add (j * 2)) = some (.int .i64 r.kind) ∧ w'.cell? ⟨(ad.add (j * 2)).block, (ad.add (j * 2)).off + 1, none⟩ = some (.slice B r.body.length cb) ∧ w'.cell? (ad'.add (j * 2)) = some (.int .i64 r.kind) ∧ w'.cell? ⟨(ad'.add (j * 2)).block, (ad'.add (j * 2)).off + 1, none⟩ = some (.slice B' r.body.length cb'))
        (first | exact ⟨k0, k1, k0', k1'⟩ | exact ⟨by assumption, by assumption, by assumption, by assumption⟩)
        (first
          | (go_at_call 12; (with_reducible refine (HL.out _ _ _ _ _ _ r.body T T' _ ?_ ?_).mono ?_); exact hrd; exact hrd'; rintro e2 w2 ⟨rfl, hb2⟩
             have q0 : w2.cell? (ad.add (j * 2)) = some (.int .i64 r.kind) := ((Keep.of_below (S := fun _ => False) hb2).cell (p := ad.add (j * 2)) (World.block_lt_of_cell? _ _ k0) (fun h => h)).trans k0
             have q1 : w2.cell? ⟨(ad.add (j * 2)).block, (ad.add (j * 2)).off + 1, none⟩ = some (.slice B r.body.length cb) := ((Keep.of_below (S := fun _ => False) hb2).cell (p := ⟨(ad.add (j * 2)).block, (ad.add (j * 2)).off + 1, none⟩) (World.block_lt_of_cell? _ _ k1) (fun h => h)).trans k1
             have q2 : w2.cell? (ad'.add (j * 2)) = some (.int .i64 r.kind) := ((Keep.of_below (S := fun _ => False) hb2).cell (p := ad'.add (j * 2)) (World.block_lt_of_cell? _ _ k0') (fun h => h)).trans k0'
             have q3 : w2.cell? ⟨(ad'.add (j * 2)).block, (ad'.add (j * 2)).off + 1, none⟩ = some (.slice B' r.body.length cb') := ((Keep.of_below (S := fun _ => False) hb2).cell (p := ⟨(ad'.add (j * 2)).block, (ad'.add (j * 2)).off + 1, none⟩) (World.block_lt_of_cell? _ _ k1') (fun h => h)).trans k1'))
      go_wp2
      refine ⟨⟨j + 1, by omega, by go_num, HBB.out.trans ((Below.refl _ _).drew.trans (hb2.mono (Nat.le_refl _)) |>.mono HBB.out.size)⟩, by simp [intOf]; omega⟩
    · obtain rfl : j = l.length := by omega
      go_wp2
      go_ret
      exact ⟨rfl, hb⟩
end Go.Proofs.YtjdageiphebfpaaDoor

namespace Go.Proofs.YtjdageiphebfpaaDoor
open Go.RowKit
open Pl Mem

/-- A record with its body's value. -/
structure RecV where
  r : RecC
  v : Value
def recVC (l : List RecV) : List Value := l.flatMap fun x => [.int .i64 x.r.kind, x.v]
theorem recVC_get : ∀ (l : List RecV) (i : Nat) (x : RecV), l[i]? = some x → (recVC l)[i * 2]? = some (.int .i64 x.r.kind) ∧ (recVC l)[i * 2 + 1]? = some x.v
  | [], _, _, h => by simp at h
  | p :: r, 0, x, h => by
    have : p = x := by simpa using h
    subst this
    exact ⟨rfl, rfl⟩
  | p :: r, i + 1, x, h => by
    obtain ⟨h1, h2⟩ := recVC_get r i x (by simpa using h)
    show ([Value.int .i64 p.r.kind, p.v] ++ recVC r)[(i + 1) * 2]? = _ ∧ ([Value.int .i64 p.r.kind, p.v] ++ recVC r)[(i + 1) * 2 + 1]? = _
    rw [List.getElem?_append_right (by simp; omega), List.getElem?_append_right (by simp; omega)]
    simp only [List.length_cons, List.length_nil]
    rw [show (i + 1) * 2 - (0 + 1 + 1) = i * 2 by omega, show (i + 1) * 2 + 1 - (0 + 1 + 1) = i * 2 + 1 by omega]
    exact ⟨h1, h2⟩
/-- What holds while records are copied. -/
structure RecI (w W : World) (v : Value) (xs : List RecV) : Prop where
  own : W.ownsRow w.heap.size 29 2 v xs.length (recVC xs)
  bs : ∀ x ∈ xs, W.ownsRow w.heap.size 5 1 x.v x.r.body.length (u8s x.r.body) ∧ x.r.body.length ≤ 1099511627776
  keep : Below w.heap.size w W
theorem RecI.recs {w W : World} {A : Option Addr} {n c : Nat} {xs : List RecV} (h : RecI w W (.slice A n c) xs) : Recs W (fun _ => True) A (xs.map RecV.r) := by
  intro j hj
  have hj' : j < xs.length := by simpa using hj
  obtain ⟨x, hx⟩ : ∃ x, xs[j]? = some x := ⟨_, List.getElem?_eq_getElem hj'⟩
  have hxm := List.mem_of_getElem? hx
  have hxr : (xs.map RecV.r)[j] = x.r := by
    rw [List.getElem_map]
    have := List.getElem?_eq_getElem hj'
    rw [hx] at this
    rw [← Option.some.inj this]
  rw [hxr]
  obtain ⟨g, A1, c1, e1, _, hA, hc⟩ := own_cells h.own
  injection e1 with e1 _ _
  obtain ⟨hA, hg, _⟩ := hA (by omega)
  obtain ⟨hb, hbl⟩ := h.bs x hxm
  obtain ⟨A2, c2, e2, hle⟩ := own_slice_ hb
  obtain ⟨k0, k1⟩ := recVC_get xs j x hx
  have ha : (⟨g, 0, none⟩ : Addr).add (j * 2) = ⟨g, j * 2, none⟩ := by unfold Addr.add; split <;> simp_all
  refine ⟨⟨g, 0, none⟩, A2, c2, by rw [e1]; exact hA, hg, trivial, ?_, ?_, hle, hbl, ?_⟩
  · rw [ha]; exact hc _ _ k0
  · rw [ha]; show W.cell? ⟨g, j * 2 + 1, none⟩ = _; rw [← e2]; exact hc _ _ k1
  · rw [e2] at hb
    exact (Rd.of_own hb).more (fun _ _ _ => trivial)
theorem RecI.below {w W W' : World} {v : Value} {xs : List RecV} (h : RecI w W v xs) (hb : Below W.heap.size W W') : RecI w W' v xs :=
  ⟨own_keepB h.own (Keep.of_below (S := fun _ => False) hb) (Nat.le_refl _) (fun _ _ _ _ h => h), fun x hx => ⟨own_keepB (h.bs x hx).1 (Keep.of_below (S := fun _ => False) hb) (Nat.le_refl _) (fun _ _ _ _ h => h), (h.bs x hx).2⟩, h.keep.trans (hb.mono h.keep.size)⟩
theorem RecI.add {w W W1 : World} {v v' vs : Value} {xs : List RecV} {r : RecC} (h : RecI w W v xs) (hb : W.ownsRow w.heap.size 5 1 vs r.body.length (u8s r.body)) (hl : r.body.length ≤ 1099511627776)
    (hown : W1.ownsRow w.heap.size 29 2 v' (xs.length + 1) (recVC xs ++ [.int .i64 r.kind, vs])) (hg : W.grownBy W1 v.ownBlock) : RecI w W1 v' (xs ++ [⟨r, vs⟩]) := by
  have hk := Keep.of_row hg
  have hne : ∀ k cur, W.heap[k]? = some (.cells cur 5 (0, 0)) → w.heap.size ≤ k → ¬ v.ownBlock = some k := by
    intro k cur hc _ e
    obtain ⟨_, c2, h2⟩ := own_obj h.own e
    exact absurd (heap_ne hc h2) (by decide)
  refine ⟨?_, fun x hx => ?_, h.keep.grown hg h.keep.size (fun k e => (own_obj h.own e).1)⟩
  · have e : (xs ++ [(⟨r, vs⟩ : RecV)]).length = xs.length + 1 := by simp
    rw [e]
    simpa [recVC] using hown
  · rcases List.mem_append.1 hx with hx | hx
    · exact ⟨own_keepB (h.bs x hx).1 hk (Nat.le_refl _) hne, (h.bs x hx).2⟩
    · rw [List.mem_singleton] at hx
      subst hx
      exact ⟨own_keepB hb hk (Nat.le_refl _) hne, hl⟩
theorem rec_info : (Tryd.prog.info? 29).map (fun i => (i.zero, i.size, i.bytes)) = some (some (.agg #[.int .i64 0, .slice none 0 0]), 2, 32) := by kernel_rfl

set_option maxRecDepth 100000 in
set_option maxHeartbeats 2000000 in
theorem lrecords (A : Option Addr) (c : Nat) (l : List RecC) (T : Nat → Prop) (w : World) (hR : Recs w T A l) (hn : l.length ≤ 1099511627776) :
    Calls Tryd.prog 4 #[.slice A l.length c] w fun e w' => ∃ A' c' xs, e = .returned (.slice A' l.length c') ∧ RecI w w' (.slice A' l.length c') xs ∧ xs.map RecV.r = l := by
  have HR := Lib.hid hR
  clear hR
  have hI0 : RecI w w (.slice none 0 0) [] := ⟨⟨rfl, Or.inl ⟨rfl, rfl⟩⟩, (fun x hx => by cases hx), Below.refl _ _⟩
  go_enter Tryd.func4, Tryd.ntmps4
  go_wp2_with fail
  go_loopw [3, 4] (fun v3 i wr => ∃ (j : Nat) (v : Value) (xs : List RecV), j ≤ l.length ∧ i = .int .i64 j ∧ v = v3 ∧ RecI w wr v xs ∧ Hid (xs.map RecV.r = l.take j)) (fun _ i _ => l.length - (intOf i).toNat)
  case atStart => exact ⟨0, _, [], by omega, rfl, rfl, hI0, rfl⟩
  case round =>
    obtain ⟨j, v, xs, hj, rfl, rfl, hIr, HX⟩ := hrel
    clear hI0
    obtain ⟨Av, cv, hv, hlv⟩ := own_slice_ hIr.own
    subst hv
    by_cases hjl : j < l.length
    · have hxl : xs.length = j := by
        have h1 := congrArg List.length HX.out
        rw [List.length_map, List.length_take] at h1; omega
      have HXL := Lib.hid hxl
      clear hxl
      have hxl8 : xs.length ≤ 1099511627776 := by have := HXL.out; omega
      have hk := Keep.of_below (S := fun _ => False) hIr.keep
      have HRj : Hid (xs.map RecV.r ++ [l[j]] = l.take (j + 1)) := by show _ = _; rw [HX.out, List.take_succ_eq_append_getElem hjl]
      obtain ⟨ad, B, cb, hAe, had, _, k0, k1, hlc, hlb, hrd⟩ := (HR.out.keep hk (Nat.le_refl _) (fun _ _ h => h)) j hjl
      subst hAe
      generalize l[j] = r at *
      have hj1 : (0 : Int) ≤ j := by omega
      have hj2 : (j : Int) < l.length := by omega
      obtain ⟨i1, hi1, hz1, hz2, hz3⟩ := info_parts u8_info2
      obtain ⟨i2, hi2, hy1, hy2, hy3⟩ := info_parts rec_info
      have hown0 : (wr.alloc (.cells #[] 5)).drew.ownsRow wr.heap.size 5 1 (.slice (some ⟨wr.heap.size, 0, none⟩) 0 0) 0 [] := ⟨rfl, Or.inr ⟨wr.heap.size, 0, #[], rfl, Nat.le_refl _, heap_alloc_new wr _, Nat.le_refl _, by unfold maxLen; omega, rfl, rfl⟩⟩
      have k0a := cell_alloc k0 (.cells #[] 5)
      have k1a := cell_alloc k1 (.cells #[] 5)
      have hrda : Rd (wr.alloc (.cells #[] 5)).drew T 1 B r.body.length (u8s r.body) := hrd.alloc _
      have hza : wr.heap.size ≤ (wr.alloc (.cells #[] 5)).drew.heap.size := by show _ ≤ (wr.heap.push _).size; simp
      have H1 := Lib.hid (one_u8s r.body)
      clear hk hrd
      go_wp2_with fail
      go_region_law
        (first
          | (refine step_append_rd (by rfl) (.tmp 17) (.tmp 22) wr.heap.size 27 5 i1 (.int .u8 0) 1 1 (by rfl) Tryd.underlying27 hi1 hz1 hz2 hz3 (by rfl) (by omega) (.slice (some ⟨wr.heap.size, 0, none⟩) 0 0) 0 [] (by rfl) hown0 T B r.body.length cb (u8s r.body) (by rfl) hrda H1.out (by unfold maxLen; omega) (by omega) hza ?_
             intro vs w4 hown4 hg4 hob4
             rw [Nat.zero_add, List.nil_append] at hown4
             obtain ⟨A4, c4, rfl, hl4⟩ := own_slice_ hown4
             have hb4 : Below wr.heap.size wr w4 := ((Below.refl _ _).alloc (Nat.le_refl _) (.cells #[] 5)).drew.grown hg4 hza (fun k e => by simp [Value.ownBlock] at e; omega)
             have k04 : w4.cell? (ad.add (j * 2)) = some (.int .i64 r.kind) := ((Keep.of_below (S := fun _ => False) hb4).cell (p := ad.add (j * 2)) (World.block_lt_of_cell? _ _ k0) (fun h => h)).trans k0
             have hI4 := (hIr.below hb4).below ((Below.refl _ _).alloc (Nat.le_refl _) (.cells #[.int .i64 r.kind, .slice A4 r.body.length c4] 29))
             have hB4 : (w4.alloc (.cells #[.int .i64 r.kind, .slice A4 r.body.length c4] 29)).ownsRow w.heap.size 5 1 (.slice A4 r.body.length c4) r.body.length (u8s r.body) := own_keepB (own_lower_ hown4 hIr.keep.size) (S := fun _ => False) ((Keep.refl w4.heap.size _ _).alloc (Nat.le_refl _) _) (Nat.le_refl _) (fun _ _ _ _ h => h)
             have hz4 := hI4.keep.size)
          | (refine step_append_rd (by rfl) (.tmp 11) (.tmp 25) w.heap.size 22 29 i2 (.agg #[.int .i64 0, .slice none 0 0]) 2 32 (by rfl) Tryd.underlying22 hi2 hy1 hy2 hy3 (by rfl) (by omega) (.slice Av xs.length cv) xs.length (recVC xs) (by rfl) hI4.own (fun _ => True) (some ⟨w4.heap.size, 0, none⟩) 1 1 [.int .i64 r.kind, .slice A4 r.body.length c4] (by rfl) (rd_new w4 29 (fun _ => True) 2 1 [.int .i64 r.kind, .slice A4 r.body.length c4] rfl trivial) (by simp [Value.oneCell']) (by unfold maxLen; omega) (by omega) hz4 ?_
             intro v5 w5 hown5 hg5 hob5
             have hI5 := hI4.add (r := r) hB4 hlb hown5 hg5
             obtain ⟨A5, c5, rfl, hl5⟩ := own_slice_ hown5))
      all_goals have HI5 := Lib.hid hI5
      all_goals clear hI5 hI4 hown5 hg5 hob5 hB4 hz4 hb4 hown4 hg4 hob4
      all_goals go_wp2
      all_goals exact ⟨⟨j + 1, _, xs ++ [⟨r, .slice A4 r.body.length c4⟩], by omega, by go_num, rfl, HI5.out, by show _ = _; rw [List.map_append]; exact HRj.out⟩, by simp [intOf]; omega⟩
    · obtain rfl : j = l.length := by omega
      have HX2 : Hid (xs.map RecV.r = l) := by show _ = _; rw [HX.out, List.take_length]
      have hxl : xs.length = l.length := by have h1 := congrArg List.length HX2.out; rw [List.length_map] at h1; exact h1
      rw [hxl] at hIr
      have HI := Lib.hid hIr
      rw [hxl]
      clear hIr hxl hlv
      go_wp2
      go_ret
      exact ⟨_, _, xs, rfl, HI.out, HX2.out⟩
end Go.Proofs.YtjdageiphebfpaaDoor

namespace Go.Proofs.YtjdageiphebfpaaDoor
open Go.RowKit
open Pl Mem

set_option maxRecDepth 100000 in
theorem lpromise (A : Option Addr) (c : Nat) (l : List RecC) (T : Nat → Prop) (w : World) (hR : Recs w T A l) (hn : l.length ≤ 1099511627776) (e : Env w)
    (hnib : ∀ i : Nat, i < 16 → w.cell? ⟨0, i, none⟩ = some (.int .u32 (nib i).toNat)) :
    Calls Tryd.prog 3 #[.slice A l.length c] w fun e w' => e = .returned (.bool true) ∧ Below w.heap.size w w' := by
  have HR := Lib.hid hR
  have HE := Lib.hid e
  have HN := Lib.hid hnib
  have hsz := e.size
  clear hR hnib e
  go_enter Tryd.func3, Tryd.ntmps3
  go_wp2_with fail
  refine (lrecords A c l T w HR.out hn).mono ?_
  rintro e w1 ⟨A1, c1, xs, rfl, hI, hxs⟩
  have hb1 := hI.keep
  have hR1 : Recs w1 (fun _ => True) A1 l := by have := hI.recs; rw [hxs] at this; exact this
  have hE1 : Env w1 := HE.out.below hb1 hsz
  have hN1 : ∀ i : Nat, i < 16 → w1.cell? ⟨0, i, none⟩ = some (.int .u32 (nib i).toNat) := fun i hi => ((Keep.of_below (S := fun _ => False) hb1).cell (p := ⟨0, i, none⟩) (by show 0 < _; omega) (fun h => h)).trans (HN.out i hi)
  have HC := Lib.hid (cpromise A1 c1 l w1 hR1 hn hE1 hN1)
  have HR1 := Lib.hid hR1
  clear hI hxs hE1 hN1 hR1
  go_wp2_with fail
  refine HC.out.mono ?_
  rintro e w2 ⟨rfl, hb2⟩
  have hb12 : Below w.heap.size w w2 := hb1.trans (hb2.mono hb1.size)
  have hRn := HR.out.keep (Keep.of_below (S := fun _ => False) hb12) (Nat.le_refl _) (fun _ _ h => h)
  have hR2 := HR1.out.keep (Keep.of_below (S := fun _ => False) hb2) (Nat.le_refl _) (fun _ _ h => h)
  have HP := Lib.hid (npromise A c l w2 (fun j hj => by obtain ⟨ad, A', c', a1, a2, _, a4, a5, a6, a7, a8⟩ := hRn j hj; exact ⟨ad, A', c', a1, a2, trivial, a4, a5, a6, a7, a8.more (fun _ _ _ => trivial)⟩) hn)
  clear HC hb1 hb2
  go_wp2_with fail
  refine HP.out.mono ?_
  rintro e w3 ⟨rfl, hb3⟩
  have hb13 : Below w.heap.size w w3 := hb12.trans (hb3.mono hb12.size)
  have hR3 := hR2.keep (Keep.of_below (S := fun _ => False) hb3) (Nat.le_refl _) (fun _ _ h => h)
  have hRn3 := hRn.keep (Keep.of_below (S := fun _ => False) hb3) (Nat.le_refl _) (fun _ _ h => h)
  have HS := Lib.hid (lsame A1 A c1 c l _ _ w3 hR3 hRn3 hn)
  clear HP hb12 hb3 hR3 hRn3 hRn hR2
  go_wp2_with fail
  refine HS.out.mono ?_
  rintro e w4 ⟨rfl, hb4⟩
  have hb14 : Below w.heap.size w w4 := hb13.trans (hb4.mono hb13.size)
  clear HS hb4 hb13
  go_wp2
  go_ret
  exact ⟨rfl, hb14⟩
end Go.Proofs.YtjdageiphebfpaaDoor
