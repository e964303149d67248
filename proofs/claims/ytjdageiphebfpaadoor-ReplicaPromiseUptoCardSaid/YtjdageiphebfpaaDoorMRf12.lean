/- The reference's valid. -/
import Derived.Test.YtjdageiphebfpaaDoorMRf11
import Derived.Deep.QuietTactic
namespace Go.Proofs.YtjdageiphebfpaaDoor
open Go.RowKit
open Pl Mem

namespace Pl
open Go
def keyA (ps : List (Bytes × Bytes)) (i : Nat) : Bytes := (ps.getD i ([], [])).1
def zeroHk : Hk := ⟨[], 0, 0, []⟩
def hkA (hs : List Hk) (i : Nat) : Hk := hs.getD i zeroHk
def akA (al : List Ak) (q : Nat) : Ak := al.getD q zeroAk
def quA (q : List Int) (j : Nat) : Int := q.getD j 0
/-- Of the i-th lock: what a text may not say wrongly. -/
def lkOk (tok : Int) (hs : List Hk) (al : List Ak) (i : Nat) : Prop :=
  (0 < i → Op.bytesLess (hkA hs (i - 1)).name (hkA hs i).name = true) ∧ (hkA hs i).token ≤ tok ∧ (akA al (hkA hs i).holder.toNat).has = true ∧ (hkA hs i).holder ∉ (hkA hs i).queue ∧
  (∀ j, j < i → (hkA hs j).token ≠ (hkA hs i).token) ∧
  ∀ j, j < (hkA hs i).queue.length → (akA al (quA (hkA hs i).queue j).toNat).has = true ∧ ∀ l, l < j → quA (hkA hs i).queue l ≠ quA (hkA hs i).queue j
def validF (tok : Int) (ps : List (Bytes × Bytes)) (hs : List Hk) (al : List Ak) : Prop :=
  (∀ i, i + 1 < ps.length → Op.bytesLess (keyA ps i) (keyA ps (i + 1)) = true) ∧ (∀ i, i < hs.length → lkOk tok hs al i) ∧ ∀ q, q < 16 → ¬ ((akA al q).has = true ∧ (akA al q).s.code = 10)
end Pl

theorem quiet2 {P : Program} {f : FuncId} {args : Array Value} {w : World} {m k : Nat} {v : Value}
    (h : Calls P f args (w.drewN (m + k)) fun e w' => e = .returned v ∧ w' = w.drewN (m + k)) : Calls P f args (w.drewN (m + k)) fun e w'' => e = .returned v ∧ ∃ n, w'' = w.drewN (m + n) :=
  h.mono fun _ _ ⟨he, hm⟩ => ⟨he, k, hm⟩
theorem own_cells {w : World} {base : Nat} {e : TypeId} {size n : Nat} {v : Value} {xs : List Value} (h : w.ownsRow base e size v n xs) :
    ∃ g A c, v = .slice A n c ∧ n ≤ c ∧ (0 < n → A = some ⟨g, 0, none⟩ ∧ g < w.heap.size ∧ base ≤ g) ∧ ∀ j u, xs[j]? = some u → w.cell? ⟨g, j, none⟩ = some u := by
  have h0 := h
  rcases h.2 with ⟨rfl, rfl⟩ | ⟨g, cap, cur, rfl, hb, hg, hle, r⟩
  · refine ⟨0, none, 0, rfl, Nat.le_refl _, fun h => absurd h (by omega), fun j u hu => ?_⟩
    have : xs = [] := List.eq_nil_of_length_eq_zero (by have := h.1; simpa using this)
    subst this
    cases hu
  · refine ⟨g, _, cap, rfl, hle, fun _ => ⟨rfl, (Array.getElem?_eq_some_iff.1 hg).1, hb⟩, fun j u hu => ?_⟩
    have hR := Rd.of_own h0
    rcases Nat.eq_zero_or_pos n with hn | hn
    · have : xs = [] := List.eq_nil_of_length_eq_zero (by have := h0.1; rw [hn] at this; simpa using this)
      subst this
      cases hu
    · obtain ⟨ad, e1, _, _, hc⟩ := hR.2 hn
      have e2 : ad = ⟨g, 0, none⟩ := (Option.some.inj e1).symm
      subst e2
      have := hc j u hu
      rwa [show (⟨g, 0, none⟩ : Addr).add j = ⟨g, j, none⟩ from by unfold Addr.add; split <;> simp_all] at this
theorem pairC_get : ∀ (ps : List (Bytes × Bytes)) (i : Nat), i < ps.length → (pairC ps)[i * 2]? = some (.string ⟨(keyA ps i).toArray⟩)
  | [], _, h => by simp at h
  | p :: r, 0, _ => rfl
  | p :: r, i + 1, h => by
    have := pairC_get r i (by simpa using h)
    show ([str p.1, str p.2] ++ pairC r)[(i + 1) * 2]? = _
    rw [List.getElem?_append_right (by simp; omega)]
    simp only [List.length_cons, List.length_nil]
    rw [show (i + 1) * 2 - (0 + 1 + 1) = i * 2 by omega, this]
    rfl
theorem hksC_get : ∀ (hs : List HkV) (i j : Nat) (x : HkV), hs[i]? = some x → j < 4 → (hksC hs)[i * 4 + j]? = (hkC x)[j]?
  | [], _, _, _, h, _ => by simp at h
  | p :: r, 0, j, x, h, hj => by
    have : p = x := by simpa using h
    subst this
    show (hkC p ++ hksC r)[0 * 4 + j]? = _
    rw [List.getElem?_append_left (by simp [hkC]; omega)]
    simp
  | p :: r, i + 1, j, x, h, hj => by
    have := hksC_get r i j x (by simpa using h) hj
    show (hkC p ++ hksC r)[(i + 1) * 4 + j]? = _
    rw [List.getElem?_append_right (by simp [hkC]; omega)]
    rw [show (i + 1) * 4 + j - (hkC p).length = i * 4 + j by simp [hkC]; omega, this]

def LkIn (x : Hk) : Prop := (0 ≤ x.holder ∧ x.holder ≤ 15) ∧ (∀ y ∈ x.queue, (0 : Int) ≤ y ∧ y ≤ 15) ∧ x.queue.length ≤ 15
/-- A bool is handed back that tells P. -/
def Tells (P : Prop) (w : World) (e : Ending) (w' : World) : Prop := ∃ b, e = .returned (.bool b) ∧ (b = true ↔ P) ∧ Below w.heap.size w w'

set_option maxRecDepth 100000 in
set_option maxHeartbeats 4000000 in
theorem nvalid (M base : Nat) (tok : Int) (ps : List (Bytes × Bytes)) (hs : List HkV) (al : List Ak) (v1 v2 : Value) (w : World) (h : FMach w M base tok ps hs al v1 v2) (hps : ps.length ≤ 16) (hhs : hs.length ≤ 8) (hin : ∀ x ∈ hs, LkIn x.k) :
    Calls Tryd.prog 32 #[.pointer (some ⟨M, 0, none⟩)] w (Tells (validF tok ps (hs.map HkV.k) al) w) := by
  obtain ⟨g1, A1, cp1, rfl, hcp1, hA1, hc1⟩ := own_cells h.own1
  obtain ⟨g2, A2, cp2, rfl, hcp2, hA2, hc2⟩ := own_cells h.own2
  have c0 := h.c0
  have H := Lib.hid h
  clear h
  have HC1 := Lib.hid hc1
  have HC2 := Lib.hid hc2
  clear hc1 hc2
  go_enter Tryd.func32, Tryd.ntmps32
  go_wp2_with fail
  go_loopw [3] (fun i wr => ∃ q : Nat, q ≤ ps.length ∧ i = .int .i64 ((q : Int) + 1) ∧ (∃ m, wr = w.drewN m) ∧ Hid (∀ i, i < q → Op.bytesLess (keyA ps i) (keyA ps (i + 1)) = true)) (fun i _ => ps.length + 1 - (intOf i).toNat)
  case atStart => exact ⟨0, by omega, rfl, ⟨0, rfl⟩, fun i hi => absurd hi (by omega)⟩
  case round =>
    obtain ⟨q, hq, rfl, ⟨m, rfl⟩, HR⟩ := hrel
    by_cases hl : q + 1 < ps.length
    · obtain ⟨hA, _, _⟩ := hA1 (by omega)
      subst hA
      have k0 := HC1.out _ _ (pairC_get ps q (by omega))
      have k1 := HC1.out _ _ (pairC_get ps (q + 1) hl)
      have x1 : (0 : Int) ≤ (q : Int) := by omega
      have x2 : (0 : Int) ≤ (q : Int) + 1 := by omega
      have x3 : ((q : Int) + 1).toNat = q + 1 := by omega
      have x4 : (q : Int) < ps.length := by omega
      have x5 : (q : Int) + 1 < ps.length := by omega
      cases hb : Op.bytesLess (keyA ps q) (keyA ps (q + 1)) with
      | false =>
        have HF : Hid (¬ validF tok ps (hs.map HkV.k) al) := fun hv => by rw [hv.1 q hl] at hb; cases hb
        go_wp2_with fail
        go_quiet (fail)
        go_wp2
        go_ret
        exact ⟨false, rfl, by simpa using HF.out, below_drewN (below_drewN (Below.refl _ _) m) nq⟩
      | true =>
        have HN : Hid (∀ i, i < q + 1 → Op.bytesLess (keyA ps i) (keyA ps (i + 1)) = true) := fun i hi => by
          by_cases e : i = q
          · subst e; exact hb
          · exact HR.out i (by omega)
        go_wp2_with fail
        go_quiet (fail)
        go_wp2
        refine ⟨⟨q + 1, by omega, by go_num, ⟨m + nq, rfl⟩, HN⟩, by simp [intOf]; omega⟩
    · have HP : Hid (∀ i, i + 1 < ps.length → Op.bytesLess (keyA ps i) (keyA ps (i + 1)) = true) := fun i hi => HR.out i (by omega)
      clear HR
      have hbw : Below w.heap.size w (w.drewN m) := below_drewN (Below.refl _ _) m
      go_wp2_with fail
      clear c0
      generalize w.drewN m = w1 at hbw ⊢
      go_loopw [4] (fun i wr => ∃ q : Nat, q ≤ hs.length ∧ i = .int .i64 q ∧ Below w.heap.size w wr ∧ Hid (∀ i, i < q → lkOk tok (hs.map HkV.k) al i)) (fun i _ => hs.length - (intOf i).toNat)
      case atStart => exact ⟨0, by omega, rfl, hbw, fun i hi => absurd hi (by omega)⟩
      case round =>
        obtain ⟨wo, hwo⟩ : ∃ x, x = wr := ⟨_, rfl⟩
        subst hwo
        obtain ⟨q, hq, rfl, hbo, HR⟩ := hrel
        clear hbw
        have hm := H.out.keep (Keep.of_below (S := fun _ => False) hbo) (Nat.le_refl _) (fun h => h) (fun _ _ _ h => h)
        have c0 := hm.c0
        have c1 := hm.c1
        have c2 := hm.c2
        by_cases hl : q < hs.length
        · obtain ⟨hA, hg2, hg2b⟩ := hA2 (by omega)
          subst hA
          obtain ⟨x, hx⟩ : ∃ x, hs[q]? = some x := ⟨_, List.getElem?_eq_getElem hl⟩
          have hxm := List.mem_of_getElem? hx
          have hxi := hin x hxm
          have hxq := (hm.qs x hxm).1
          have HA : Hid (hkA (hs.map HkV.k) q = x.k) := by show _ = _; unfold hkA List.getD; rw [List.getElem?_map, hx]; rfl
          obtain ⟨⟨nm, ho, tk, qu⟩, v⟩ := x
          simp only [] at hxq hxi HA
          obtain ⟨A5, c5, rfl, hl5, _, hr5⟩ := hxq.rd
          obtain ⟨⟨hh0, hh15⟩, hqi, hql⟩ := hxi
          simp only [] at hh0 hh15 hqi hql
          obtain ⟨hn, rfl⟩ := Int.eq_ofNat_of_zero_le hh0
          have d0 : wo.cell? ⟨g2, q * 4, none⟩ = some (.string ⟨nm.toArray⟩) := (hbo.cell (p := ⟨g2, q * 4 + 0, none⟩) hg2).trans (HC2.out _ _ (hksC_get hs q 0 _ hx (by omega)))
          have d1 : wo.cell? ⟨g2, q * 4 + 1, none⟩ = some (.int .i64 hn) := (hbo.cell (p := ⟨g2, q * 4 + 1, none⟩) hg2).trans (HC2.out _ _ (hksC_get hs q 1 _ hx (by omega)))
          have d2 : wo.cell? ⟨g2, q * 4 + 2, none⟩ = some (.int .i64 tk) := (hbo.cell (p := ⟨g2, q * 4 + 2, none⟩) hg2).trans (HC2.out _ _ (hksC_get hs q 2 _ hx (by omega)))
          have d3 : wo.cell? ⟨g2, q * 4 + 3, none⟩ = some (.slice A5 qu.length c5) := (hbo.cell (p := ⟨g2, q * 4 + 3, none⟩) hg2).trans (HC2.out _ _ (hksC_get hs q 3 _ hx (by omega)))
          have hq4 : (q : Int) < hs.length := by omega
          go_wp2_with fail
          have hbW : Below w.heap.size w (wo.alloc (.cells #[.string ⟨nm.toArray⟩, .int .i64 hn, .int .i64 tk, .slice A5 qu.length c5] 111)) := hbo.alloc hbo.size _
          have hmW := hm.keep (S := fun _ => False) ((Keep.refl wo.heap.size _ _).alloc (Nat.le_refl _) (.cells #[.string ⟨nm.toArray⟩, .int .i64 hn, .int .i64 tk, .slice A5 qu.length c5] 111)) (Nat.le_refl _) (fun h => h) (fun _ _ _ h => h)
          have hrW := hr5.alloc (.cells #[.string ⟨nm.toArray⟩, .int .i64 hn, .int .i64 tk, .slice A5 qu.length c5] 111)
          have hBk := Blk.new wo 111 #[.string ⟨nm.toArray⟩, .int .i64 hn, .int .i64 tk, .slice A5 qu.length c5]
          have HPV : Hid (∀ y, 0 < q → hs[q - 1]? = some y → (wo.alloc (.cells #[.string ⟨nm.toArray⟩, .int .i64 hn, .int .i64 tk, .slice A5 qu.length c5] 111)).cell? ⟨g2, (q - 1) * 4, none⟩ = some (.string ⟨y.k.name.toArray⟩)) := fun y _ hy => (World.cell?_alloc_lt wo (.cells #[.string ⟨nm.toArray⟩, .int .i64 hn, .int .i64 tk, .slice A5 qu.length c5] 111) ⟨g2, (q - 1) * 4, none⟩ (by have := hbo.size; show g2 < _; omega)).trans ((hbo.cell (p := ⟨g2, (q - 1) * 4 + 0, none⟩) hg2).trans (HC2.out _ _ (hksC_get hs (q - 1) 0 _ hy (by omega))))
          have HTC : Hid (∀ j y, hs[j]? = some y → (wo.alloc (.cells #[.string ⟨nm.toArray⟩, .int .i64 hn, .int .i64 tk, .slice A5 qu.length c5] 111)).cell? ⟨g2, j * 4 + 2, none⟩ = some (.int .i64 y.k.token)) := fun j y hy => (World.cell?_alloc_lt wo (.cells #[.string ⟨nm.toArray⟩, .int .i64 hn, .int .i64 tk, .slice A5 qu.length c5] 111) ⟨g2, j * 4 + 2, none⟩ (by have := hbo.size; show g2 < _; omega)).trans ((hbo.cell (p := ⟨g2, j * 4 + 2, none⟩) hg2).trans (HC2.out _ _ (hksC_get hs j 2 _ hy (by omega))))
          clear c0 c1 c2 d0 d1 d2 d3 hr5 hm hbo hxq
          generalize wo.alloc (.cells #[.string ⟨nm.toArray⟩, .int .i64 hn, .int .i64 tk, .slice A5 qu.length c5] 111) = W at hbW hmW hrW hBk HPV HTC ⊢
          generalize wo.heap.size = kb at hBk ⊢
          have c1 := hmW.c1
          have c2 := hmW.c2
          have e0 : W.cell? ⟨kb, 0, none⟩ = some (.string ⟨nm.toArray⟩) := hBk.cell 0
          have e1 : W.cell? ⟨kb, 1, none⟩ = some (.int .i64 hn) := hBk.cell 1
          have e2 : W.cell? ⟨kb, 2, none⟩ = some (.int .i64 tk) := hBk.cell 2
          have e3 : W.cell? ⟨kb, 3, none⟩ = some (.slice A5 qu.length c5) := hBk.cell 3
          have hn15 : hn ≤ 15 := by omega
          obtain ⟨a, ha⟩ : ∃ a, al[hn]? = some a := ⟨_, List.getElem?_eq_getElem (by rw [hmW.len]; omega)⟩
          have HAk : Hid (akA al hn = a) := by show _ = _; unfold akA List.getD; rw [ha]; rfl
          have ea : W.cell? ⟨M, 3 + hn * 6, none⟩ = some (.bool a.has) := hmW.ak ha (j := 0) (by omega)
          have HHs := Lib.hid (show (a.has = a.has) from rfl)
          generalize hah : a.has = ah at ea
          have HAH := Lib.hid hah
          clear hah ha
          have hi16 : (hn : Int) < 16 := by omega
          have hqI : (0 : Int) ≤ q := by omega
          have HPL := Lib.hid fun k : Nat => nplace A5 qu.length c5 qu hn _ (W.drewN k) (hrW.drewN k) (by omega)
          have HPP := Lib.hid (placeQ_pos qu hn)
          generalize hpq : placeQ qu hn = pq at HPL HPP
          clear hpq
          have HNO : Hid (¬ lkOk tok (hs.map HkV.k) al q → ¬ validF tok ps (hs.map HkV.k) al) := fun hno hv => hno (hv.2.1 q (by rw [List.length_map]; exact hl))
          by_cases hq0 : 0 < q
          · obtain ⟨y, hy⟩ : ∃ y, hs[q - 1]? = some y := ⟨_, List.getElem?_eq_getElem (by omega)⟩
            have k0 := HPV.out y hq0 hy
            have HYA : Hid (hkA (hs.map HkV.k) (q - 1) = y.k) := by show _ = _; unfold hkA List.getD; rw [List.getElem?_map, hy]; rfl
            clear hy
            have hz : (0 : Int) < q := by omega
            have hz2 : (0 : Int) ≤ (q : Int) - 1 := by omega
            have hz3 : ((q : Int) - 1).toNat = q - 1 := by omega
            have hz4 : (q : Int) - 1 < hs.length := by omega
            cases hbl : Op.bytesLess y.k.name nm with
            | false =>
              have HF : Hid (¬ validF tok ps (hs.map HkV.k) al) := HNO.out (fun hlk => by
                obtain ⟨l1, l2, l3, l4, _, _⟩ := hlk
                rw [HA.out] at l1 l2 l3 l4
                simp only [Int.toNat_natCast] at l1 l2 l3 l4
                have := l1 hq0; rw [HYA.out] at this; rw [hbl] at this; cases this)
              skip
              go_quiet ((go_at_call 43; exact quiet1 (HPL.out _)))
              go_wp2
              go_ret
              exact ⟨false, rfl, by simpa using HF.out, below_drewN hbW nq⟩
            | true =>
              by_cases htk : tok < tk
              · have htk2 : decide (tok < tk) = true := by simpa using htk
                have HF : Hid (¬ validF tok ps (hs.map HkV.k) al) := HNO.out (fun hlk => by
                  obtain ⟨l1, l2, l3, l4, _, _⟩ := hlk
                  rw [HA.out] at l1 l2 l3 l4
                  simp only [Int.toNat_natCast] at l1 l2 l3 l4
                  omega)
                skip
                go_quiet ((go_at_call 43; exact quiet1 (HPL.out _)))
                go_wp2
                go_ret
                exact ⟨false, rfl, by simpa using HF.out, below_drewN hbW nq⟩
              · have htk2 : decide (tok < tk) = false := by simpa using htk
                have htk3 : tk ≤ tok := by omega
                cases ah with
                | false =>
                  have HF : Hid (¬ validF tok ps (hs.map HkV.k) al) := HNO.out (fun hlk => by
                    obtain ⟨l1, l2, l3, l4, _, _⟩ := hlk
                    rw [HA.out] at l1 l2 l3 l4
                    simp only [Int.toNat_natCast] at l1 l2 l3 l4
                    rw [HAk.out, HAH.out] at l3; cases l3)
                  skip
                  go_quiet ((go_at_call 43; exact quiet1 (HPL.out _)))
                  go_wp2
                  go_ret
                  exact ⟨false, rfl, by simpa using HF.out, below_drewN hbW nq⟩
                | true =>
                  by_cases hp0 : 0 < pq
                  · have hp1 : decide ((0 : Int) < pq) = true := by simp; omega
                    have HF : Hid (¬ validF tok ps (hs.map HkV.k) al) := HNO.out (fun hlk => by
                      obtain ⟨l1, l2, l3, l4, _, _⟩ := hlk
                      rw [HA.out] at l1 l2 l3 l4
                      simp only [Int.toNat_natCast] at l1 l2 l3 l4
                      exact l4 (HPP.out.1 hp0))
                    skip
                    go_quiet ((go_at_call 43; exact quiet1 (HPL.out _)))
                    go_wp2
                    go_ret
                    exact ⟨false, rfl, by simpa using HF.out, below_drewN hbW nq⟩
                  · obtain rfl : pq = 0 := by omega
                    have HG1 : Hid ((0 < q → Op.bytesLess (hkA (hs.map HkV.k) (q - 1)).name nm = true) ∧ tk ≤ tok ∧ (akA al hn).has = true ∧ (hn : Int) ∉ qu) := ⟨fun _ => by rw [HYA.out]; exact hbl, by omega, by rw [HAk.out]; exact HAH.out, fun hmem => by have := HPP.out.2 hmem; omega⟩
                    go_quiet ((go_at_call 43; exact quiet1 (HPL.out _)))
                    go_wp2_with fail
                    clear e0 e1 ea htk2 hz2
                    clear hz3 hz4 k0
                    go_loopw [6] (fun i wq => ∃ j : Nat, j ≤ q ∧ i = .int .i64 j ∧ (∃ m, wq = W.drewN m) ∧ Hid (∀ l, l < j → (hkA (hs.map HkV.k) l).token ≠ tk)) (fun i _ => q - (intOf i).toNat)
                    case atStart => exact ⟨0, by omega, rfl, ⟨nq, rfl⟩, fun i hi => absurd hi (by omega)⟩
                    case round =>
                      obtain ⟨j, hj, rfl, ⟨m3, rfl⟩, HJ⟩ := hrel
                      by_cases hjl : j < q
                      · obtain ⟨y3, hy3⟩ : ∃ y, hs[j]? = some y := ⟨_, List.getElem?_eq_getElem (by omega)⟩
                        have t3 := HTC.out j y3 hy3
                        have HY3 : Hid ((hkA (hs.map HkV.k) j).token = y3.k.token) := by show _ = _; unfold hkA List.getD; rw [List.getElem?_map, hy3]; rfl
                        clear hy3
                        generalize y3.k.token = tj at t3 HY3
                        have hj1 : (0 : Int) ≤ j := by omega
                        have hj2 : (j : Int) < hs.length := by omega
                        have hj3 : (j : Int) < q := by omega
                        by_cases he : tj = tk
                        · have he2 : (tj == tk) = true := by simpa using he
                          have HF : Hid (¬ validF tok ps (hs.map HkV.k) al) := HNO.out (fun hlk => by
                            have := hlk.2.2.2.2.1 j hjl
                            rw [HA.out, HY3.out] at this
                            exact this he)
                          clear he
                          go_wp2_with fail
                          go_quiet (fail)
                          go_wp2
                          go_ret
                          exact ⟨false, rfl, by simpa using HF.out, below_drewN (below_drewN hbW m3) _⟩
                        · have he2 : (tj == tk) = false := by simpa using he
                          have HN : Hid (∀ l, l < j + 1 → (hkA (hs.map HkV.k) l).token ≠ tk) := fun l hl => by
                            by_cases e : l = j
                            · subst e; rw [HY3.out]; exact he
                            · exact HJ.out l (by omega)
                          clear he
                          go_wp2_with fail
                          go_quiet (fail)
                          go_wp2
                          refine ⟨⟨j + 1, by omega, by go_num, ⟨m3 + nq, rfl⟩, HN⟩, by simp [intOf]; omega⟩
                      · obtain rfl : j = q := by omega
                        clear hjl hj
                        go_wp2_with fail
                        go_loopw [7] (fun i wq => ∃ l : Nat, l ≤ qu.length ∧ i = .int .i64 l ∧ (∃ m, wq = W.drewN m) ∧ Hid (∀ r, r < l → (akA al (quA qu r).toNat).has = true ∧ ∀ r', r' < r → quA qu r' ≠ quA qu r)) (fun i _ => qu.length - (intOf i).toNat)
                        case atStart => exact ⟨0, by omega, rfl, ⟨m3, rfl⟩, fun i hi => absurd hi (by omega)⟩
                        case round =>
                          obtain ⟨l, hll, rfl, ⟨m4, rfl⟩, HL⟩ := hrel
                          by_cases hlq : l < qu.length
                          · obtain ⟨ad, rfl, _, _, hcq⟩ := hrW.2 (by omega)
                            have hck := hcq l _ (ints_get hlq)
                            have HQA : Hid (quA qu l = qu[l]) := by show _ = _; unfold quA; simp [List.getD, hlq]
                            have hqb := hqi qu[l] (List.getElem_mem hlq)
                            have HQS : Hid (qu[l]? = some qu[l]) := List.getElem?_eq_getElem hlq
                            clear hcq
                            generalize qu[l] = z at hck HQA hqb HQS
                            obtain ⟨z, rfl⟩ := Int.eq_ofNat_of_zero_le hqb.1
                            have hz16 : (z : Int) < 16 := by omega
                            have hzI : (0 : Int) ≤ z := by omega
                            obtain ⟨az, haz⟩ : ∃ a, al[z]? = some a := ⟨_, List.getElem?_eq_getElem (by rw [hmW.len]; omega)⟩
                            have HAZ : Hid (akA al z = az) := by show _ = _; unfold akA List.getD; rw [haz]; rfl
                            have ez : W.cell? ⟨M, 3 + z * 6, none⟩ = some (.bool az.has) := hmW.ak haz (j := 0) (by omega)
                            generalize hzh : az.has = zh at ez
                            have HZH := Lib.hid hzh
                            clear hzh haz
                            have hll1 : (0 : Int) ≤ l := by omega
                            have hll2 : (l : Int) < qu.length := by omega
                            have HPZ := Lib.hid fun k : Nat => nplace (some ad) qu.length c5 qu z _ (W.drewN (m4 + k)) (hrW.drewN (m4 + k)) (by omega)
                            have HPS := Lib.hid (placeQ_self qu l z HQS.out)
                            have hpql := placeQ_lt qu z
                            generalize hpz : placeQ qu z = pz at HPZ HPS hpql
                            clear hpz
                            have hw1 : IntKind.i64.wrap ((l : Int) + 1) = (l : Int) + 1 := IntWalk.i64_in _ (by omega)
                            cases zh with
                            | false =>
                              have HF : Hid (¬ validF tok ps (hs.map HkV.k) al) := HNO.out (fun hlk => by
                                have := (hlk.2.2.2.2.2 l (by rw [HA.out]; exact hlq)).1
                                rw [HA.out] at this
                                simp only [] at this
                                rw [HQA.out, Int.toNat_natCast, HAZ.out, HZH.out] at this
                                cases this)
                              go_wp2_with fail
                              go_quiet ((go_at_call 43; exact quiet2 (HPZ.out _)))
                              go_wp2
                              go_ret
                              exact ⟨false, rfl, by simpa using HF.out, below_drewN (below_drewN hbW m4) _⟩
                            | true =>
                              by_cases hpe : pz = l + 1
                              · have hpe2 : ((pz : Int) != (l : Int) + 1) = false := by rw [hpe]; simp
                                have HN : Hid (∀ r, r < l + 1 → (akA al (quA qu r).toNat).has = true ∧ ∀ r', r' < r → quA qu r' ≠ quA qu r) := fun r hr => by
                                  by_cases e : r = l
                                  · subst e
                                    refine ⟨by rw [HQA.out, Int.toNat_natCast, HAZ.out]; exact HZH.out, fun r' hr' he => ?_⟩
                                    have h1 := HPS.out.1 hpe r' hr'
                                    rw [HQA.out] at he
                                    have h2 : r' < qu.length := by omega
                                    rw [List.getElem?_eq_getElem h2] at h1
                                    apply h1
                                    rw [← he]
                                    unfold quA
                                    simp [List.getD, h2]
                                  · exact HL.out r (by omega)
                                clear hpe
                                go_wp2_with fail
                                go_quiet ((go_at_call 43; exact quiet2 (HPZ.out _)))
                                go_wp2
                                refine ⟨⟨l + 1, by omega, by go_num, ⟨m4 + nq, rfl⟩, HN⟩, by simp [intOf]; omega⟩
                              · have hpe2 : ((pz : Int) != (l : Int) + 1) = true := by simp; omega
                                have HF : Hid (¬ validF tok ps (hs.map HkV.k) al) := HNO.out (fun hlk => by
                                  have h1 := (hlk.2.2.2.2.2 l (by rw [HA.out]; exact hlq)).2
                                  rw [HA.out] at h1
                                  simp only [] at h1
                                  refine hpe (HPS.out.2 fun r' hr' he => h1 r' hr' ?_)
                                  rw [HQA.out]
                                  unfold quA
                                  simp [List.getD, he])
                                clear hpe
                                go_wp2_with fail
                                go_quiet ((go_at_call 43; exact quiet2 (HPZ.out _)))
                                go_wp2
                                go_ret
                                exact ⟨false, rfl, by simpa using HF.out, below_drewN (below_drewN hbW m4) _⟩
                          · obtain rfl : l = qu.length := by omega
                            have HN : Hid (∀ i, i < j + 1 → lkOk tok (hs.map HkV.k) al i) := fun i hi => by
                              by_cases e : i = j
                              · subst e
                                obtain ⟨g1, g2, g3, g4⟩ := HG1.out
                                refine ⟨?_, ?_, ?_, ?_, ?_, ?_⟩
                                · rw [HA.out]; exact g1
                                · rw [HA.out]; exact g2
                                · rw [HA.out]; exact g3
                                · rw [HA.out]; exact g4
                                · rw [HA.out]; exact HJ.out
                                · rw [HA.out]; exact HL.out
                              · exact HR.out i (by omega)
                            go_wp2_with fail
                            refine ⟨⟨j + 1, by omega, by go_num, below_drewN hbW m4, HN⟩, by simp [intOf]; omega⟩
          · have hz : decide ((0 : Int) < q) = false := by simp; omega
            have hz2 : decide (0 < q) = false := by simpa using hq0
            by_cases htk : tok < tk
            · have htk2 : decide (tok < tk) = true := by simpa using htk
              have HF : Hid (¬ validF tok ps (hs.map HkV.k) al) := HNO.out (fun hlk => by
                obtain ⟨l1, l2, l3, l4, _, _⟩ := hlk
                rw [HA.out] at l1 l2 l3 l4
                simp only [Int.toNat_natCast] at l1 l2 l3 l4
                omega)
              skip
              go_quiet ((go_at_call 43; exact quiet1 (HPL.out _)))
              go_wp2
              go_ret
              exact ⟨false, rfl, by simpa using HF.out, below_drewN hbW nq⟩
            · have htk2 : decide (tok < tk) = false := by simpa using htk
              have htk3 : tk ≤ tok := by omega
              cases ah with
              | false =>
                have HF : Hid (¬ validF tok ps (hs.map HkV.k) al) := HNO.out (fun hlk => by
                  obtain ⟨l1, l2, l3, l4, _, _⟩ := hlk
                  rw [HA.out] at l1 l2 l3 l4
                  simp only [Int.toNat_natCast] at l1 l2 l3 l4
                  rw [HAk.out, HAH.out] at l3; cases l3)
                skip
                go_quiet ((go_at_call 43; exact quiet1 (HPL.out _)))
                go_wp2
                go_ret
                exact ⟨false, rfl, by simpa using HF.out, below_drewN hbW nq⟩
              | true =>
                by_cases hp0 : 0 < pq
                · have hp1 : decide ((0 : Int) < pq) = true := by simp; omega
                  have HF : Hid (¬ validF tok ps (hs.map HkV.k) al) := HNO.out (fun hlk => by
                    obtain ⟨l1, l2, l3, l4, _, _⟩ := hlk
                    rw [HA.out] at l1 l2 l3 l4
                    simp only [Int.toNat_natCast] at l1 l2 l3 l4
                    exact l4 (HPP.out.1 hp0))
                  skip
                  go_quiet ((go_at_call 43; exact quiet1 (HPL.out _)))
                  go_wp2
                  go_ret
                  exact ⟨false, rfl, by simpa using HF.out, below_drewN hbW nq⟩
                · obtain rfl : pq = 0 := by omega
                  have HG1 : Hid ((0 < q → Op.bytesLess (hkA (hs.map HkV.k) (q - 1)).name nm = true) ∧ tk ≤ tok ∧ (akA al hn).has = true ∧ (hn : Int) ∉ qu) := ⟨fun h => absurd h hq0, by omega, by rw [HAk.out]; exact HAH.out, fun hmem => by have := HPP.out.2 hmem; omega⟩
                  go_quiet ((go_at_call 43; exact quiet1 (HPL.out _)))
                  go_wp2_with fail
                  clear e0 e1 ea htk2 hz2
                  go_loopw [6] (fun i wq => ∃ j : Nat, j ≤ q ∧ i = .int .i64 j ∧ (∃ m, wq = W.drewN m) ∧ Hid (∀ l, l < j → (hkA (hs.map HkV.k) l).token ≠ tk)) (fun i _ => q - (intOf i).toNat)
                  case atStart => exact ⟨0, by omega, rfl, ⟨nq, rfl⟩, fun i hi => absurd hi (by omega)⟩
                  case round =>
                    obtain ⟨j, hj, rfl, ⟨m3, rfl⟩, HJ⟩ := hrel
                    by_cases hjl : j < q
                    · obtain ⟨y3, hy3⟩ : ∃ y, hs[j]? = some y := ⟨_, List.getElem?_eq_getElem (by omega)⟩
                      have t3 := HTC.out j y3 hy3
                      have HY3 : Hid ((hkA (hs.map HkV.k) j).token = y3.k.token) := by show _ = _; unfold hkA List.getD; rw [List.getElem?_map, hy3]; rfl
                      clear hy3
                      generalize y3.k.token = tj at t3 HY3
                      have hj1 : (0 : Int) ≤ j := by omega
                      have hj2 : (j : Int) < hs.length := by omega
                      have hj3 : (j : Int) < q := by omega
                      by_cases he : tj = tk
                      · have he2 : (tj == tk) = true := by simpa using he
                        have HF : Hid (¬ validF tok ps (hs.map HkV.k) al) := HNO.out (fun hlk => by
                          have := hlk.2.2.2.2.1 j hjl
                          rw [HA.out, HY3.out] at this
                          exact this he)
                        clear he
                        go_wp2_with fail
                        go_quiet (fail)
                        go_wp2
                        go_ret
                        exact ⟨false, rfl, by simpa using HF.out, below_drewN (below_drewN hbW m3) _⟩
                      · have he2 : (tj == tk) = false := by simpa using he
                        have HN : Hid (∀ l, l < j + 1 → (hkA (hs.map HkV.k) l).token ≠ tk) := fun l hl => by
                          by_cases e : l = j
                          · subst e; rw [HY3.out]; exact he
                          · exact HJ.out l (by omega)
                        clear he
                        go_wp2_with fail
                        go_quiet (fail)
                        go_wp2
                        refine ⟨⟨j + 1, by omega, by go_num, ⟨m3 + nq, rfl⟩, HN⟩, by simp [intOf]; omega⟩
                    · obtain rfl : j = q := by omega
                      clear hjl hj
                      go_wp2_with fail
                      go_loopw [7] (fun i wq => ∃ l : Nat, l ≤ qu.length ∧ i = .int .i64 l ∧ (∃ m, wq = W.drewN m) ∧ Hid (∀ r, r < l → (akA al (quA qu r).toNat).has = true ∧ ∀ r', r' < r → quA qu r' ≠ quA qu r)) (fun i _ => qu.length - (intOf i).toNat)
                      case atStart => exact ⟨0, by omega, rfl, ⟨m3, rfl⟩, fun i hi => absurd hi (by omega)⟩
                      case round =>
                        obtain ⟨l, hll, rfl, ⟨m4, rfl⟩, HL⟩ := hrel
                        by_cases hlq : l < qu.length
                        · obtain ⟨ad, rfl, _, _, hcq⟩ := hrW.2 (by omega)
                          have hck := hcq l _ (ints_get hlq)
                          have HQA : Hid (quA qu l = qu[l]) := by show _ = _; unfold quA; simp [List.getD, hlq]
                          have hqb := hqi qu[l] (List.getElem_mem hlq)
                          have HQS : Hid (qu[l]? = some qu[l]) := List.getElem?_eq_getElem hlq
                          clear hcq
                          generalize qu[l] = z at hck HQA hqb HQS
                          obtain ⟨z, rfl⟩ := Int.eq_ofNat_of_zero_le hqb.1
                          have hz16 : (z : Int) < 16 := by omega
                          have hzI : (0 : Int) ≤ z := by omega
                          obtain ⟨az, haz⟩ : ∃ a, al[z]? = some a := ⟨_, List.getElem?_eq_getElem (by rw [hmW.len]; omega)⟩
                          have HAZ : Hid (akA al z = az) := by show _ = _; unfold akA List.getD; rw [haz]; rfl
                          have ez : W.cell? ⟨M, 3 + z * 6, none⟩ = some (.bool az.has) := hmW.ak haz (j := 0) (by omega)
                          generalize hzh : az.has = zh at ez
                          have HZH := Lib.hid hzh
                          clear hzh haz
                          have hll1 : (0 : Int) ≤ l := by omega
                          have hll2 : (l : Int) < qu.length := by omega
                          have HPZ := Lib.hid fun k : Nat => nplace (some ad) qu.length c5 qu z _ (W.drewN (m4 + k)) (hrW.drewN (m4 + k)) (by omega)
                          have HPS := Lib.hid (placeQ_self qu l z HQS.out)
                          have hpql := placeQ_lt qu z
                          generalize hpz : placeQ qu z = pz at HPZ HPS hpql
                          clear hpz
                          have hw1 : IntKind.i64.wrap ((l : Int) + 1) = (l : Int) + 1 := IntWalk.i64_in _ (by omega)
                          cases zh with
                          | false =>
                            have HF : Hid (¬ validF tok ps (hs.map HkV.k) al) := HNO.out (fun hlk => by
                              have := (hlk.2.2.2.2.2 l (by rw [HA.out]; exact hlq)).1
                              rw [HA.out] at this
                              simp only [] at this
                              rw [HQA.out, Int.toNat_natCast, HAZ.out, HZH.out] at this
                              cases this)
                            go_wp2_with fail
                            go_quiet ((go_at_call 43; exact quiet2 (HPZ.out _)))
                            go_wp2
                            go_ret
                            exact ⟨false, rfl, by simpa using HF.out, below_drewN (below_drewN hbW m4) _⟩
                          | true =>
                            by_cases hpe : pz = l + 1
                            · have hpe2 : ((pz : Int) != (l : Int) + 1) = false := by rw [hpe]; simp
                              have HN : Hid (∀ r, r < l + 1 → (akA al (quA qu r).toNat).has = true ∧ ∀ r', r' < r → quA qu r' ≠ quA qu r) := fun r hr => by
                                by_cases e : r = l
                                · subst e
                                  refine ⟨by rw [HQA.out, Int.toNat_natCast, HAZ.out]; exact HZH.out, fun r' hr' he => ?_⟩
                                  have h1 := HPS.out.1 hpe r' hr'
                                  rw [HQA.out] at he
                                  have h2 : r' < qu.length := by omega
                                  rw [List.getElem?_eq_getElem h2] at h1
                                  apply h1
                                  rw [← he]
                                  unfold quA
                                  simp [List.getD, h2]
                                · exact HL.out r (by omega)
                              clear hpe
                              go_wp2_with fail
                              go_quiet ((go_at_call 43; exact quiet2 (HPZ.out _)))
                              go_wp2
                              refine ⟨⟨l + 1, by omega, by go_num, ⟨m4 + nq, rfl⟩, HN⟩, by simp [intOf]; omega⟩
                            · have hpe2 : ((pz : Int) != (l : Int) + 1) = true := by simp; omega
                              have HF : Hid (¬ validF tok ps (hs.map HkV.k) al) := HNO.out (fun hlk => by
                                have h1 := (hlk.2.2.2.2.2 l (by rw [HA.out]; exact hlq)).2
                                rw [HA.out] at h1
                                simp only [] at h1
                                refine hpe (HPS.out.2 fun r' hr' he => h1 r' hr' ?_)
                                rw [HQA.out]
                                unfold quA
                                simp [List.getD, he])
                              clear hpe
                              go_wp2_with fail
                              go_quiet ((go_at_call 43; exact quiet2 (HPZ.out _)))
                              go_wp2
                              go_ret
                              exact ⟨false, rfl, by simpa using HF.out, below_drewN (below_drewN hbW m4) _⟩
                        · obtain rfl : l = qu.length := by omega
                          have HN : Hid (∀ i, i < j + 1 → lkOk tok (hs.map HkV.k) al i) := fun i hi => by
                            by_cases e : i = j
                            · subst e
                              obtain ⟨g1, g2, g3, g4⟩ := HG1.out
                              refine ⟨?_, ?_, ?_, ?_, ?_, ?_⟩
                              · rw [HA.out]; exact g1
                              · rw [HA.out]; exact g2
                              · rw [HA.out]; exact g3
                              · rw [HA.out]; exact g4
                              · rw [HA.out]; exact HJ.out
                              · rw [HA.out]; exact HL.out
                            · exact HR.out i (by omega)
                          go_wp2_with fail
                          refine ⟨⟨j + 1, by omega, by go_num, below_drewN hbW m4, HN⟩, by simp [intOf]; omega⟩
        · obtain rfl : q = hs.length := by omega
          clear hl
          go_wp2_with fail
          go_loop [8] (fun i => ∃ j : Nat, j ≤ 16 ∧ i = .int .i64 j ∧ Hid (∀ l, l < j → ¬ ((akA al l).has = true ∧ (akA al l).s.code = 10))) (fun i => 16 - (intOf i).toNat)
          case atStart => exact ⟨0, by omega, rfl, fun i hi => absurd hi (by omega)⟩
          case round =>
            obtain ⟨j, hj, rfl, HJ⟩ := hrel
            by_cases hj16 : j < 16
            · obtain ⟨a, ha⟩ : ∃ a, al[j]? = some a := ⟨_, List.getElem?_eq_getElem (by rw [hm.len]; omega)⟩
              have HAk : Hid (akA al j = a) := by show _ = _; unfold akA List.getD; rw [ha]; rfl
              have e0 : wo.cell? ⟨M, 3 + j * 6, none⟩ = some (.bool a.has) := hm.ak ha (j := 0) (by omega)
              have e3 : wo.cell? ⟨M, 3 + j * 6 + 3, none⟩ = some (.int .i64 a.s.code) := hm.ak ha (j := 3) (by omega)
              clear ha
              have hj1 : (0 : Int) ≤ j := by omega
              have hj2 : (j : Int) < 16 := by omega
              generalize hac : a.s.code = ac at e3
              have HAC := Lib.hid hac
              clear hac
              generalize hah : a.has = ah at e0
              have HAH := Lib.hid hah
              clear hah
              cases ah with
              | false =>
                have HN : Hid (∀ l, l < j + 1 → ¬ ((akA al l).has = true ∧ (akA al l).s.code = 10)) := fun l hl => by
                  by_cases e : l = j
                  · subst e; rw [HAk.out, HAH.out]; intro h; cases h.1
                  · exact HJ.out l (by omega)
                go_wp2_with fail
                refine ⟨⟨j + 1, by omega, by go_num, HN⟩, by simp [intOf]; omega⟩
              | true =>
                by_cases h10 : ac = 10
                · have h10b : (ac == 10) = true := by simpa using h10
                  have HF : Hid (¬ validF tok ps (hs.map HkV.k) al) := fun hv => hv.2.2 j hj16 (by rw [HAk.out, HAH.out, HAC.out]; exact ⟨rfl, h10⟩)
                  clear h10
                  go_wp2_with fail
                  go_ret
                  exact ⟨false, rfl, by simpa using HF.out, hbo⟩
                · have h10b : (ac == 10) = false := by simpa using h10
                  have HN : Hid (∀ l, l < j + 1 → ¬ ((akA al l).has = true ∧ (akA al l).s.code = 10)) := fun l hl => by
                    by_cases e : l = j
                    · subst e; rw [HAk.out, HAC.out]; intro h; exact h10 h.2
                    · exact HJ.out l (by omega)
                  clear h10
                  go_wp2_with fail
                  refine ⟨⟨j + 1, by omega, by go_num, HN⟩, by simp [intOf]; omega⟩
            · obtain rfl : j = 16 := by omega
              have HF : Hid (validF tok ps (hs.map HkV.k) al) := ⟨HP.out, fun i hi => HR.out i (by rw [List.length_map] at hi; exact hi), HJ.out⟩
              go_wp2_with fail
              go_ret
              exact ⟨true, rfl, by simpa using HF.out, hbo⟩
end Go.Proofs.YtjdageiphebfpaaDoor
