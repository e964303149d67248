/- The two readers read alike; commands. Plain Lean. -/
import Derived.Test.YtjdageiphebfpaaDoorMRf
import Derived.Test.YtjdageiphebfpaaDoorMRf12
import Derived.Test.YtjdageiphebfpaaDoorMRest
import Derived.Test.YtjdageiphebfpaaDoorMRf13
import Derived.Test.YtjdageiphebfpaaDoorMRf14
import Derived.Test.YtjdageiphebfpaaDoorMProm
import Derived.Test.YtjdageiphebfpaaDoorMRf15
namespace Go.Proofs.YtjdageiphebfpaaDoor
namespace Pl
open Go

theorem mCount_good {b : Bytes} {most : Nat} {s : St} (h : (mCount b most s).2.bad = false) : s.bad = false ∧ ∃ v n, takeInt b s.p = .ok v n ∧ v ≤ most ∧ mCount b most s = (v, ⟨n, false⟩) := by
  unfold mCount at h ⊢
  cases ht : takeInt b s.p with
  | err e => rw [ht] at h; simp at h
  | ok v n =>
    rw [ht] at h
    simp only [] at h ⊢
    by_cases hc : s.bad = true ∨ most < v
    · rw [if_pos hc] at h; simp at h
    · rw [if_neg hc]
      refine ⟨?_, v, n, rfl, by omega, rfl⟩
      cases hb : s.bad with
      | false => rfl
      | true => exact absurd (Or.inl hb) hc
theorem mCount_of {b : Bytes} {most : Nat} {s : St} {v n : Nat} (h : s.bad = false) (ht : takeInt b s.p = .ok v n) (hv : v ≤ most) : mCount b most s = (v, ⟨n, false⟩) := by
  unfold mCount
  rw [ht]
  simp only []
  rw [if_neg (by rw [h]; simp; omega)]
theorem nNum_good {b : Bytes} {lo hi : Int} {s : St} (h : (nNum b lo hi s).2.bad = false) : s.bad = false ∧ ∃ v n, takeInt b s.p = .ok v n ∧ lo ≤ v ∧ (v : Int) ≤ hi ∧ nNum b lo hi s = (v, ⟨n, false⟩) := by
  unfold nNum at h ⊢
  by_cases hb : s.bad = true
  · rw [if_pos hb] at h; simp only [] at h; rw [hb] at h; cases h
  · rw [if_neg hb] at h ⊢
    cases ht : takeInt b s.p with
    | err e => rw [ht] at h; simp at h
    | ok v n =>
      rw [ht] at h
      simp only [] at h ⊢
      by_cases hc : lo ≤ v ∧ (v : Int) ≤ hi
      · rw [if_pos hc]
        exact ⟨by simpa using hb, v, n, rfl, hc.1, hc.2, rfl⟩
      · rw [if_neg hc] at h; simp at h
theorem nNum_of {b : Bytes} {lo hi : Int} {s : St} {v n : Nat} (h : s.bad = false) (ht : takeInt b s.p = .ok v n) (hl : lo ≤ v) (hh : (v : Int) ≤ hi) : nNum b lo hi s = (v, ⟨n, false⟩) := by
  unfold nNum
  rw [if_neg (by rw [h]; simp), ht]
  simp only []
  rw [if_pos ⟨hl, hh⟩]
/-- What the program reads well, and lies in the bounds, the reference reads. -/
theorem num_pr {b : Bytes} {most : Nat} {lo hi : Int} {s : St} (h : (mCount b most s).2.bad = false) (hl : lo ≤ ((mCount b most s).1 : Int)) (hh : ((mCount b most s).1 : Int) ≤ hi) : nNum b lo hi s = mCount b most s := by
  obtain ⟨h1, v, n, ht, _, he⟩ := mCount_good h
  rw [he] at hl hh ⊢
  exact nNum_of h1 ht hl hh
theorem num_rp {b : Bytes} {most : Nat} {lo hi : Int} {s : St} (h : (nNum b lo hi s).2.bad = false) (hm : hi ≤ most) : mCount b most s = nNum b lo hi s ∧ lo ≤ ((nNum b lo hi s).1 : Int) ∧ ((nNum b lo hi s).1 : Int) ≤ hi := by
  obtain ⟨h1, v, n, ht, hl, hh, he⟩ := nNum_good h
  rw [he]
  exact ⟨mCount_of h1 ht (by omega), hl, hh⟩
theorem mCount_in {b : Bytes} {most : Nat} {s : St} (h : (mCount b most s).2.bad = false) : s.bad = false := (mCount_good h).1
theorem nNum_in {b : Bytes} {lo hi : Int} {s : St} (h : (nNum b lo hi s).2.bad = false) : s.bad = false := (nNum_good h).1

theorem mText_good {b : Bytes} {most : Nat} {s : St} (h : (mText b most s).2.bad = false) : (mCount b most s).2.bad = false ∧ (mCount b most s).2.p + (mCount b most s).1 ≤ b.length ∧ mText b most s = ((b.drop (mCount b most s).2.p).take (mCount b most s).1, ⟨(mCount b most s).2.p + (mCount b most s).1, false⟩) ∧ (mText b most s).1.length = (mCount b most s).1 := by
  have hm : (mCount b most s).2.bad = false := by
    cases hb : (mCount b most s).2.bad with
    | false => rfl
    | true =>
      unfold mText at h
      simp only [] at h
      rw [if_pos (Or.inl hb)] at h
      simp at h
  obtain ⟨_, v, n, ht, _, he⟩ := mCount_good hm
  have hn := (takeInt_ok ht).2.2
  unfold mText at h ⊢
  simp only [] at h ⊢
  rw [he] at h hm ⊢
  simp only [] at h ⊢
  by_cases hc : false = true ∨ b.length - n < v
  · rw [if_pos hc] at h; simp at h
  · rw [if_neg hc]
    have : ¬ b.length - n < v := fun h => hc (Or.inr h)
    refine ⟨by trivial, by omega, rfl, ?_⟩
    simp only [List.length_take, List.length_drop]; omega
theorem nBytes_good {b : Bytes} {lo hi : Int} {s : St} (h : (nBytes b lo hi s).2.bad = false) : (nNum b lo hi s).2.bad = false ∧ (nNum b lo hi s).2.p + (nNum b lo hi s).1 ≤ b.length ∧ nBytes b lo hi s = ((b.drop (nNum b lo hi s).2.p).take (nNum b lo hi s).1, ⟨(nNum b lo hi s).2.p + (nNum b lo hi s).1, false⟩) ∧ (nBytes b lo hi s).1.length = (nNum b lo hi s).1 := by
  have hm : (nNum b lo hi s).2.bad = false := by
    cases hb : (nNum b lo hi s).2.bad with
    | false => rfl
    | true =>
      unfold nBytes at h
      rw [if_pos hb] at h
      simp only [] at h
      rw [hb] at h
      cases h
  unfold nBytes at h ⊢
  rw [if_neg (by rw [hm]; simp)] at h ⊢
  by_cases hc : b.length < (nNum b lo hi s).2.p + (nNum b lo hi s).1
  · rw [if_pos hc] at h; simp at h
  · rw [if_neg hc]
    refine ⟨hm, by omega, rfl, ?_⟩
    simp only [List.length_take, List.length_drop]; omega
theorem text_pr {b : Bytes} {most : Nat} {lo hi : Int} {s : St} (h : (mText b most s).2.bad = false) (hl : lo ≤ ((mText b most s).1.length : Int)) (hh : ((mText b most s).1.length : Int) ≤ hi) : nBytes b lo hi s = mText b most s := by
  obtain ⟨h1, h2, h3, h4⟩ := mText_good h
  rw [h4] at hl hh
  have e := num_pr h1 hl hh
  rw [h3]
  unfold nBytes
  rw [e, if_neg (by rw [h1]; simp), if_neg (by omega)]
theorem text_rp {b : Bytes} {most : Nat} {lo hi : Int} {s : St} (h : (nBytes b lo hi s).2.bad = false) (hm : hi ≤ most) : mText b most s = nBytes b lo hi s ∧ lo ≤ ((nBytes b lo hi s).1.length : Int) ∧ ((nBytes b lo hi s).1.length : Int) ≤ hi := by
  obtain ⟨h1, h2, h3, h4⟩ := nBytes_good h
  obtain ⟨e, hl, hh⟩ := num_rp h1 hm
  rw [← h4] at hl hh
  refine ⟨?_, hl, hh⟩
  rw [h3]
  unfold mText
  simp only []
  rw [e]
  rw [if_neg (by rw [h1]; simp; omega)]
theorem mText_in {b : Bytes} {most : Nat} {s : St} (h : (mText b most s).2.bad = false) : s.bad = false := mCount_in (mText_good h).1
theorem nBytes_in {b : Bytes} {lo hi : Int} {s : St} (h : (nBytes b lo hi s).2.bad = false) : s.bad = false := nNum_in (nBytes_good h).1
theorem mText_8 {b : Bytes} {s : St} (h : (mText b 8 s).2.bad = false) : nBytes b 0 8 s = mText b 8 s :=
  text_pr h (by omega) (by have := mText_le b 8 s; omega)

/-! ### commands -/
theorem dec_pr (b : Bytes) (h : decOk b = true) : eOk b = true ∧ eCmd b = decCmd b := by
  unfold decOk soundC at h
  simp only [Bool.and_eq_true, Bool.not_eq_true', decide_eq_true_eq] at h
  obtain ⟨⟨h7, hp⟩, hv⟩ := h
  have h6 := mText_in h7
  have h5 := mText_in h6
  have h4 := mText_in h5
  have h3 := mCount_in h4
  have h2 := mCount_in h3
  have h1 := mCount_in h2
  have hr : rangeC (decCmd b) = true := by unfold validC at hv; simp only [Bool.and_eq_true] at hv; exact hv.1
  unfold rangeC at hr
  obtain ⟨r1, r2, r3, r4, r5, r6, r7, r8⟩ := of_decide_eq_true hr
  have e1 : eC1 b = dC1 b := num_pr h1 r1 (by have := r2; show ((dC1 b).1 : Int) ≤ 15; simp only [decCmd] at this; omega)
  have e2 : eC2 b = dC2 b := by unfold eC2; rw [e1]; exact num_pr h2 r3 r4
  have e3 : eC3 b = dC3 b := by unfold eC3; rw [e2]; exact num_pr h3 r5 r6
  have e4 : eC4 b = dC4 b := by unfold eC4; rw [e3]; exact num_pr h4 r7 r8
  have e5 : eT1 b = dT1 b := by unfold eT1 nText; rw [e4]; exact mText_8 h5
  have e6 : eT2 b = dT2 b := by unfold eT2 nText; rw [e5]; exact mText_8 h6
  have e7 : eT3 b = dT3 b := by unfold eT3 nText; rw [e6]; exact mText_8 h7
  have ec : eCmd b = decCmd b := by unfold eCmd decCmd; rw [e1, e2, e3, e4, e5, e6, e7]
  refine ⟨?_, ec⟩
  unfold eOk eE nEnd
  rw [ec, hv, e7, h7, hp]
  simp
theorem dec_rp (b : Bytes) (h : eOk b = true) : decOk b = true ∧ eCmd b = decCmd b := by
  unfold eOk eE nEnd at h
  simp only [Bool.and_eq_true, Bool.not_eq_true', Bool.or_eq_false_iff, decide_eq_false_iff_not, Decidable.not_not] at h
  obtain ⟨⟨h7, hp⟩, hv⟩ := h
  have h6 := nBytes_in h7
  have h5 := nBytes_in h6
  have h4 := nBytes_in h5
  have h3 := nNum_in h4
  have h2 := nNum_in h3
  have h1 := nNum_in h2
  have e1 : dC1 b = eC1 b := (num_rp h1 (by decide)).1
  have e2 : dC2 b = eC2 b := by unfold dC2; rw [e1]; exact (num_rp h2 (by decide)).1
  have e3 : dC3 b = eC3 b := by unfold dC3; rw [e2]; exact (num_rp h3 (by decide)).1
  have e4 : dC4 b = eC4 b := by unfold dC4; rw [e3]; exact (num_rp h4 (by decide)).1
  have e5 : dT1 b = eT1 b := by unfold dT1; rw [e4]; exact (text_rp h5 (by decide)).1
  have e6 : dT2 b = eT2 b := by unfold dT2; rw [e5]; exact (text_rp h6 (by decide)).1
  have e7 : dT3 b = eT3 b := by unfold dT3; rw [e6]; exact (text_rp h7 (by decide)).1
  have ec : eCmd b = decCmd b := by unfold eCmd decCmd; rw [e1, e2, e3, e4, e5, e6, e7]
  refine ⟨?_, ec⟩
  unfold decOk soundC
  rw [← ec, hv, e7, h7, hp]
  simp
theorem eOk_eq (b : Bytes) : eOk b = decOk b := by
  rw [Bool.eq_iff_iff]
  exact ⟨fun h => (dec_rp b h).1, fun h => (dec_pr b h).1⟩
theorem eV_eq (b : Bytes) : eV b = decV b := by
  unfold eV decV
  rw [eOk_eq]
  by_cases h : decOk b = true
  · rw [if_pos h, if_pos h, (dec_pr b h).2]
  · rw [if_neg h, if_neg h]
end Pl
end Go.Proofs.YtjdageiphebfpaaDoor

namespace Go.Proofs.YtjdageiphebfpaaDoor
namespace Pl
open Go

theorem bl_irr : ∀ a : Bytes, Op.bytesLess a a = false
  | [] => rfl
  | c :: r => by simp [Op.bytesLess, bl_irr r]
theorem bl_trans : ∀ a b c : Bytes, Op.bytesLess a b = true → Op.bytesLess b c = true → Op.bytesLess a c = true
  | _, b, [], _, h => by cases b <;> simp [Op.bytesLess] at h
  | a, [], _ :: _, h, _ => by cases a <;> simp [Op.bytesLess] at h
  | [], _ :: _, _ :: _, _, _ => rfl
  | x :: a, y :: b, z :: c, h, k => by
    simp only [Op.bytesLess, Bool.or_eq_true, Bool.and_eq_true, decide_eq_true_eq, beq_iff_eq] at h k ⊢
    rcases h with h | ⟨rfl, h⟩
    · rcases k with k | ⟨rfl, k⟩
      · exact Or.inl (UInt8.lt_trans h k)
      · exact Or.inl h
    · rcases k with k | ⟨rfl, k⟩
      · exact Or.inl k
      · exact Or.inr ⟨rfl, bl_trans a b c h k⟩
theorem bl_tri : ∀ a b : Bytes, ble a b = false → Op.bytesLess b a = true
  | [], [], h => by simp [ble] at h
  | [], _ :: _, h => by simp [ble, Op.bytesLess] at h
  | _ :: _, [], _ => rfl
  | x :: a, y :: b, h => by
    unfold ble at h
    simp only [Op.bytesLess, Bool.or_eq_false_iff, Bool.and_eq_false_iff, decide_eq_false_iff_not, beq_eq_false_iff_ne, ne_eq, List.cons.injEq, not_and] at h
    simp only [Op.bytesLess, Bool.or_eq_true, Bool.and_eq_true, decide_eq_true_eq, beq_iff_eq]
    obtain ⟨⟨h1, h2⟩, h3⟩ := h
    by_cases e : x = y
    · subst e
      refine Or.inr ⟨rfl, bl_tri a b ?_⟩
      unfold ble
      simp only [Bool.or_eq_false_iff, beq_eq_false_iff_ne, ne_eq]
      refine ⟨?_, h3 rfl⟩
      rcases h2 with h2 | h2
      · exact absurd rfl h2
      · simpa using h2
    · left
      have h1' : ¬ x.toNat < y.toNat := h1
      have h4 : x.toNat ≠ y.toNat := fun h => e (UInt8.toNat.inj h)
      show y.toNat < x.toNat
      omega
theorem ble_false {a b : Bytes} : ble a b = false ↔ Op.bytesLess b a = true := by
  refine ⟨bl_tri a b, fun h => ?_⟩
  unfold ble
  rw [Bool.or_eq_false_iff]
  constructor
  · cases hx : Op.bytesLess a b with
    | false => rfl
    | true => have := bl_trans _ _ _ h hx; rw [bl_irr] at this; cases this
  · rw [beq_eq_false_iff_ne]
    rintro rfl
    rw [bl_irr] at h
    cases h
theorem bl_nil (a : Bytes) : Op.bytesLess [] a = true ↔ 1 ≤ a.length := by
  cases a with
  | nil => simp [Op.bytesLess]
  | cons c r => simp [Op.bytesLess]

theorem gd_l {α : Type} (l l' : List α) (d : α) (i : Nat) (h : i < l.length) : (l ++ l').getD i d = l.getD i d := by
  simp [List.getD, List.getElem?_append_left h]
theorem gd_r {α : Type} (l l' : List α) (d : α) (i : Nat) (h : l.length ≤ i) : (l ++ l').getD i d = l'.getD (i - l.length) d := by
  simp [List.getD, List.getElem?_append_right h]

/-! ### a list of names that rises -/
def Ris (l : List Bytes) : Prop := ∀ i, i + 1 < l.length → Op.bytesLess (l.getD i []) (l.getD (i + 1) []) = true
theorem Ris_snoc (l : List Bytes) (x : Bytes) : Ris (l ++ [x]) ↔ Ris l ∧ (l ≠ [] → Op.bytesLess (l.getD (l.length - 1) []) x = true) := by
  constructor
  · intro h
    refine ⟨fun i hi => ?_, fun hne => ?_⟩
    · have := h i (by simp; omega)
      rw [gd_l _ _ _ _ (by omega), gd_l _ _ _ _ (by omega)] at this
      exact this
    · have hl : 0 < l.length := List.length_pos_iff.2 hne
      have := h (l.length - 1) (by simp; omega)
      rw [gd_l _ _ _ _ (by omega), show l.length - 1 + 1 = l.length by omega, gd_r _ _ _ _ (Nat.le_refl _), Nat.sub_self] at this
      exact this
  · rintro ⟨h1, h2⟩ i hi
    simp only [List.length_append, List.length_singleton] at hi
    by_cases e : i + 1 < l.length
    · rw [gd_l _ _ _ _ (by omega), gd_l _ _ _ _ (by omega)]
      exact h1 i e
    · have hi' : i + 1 = l.length := by omega
      have hne : l ≠ [] := by rintro rfl; simp at hi'
      rw [gd_l _ _ _ _ (by omega), hi', gd_r _ _ _ _ (Nat.le_refl _), Nat.sub_self]
      have := h2 hne
      rw [show l.length - 1 = i by omega] at this
      exact this
def lastN (l : List Bytes) : Bytes := l.getD (l.length - 1) []
theorem lastN_snoc (l : List Bytes) (x : Bytes) : lastN (l ++ [x]) = x := by
  unfold lastN
  rw [gd_r _ _ _ _ (by simp)]
  simp
/-- Behind names that rise, the last one not below the others. -/
def Up (l : List Bytes) : Prop := ∀ x ∈ l, x = lastN l ∨ Op.bytesLess x (lastN l) = true
theorem Up_snoc {l : List Bytes} {x : Bytes} (h : Up l) (hl : l ≠ [] → Op.bytesLess (lastN l) x = true) : Up (l ++ [x]) := by
  intro y hy
  rw [lastN_snoc]
  rcases List.mem_append.1 hy with hy | hy
  · right
    have hne : l ≠ [] := by rintro rfl; cases hy
    rcases h y hy with rfl | h1
    · exact hl hne
    · exact bl_trans _ _ _ h1 (hl hne)
  · left; simpa using hy
theorem Up_new {l : List Bytes} {x : Bytes} (h : Up l) (hl : l ≠ [] → Op.bytesLess (lastN l) x = true) : ∀ y ∈ l, y ≠ x := by
  rintro y hy rfl
  have hne : l ≠ [] := by rintro rfl; cases hy
  have h1 := hl hne
  rcases h y hy with h2 | h2
  · rw [← h2, bl_irr] at h1; cases h1
  · have := bl_trans _ _ _ h1 h2; rw [bl_irr] at this; cases this
theorem aput_new {V : Type} {L : List (Bytes × V)} {k : Bytes} {v : V} (h : ∀ y ∈ L.map (·.1), y ≠ k) : aput L k v = L ++ [(k, v)] := by
  unfold aput
  rw [aget_none.2 (fun p hp => h p.1 (List.mem_map_of_mem hp))]
  rfl
/-- The program's test of one name more: not above the last one. -/
theorem new_name {l : List Bytes} {x : Bytes} {last : Bytes} (hlast : last = lastN l) (hne : ∀ y ∈ l, 1 ≤ y.length) : ble x last = false ↔ 1 ≤ x.length ∧ (l ≠ [] → Op.bytesLess (lastN l) x = true) := by
  subst hlast
  rw [ble_false]
  constructor
  · intro h
    refine ⟨?_, fun _ => h⟩
    rw [← bl_nil]
    by_cases e : lastN l = []
    · rw [e] at h; exact h
    · have : Op.bytesLess [] (lastN l) = true := (bl_nil _).2 (by cases hx : lastN l with | nil => exact absurd hx e | cons c r => simp)
      exact bl_trans _ _ _ this h
  · rintro ⟨h1, h2⟩
    by_cases e : l = []
    · subst e
      exact (bl_nil _).2 h1
    · exact h2 e

/-! ### pairs -/
structure PEq (x : PSt) (y : FP) : Prop where
  st : x.st = y.st
  L : x.L = y.ps
  last : x.last = lastN (y.ps.map (·.1))
  len : ∀ k ∈ y.ps.map (·.1), 1 ≤ k.length
  up : Up (y.ps.map (·.1))
theorem pIter_in (b : Bytes) (q : Nat) (x : PSt) (h : (pIter b q x).st.bad = false) : x.st.bad = false := by
  induction q with
  | zero => exact h
  | succ q ih =>
    simp only [pIter, pStep, Bool.or_eq_false_iff] at h
    exact ih (mText_in (mText_in h.1))
theorem fpIter_in (b : Bytes) (q : Nat) (x : FP) (h : (fpIter b q x).st.bad = false) : x.st.bad = false := by
  induction q with
  | zero => exact h
  | succ q ih =>
    simp only [fpIter, fpStep] at h
    exact ih (nBytes_in (nBytes_in h))
theorem pairs_eq (b : Bytes) (s : St) : ∀ q : Nat, ((pIter b q ⟨s, [], []⟩).st.bad = false ↔ (fpIter b q ⟨s, []⟩).st.bad = false ∧ Ris ((fpIter b q ⟨s, []⟩).ps.map (·.1))) ∧ ((pIter b q ⟨s, [], []⟩).st.bad = false → PEq (pIter b q ⟨s, [], []⟩) (fpIter b q ⟨s, []⟩)) := by
  intro q
  induction q with
  | zero =>
    refine ⟨⟨fun h => ⟨h, fun i hi => by simp [fpIter] at hi⟩, fun h => h.1⟩, fun _ => ⟨rfl, rfl, rfl, by simp [fpIter], by intro x hx; simp [fpIter] at hx⟩⟩
  | succ q ih =>
    obtain ⟨ih1, ih2⟩ := ih
    show ((pStep b (pIter b q ⟨s, [], []⟩)).st.bad = false ↔ (fpStep b (fpIter b q ⟨s, []⟩)).st.bad = false ∧ Ris ((fpStep b (fpIter b q ⟨s, []⟩)).ps.map (·.1))) ∧ ((pStep b (pIter b q ⟨s, [], []⟩)).st.bad = false → PEq (pStep b (pIter b q ⟨s, [], []⟩)) (fpStep b (fpIter b q ⟨s, []⟩)))
    generalize pIter b q ⟨s, [], []⟩ = x at ih1 ih2 ⊢
    generalize fpIter b q ⟨s, []⟩ = y at ih1 ih2 ⊢
    have key : (pStep b x).st.bad = false → ((fpStep b y).st.bad = false ∧ Ris ((fpStep b y).ps.map (·.1))) ∧ PEq (pStep b x) (fpStep b y) := by
      intro h
      simp only [pStep, Bool.or_eq_false_iff] at h
      obtain ⟨hv, hb⟩ := h
      have hk := mText_in hv
      have hx := mText_in hk
      have hP := ih2 hx
      obtain ⟨_, hris⟩ := ih1.1 hx
      obtain ⟨h1, h2⟩ := (new_name hP.last hP.len).1 hb
      have ek : fpK b y = mText b 8 x.st := by unfold fpK; rw [← hP.st]; exact text_pr hk (by omega) (by have := mText_le b 8 x.st; omega)
      have ev : fpV b y = mText b 8 (mText b 8 x.st).2 := by unfold fpV nText; rw [ek]; exact mText_8 hv
      have eps : (fpStep b y).ps.map (·.1) = y.ps.map (·.1) ++ [(mText b 8 x.st).1] := by simp [fpStep, ek]
      have hR : Ris ((fpStep b y).ps.map (·.1)) := by rw [eps, Ris_snoc]; exact ⟨hris, h2⟩
      refine ⟨⟨?_, hR⟩, ⟨?_, ?_, ?_, ?_, ?_⟩⟩
      · simp only [fpStep, ev]; exact hv
      · simp only [pStep, fpStep, ev, hb, Bool.or_false]
      · simp only [pStep, fpStep, ek, ev]
        rw [hP.L]
        exact aput_new (Up_new hP.up h2)
      · rw [eps, lastN_snoc]; rfl
      · rw [eps]
        intro k hk
        rcases List.mem_append.1 hk with hk | hk
        · exact hP.len k hk
        · have : k = (mText b 8 x.st).1 := by simpa using hk
          rw [this]; exact h1
      · rw [eps]; exact Up_snoc hP.up h2
    refine ⟨⟨fun h => (key h).1, ?_⟩, fun h => (key h).2⟩
    rintro ⟨hv, hR⟩
    simp only [fpStep] at hv
    have hk := nBytes_in hv
    have hy := nBytes_in hk
    have eps : (fpStep b y).ps.map (·.1) = y.ps.map (·.1) ++ [(fpK b y).1] := by simp [fpStep]
    rw [eps, Ris_snoc] at hR
    have hx := ih1.2 ⟨hy, hR.1⟩
    have hP := ih2 hx
    obtain ⟨ek, hk1, _⟩ := text_rp hk (show (8 : Int) ≤ (8 : Nat) by omega)
    have ek' : mText b 8 x.st = fpK b y := by rw [hP.st]; exact ek
    obtain ⟨ev, _, _⟩ := text_rp hv (show (8 : Int) ≤ (8 : Nat) by omega)
    have ev' : mText b 8 (mText b 8 x.st).2 = fpV b y := by rw [ek']; exact ev
    simp only [pStep, Bool.or_eq_false_iff]
    rw [ev']
    refine ⟨hv, ?_⟩
    rw [ek']
    exact (new_name hP.last hP.len).2 ⟨by have := hk1; simp only [fpK] at this ⊢; omega, hR.2⟩

/-! ### a queue -/
def QG (h : Int) (q : List Int) : Prop := h ∉ q ∧ ∀ j, j < q.length → ∀ l, l < j → quA q l ≠ quA q j
theorem QG_snoc (h : Int) (q : List Int) (v : Int) : QG h (q ++ [v]) ↔ QG h q ∧ v ∉ h :: q := by
  unfold QG
  constructor
  · rintro ⟨h1, h2⟩
    refine ⟨⟨fun hm => h1 (List.mem_append_left _ hm), fun j hj l hl => ?_⟩, ?_⟩
    · have := h2 j (by simp; omega) l hl
      unfold quA at this ⊢
      rw [gd_l _ _ _ _ (by omega), gd_l _ _ _ _ (by omega)] at this
      exact this
    · intro hm
      rcases List.mem_cons.1 hm with rfl | hm
      · exact h1 (by simp)
      · obtain ⟨l, hl, e⟩ := List.getElem_of_mem hm
        have := h2 q.length (by simp) l hl
        unfold quA at this
        rw [gd_l _ _ _ _ hl, gd_r _ _ _ _ (Nat.le_refl _)] at this
        apply this
        simp [List.getD, hl, e]
  · rintro ⟨⟨h1, h2⟩, h3⟩
    refine ⟨?_, fun j hj l hl => ?_⟩
    · intro hm
      rcases List.mem_append.1 hm with hm | hm
      · exact h1 hm
      · have : h = v := by simpa using hm
        exact h3 (by rw [this]; simp)
    · simp only [List.length_append, List.length_singleton] at hj
      unfold quA
      by_cases e : j < q.length
      · rw [gd_l _ _ _ _ (by omega), gd_l _ _ _ _ (by omega)]
        exact h2 j e l hl
      · have : j = q.length := by omega
        subst this
        rw [gd_l _ _ _ _ hl, gd_r _ _ _ _ (Nat.le_refl _), Nat.sub_self]
        intro e2
        apply h3
        have h5 : q.getD l 0 = q[l] := by simp [List.getD, hl]
        rw [h5] at e2
        have : v = q[l] := e2.symm
        rw [this]
        exact List.mem_cons_of_mem _ (List.getElem_mem hl)
theorem qIter_in (b : Bytes) (h : Int) (q : Nat) (x : QSt) (hb : (qIter b h q x).st.bad = false) : x.st.bad = false := by
  induction q with
  | zero => exact hb
  | succ q ih =>
    simp only [qIter, qStep, Bool.or_eq_false_iff] at hb
    exact ih (mCount_in hb.1)
theorem fqIter_in' (b : Bytes) (q : Nat) (x : FQ) (hb : (fqIter b q x).st.bad = false) : x.st.bad = false := by
  induction q with
  | zero => exact hb
  | succ q ih =>
    simp only [fqIter, fqStep] at hb
    exact ih (nNum_in hb)
theorem queue_eq (b : Bytes) (h : Int) (s : St) : ∀ q : Nat, ((qIter b h q ⟨s, []⟩).st.bad = false ↔ (fqIter b q ⟨s, []⟩).st.bad = false ∧ QG h (fqIter b q ⟨s, []⟩).q) ∧ ((qIter b h q ⟨s, []⟩).st.bad = false → (qIter b h q ⟨s, []⟩).st = (fqIter b q ⟨s, []⟩).st ∧ (qIter b h q ⟨s, []⟩).q = (fqIter b q ⟨s, []⟩).q) := by
  intro q
  induction q with
  | zero => exact ⟨⟨fun hb => ⟨hb, by simp [QG, fqIter]⟩, fun hb => hb.1⟩, fun _ => ⟨rfl, rfl⟩⟩
  | succ q ih =>
    obtain ⟨ih1, ih2⟩ := ih
    show ((qStep b h (qIter b h q ⟨s, []⟩)).st.bad = false ↔ (fqStep b (fqIter b q ⟨s, []⟩)).st.bad = false ∧ QG h (fqStep b (fqIter b q ⟨s, []⟩)).q) ∧ ((qStep b h (qIter b h q ⟨s, []⟩)).st.bad = false → (qStep b h (qIter b h q ⟨s, []⟩)).st = (fqStep b (fqIter b q ⟨s, []⟩)).st ∧ (qStep b h (qIter b h q ⟨s, []⟩)).q = (fqStep b (fqIter b q ⟨s, []⟩)).q)
    generalize qIter b h q ⟨s, []⟩ = x at ih1 ih2 ⊢
    generalize fqIter b q ⟨s, []⟩ = y at ih1 ih2 ⊢
    have key : (qStep b h x).st.bad = false → ((fqStep b y).st.bad = false ∧ QG h (fqStep b y).q) ∧ (qStep b h x).st = (fqStep b y).st ∧ (qStep b h x).q = (fqStep b y).q := by
      intro hb
      simp only [qStep, Bool.or_eq_false_iff] at hb
      obtain ⟨hc, hm⟩ := hb
      have hx := mCount_in hc
      obtain ⟨e1, e2⟩ := ih2 hx
      have hG := (ih1.1 hx).2
      have en : nNum b 0 15 y.st = mCount b 15 x.st := by rw [← e1]; exact num_pr hc (by omega) (by have := mCount_le b 15 x.st; omega)
      simp only [fqStep, qStep, en, hm, Bool.or_false]
      refine ⟨⟨by first | exact hc | trivial, ?_⟩, by first | rfl | trivial, by rw [e2]⟩
      rw [QG_snoc]
      refine ⟨hG, ?_⟩
      rw [← e2]
      simpa using hm
    refine ⟨⟨fun hb => (key hb).1, ?_⟩, fun hb => (key hb).2⟩
    rintro ⟨hc, hG⟩
    simp only [fqStep] at hc hG
    rw [QG_snoc] at hG
    have hy := nNum_in hc
    have hx := ih1.2 ⟨hy, hG.1⟩
    obtain ⟨e1, e2⟩ := ih2 hx
    obtain ⟨en, _, _⟩ := num_rp hc (show (15 : Int) ≤ (15 : Nat) by omega)
    have en' : mCount b 15 x.st = nNum b 0 15 y.st := by rw [e1]; exact en
    simp only [qStep, Bool.or_eq_false_iff, en']
    refine ⟨hc, ?_⟩
    rw [e2]
    simpa using hG.2
end Pl
end Go.Proofs.YtjdageiphebfpaaDoor

namespace Go.Proofs.YtjdageiphebfpaaDoor
namespace Pl
open Go

theorem num_rp' {b : Bytes} {most : Nat} {lo hi : Int} {s : St} (h : (nNum b lo hi s).2.bad = false) (hm : (nNum b lo hi s).1 ≤ most) : mCount b most s = nNum b lo hi s := by
  obtain ⟨h1, v, n, ht, hl, hh, he⟩ := nNum_good h
  rw [he] at hm ⊢
  exact mCount_of h1 ht hm

def TD (q : List Int) : Prop := ∀ j, j < q.length → ∀ l, l < j → quA q l ≠ quA q j
theorem TD_snoc (q : List Int) (v : Int) : TD (q ++ [v]) ↔ TD q ∧ v ∉ q := by
  unfold TD
  constructor
  · intro h2
    refine ⟨fun j hj l hl => ?_, fun hm => ?_⟩
    · have := h2 j (by simp; omega) l hl
      unfold quA at this ⊢
      rw [gd_l _ _ _ _ (by omega), gd_l _ _ _ _ (by omega)] at this
      exact this
    · obtain ⟨l, hl, e⟩ := List.getElem_of_mem hm
      have := h2 q.length (by simp) l hl
      unfold quA at this
      rw [gd_l _ _ _ _ hl, gd_r _ _ _ _ (Nat.le_refl _)] at this
      apply this
      simp [List.getD, hl, e]
  · rintro ⟨h2, h3⟩ j hj l hl
    simp only [List.length_append, List.length_singleton] at hj
    unfold quA
    by_cases e : j < q.length
    · rw [gd_l _ _ _ _ (by omega), gd_l _ _ _ _ (by omega)]
      exact h2 j e l hl
    · have : j = q.length := by omega
      subst this
      rw [gd_l _ _ _ _ hl, gd_r _ _ _ _ (Nat.le_refl _), Nat.sub_self]
      intro e2
      apply h3
      have h5 : q.getD l 0 = q[l] := by simp [List.getD, hl]
      rw [h5] at e2
      have : v = q[l] := e2.symm
      rw [this]
      exact List.getElem_mem hl

def toLk (k : Hk) : Lk := ⟨k.holder, k.token, k.queue⟩
/-- What the locks' list may not say wrongly, the sessions left aside. -/
def LG (tok : Int) (hs : List Hk) : Prop := Ris (hs.map (·.name)) ∧ (∀ k ∈ hs, k.token ≤ tok ∧ QG k.holder k.queue) ∧ TD (hs.map (·.token))
structure LEq (x : LSt) (y : FL) : Prop where
  st : x.st = y.st
  L : x.L = y.hs.map fun k => (k.name, toLk k)
  last : x.last = lastN (y.hs.map (·.name))
  toks : x.toks = y.hs.map (·.token)
  len : ∀ k ∈ y.hs.map (·.name), 1 ≤ k.length
  up : Up (y.hs.map (·.name))
theorem lIter_in (b : Bytes) (tok q : Nat) (x : LSt) (h : (lIter b tok q x).st.bad = false) : x.st.bad = false := by
  induction q with
  | zero => exact h
  | succ q ih =>
    simp only [lIter, lStep, Bool.or_eq_false_iff] at h
    exact ih (mText_in (mCount_in (mCount_in (mCount_in (qIter_in b _ _ _ h.1)))))
theorem flIter_in (b : Bytes) (q : Nat) (x : FL) (h : (flIter b q x).st.bad = false) : x.st.bad = false := by
  induction q with
  | zero => exact h
  | succ q ih =>
    simp only [flIter, flStep] at h
    exact ih (nBytes_in (nNum_in (nNum_in (nNum_in (fqIter_in' b _ _ h)))))
theorem locks_eq (b : Bytes) (tok : Nat) (htok : tok ≤ 99999999) (s : St) : ∀ q : Nat, ((lIter b tok q ⟨s, [], [], []⟩).st.bad = false ↔ (flIter b q ⟨s, []⟩).st.bad = false ∧ LG tok (flIter b q ⟨s, []⟩).hs) ∧ ((lIter b tok q ⟨s, [], [], []⟩).st.bad = false → LEq (lIter b tok q ⟨s, [], [], []⟩) (flIter b q ⟨s, []⟩)) := by
  intro q
  induction q with
  | zero =>
    refine ⟨⟨fun h => ⟨h, fun i hi => by simp [flIter] at hi, by simp [flIter], fun j hj => by simp [flIter] at hj⟩, fun h => h.1⟩, fun _ => ⟨rfl, rfl, rfl, rfl, by simp [flIter], by intro x hx; simp [flIter] at hx⟩⟩
  | succ q ih =>
    obtain ⟨ih1, ih2⟩ := ih
    show ((lStep b tok (lIter b tok q ⟨s, [], [], []⟩)).st.bad = false ↔ (flStep b (flIter b q ⟨s, []⟩)).st.bad = false ∧ LG tok (flStep b (flIter b q ⟨s, []⟩)).hs) ∧ ((lStep b tok (lIter b tok q ⟨s, [], [], []⟩)).st.bad = false → LEq (lStep b tok (lIter b tok q ⟨s, [], [], []⟩)) (flStep b (flIter b q ⟨s, []⟩)))
    generalize lIter b tok q ⟨s, [], [], []⟩ = x at ih1 ih2 ⊢
    generalize flIter b q ⟨s, []⟩ = y at ih1 ih2 ⊢
    have key : (lStep b tok x).st.bad = false → ((flStep b y).st.bad = false ∧ LG tok (flStep b y).hs) ∧ LEq (lStep b tok x) (flStep b y) := by
      intro h
      simp only [lStep, Bool.or_eq_false_iff] at h
      obtain ⟨hq, hbad⟩ := h
      unfold lBad at hbad
      simp only [Bool.or_eq_false_iff, decide_eq_false_iff_not] at hbad
      obtain ⟨⟨hb, ht0⟩, htn⟩ := hbad
      have hc := qIter_in b _ _ _ hq
      have ht := mCount_in hc
      have hh := mCount_in ht
      have hn := mCount_in hh
      have hx := mText_in hn
      have hP := ih2 hx
      obtain ⟨_, hris, hall, htd⟩ := ih1.1 hx
      obtain ⟨h1, h2⟩ := (new_name hP.last hP.len).1 hb
      have en : flName b y.st = lName b x := by unfold flName; rw [← hP.st]; exact text_pr hn (by show (1 : Int) ≤ ((lName b x).1.length : Int); omega) (by have := mText_le b 8 x.st; show ((mText b 8 x.st).1.length : Int) ≤ 8; omega)
      have eh : flHold b y.st = lHold b x := by unfold flHold; rw [en]; exact num_pr hh (by omega) (by have h15 : (mCount b 15 (lName b x).2).1 ≤ 15 := mCount_le b 15 (lName b x).2; show ((mCount b 15 (lName b x).2).1 : Int) ≤ 15; omega)
      have et : flTok b y.st = lTok b tok x := by
        unfold flTok; rw [eh]
        have htl : (lTok b tok x).1 ≤ tok := mCount_le b tok (lHold b x).2
        exact num_pr ht (by show (1 : Int) ≤ ((lTok b tok x).1 : Int); omega) (by show ((lTok b tok x).1 : Int) ≤ 99999999; omega)
      have ec : flCnt b y.st = lCnt b tok x := by unfold flCnt; rw [et]; exact num_pr hc (by omega) (by have h15 : (mCount b 15 (lTok b tok x).2).1 ≤ 15 := mCount_le b 15 (lTok b tok x).2; show ((mCount b 15 (lTok b tok x).2).1 : Int) ≤ 15; omega)
      obtain ⟨q1, q2⟩ := queue_eq b (lHold b x).1 (lCnt b tok x).2 (lCnt b tok x).1
      obtain ⟨hfq, hQG⟩ := q1.1 hq
      obtain ⟨eq1, eq2⟩ := q2 hq
      have eQ : flQ b y.st = fqIter b (lCnt b tok x).1 ⟨(lCnt b tok x).2, []⟩ := by unfold flQ; rw [ec]
      have eq1' : (lQ b tok x).st = (flQ b y.st).st := by rw [eQ]; exact eq1
      have eq2' : (lQ b tok x).q = (flQ b y.st).q := by rw [eQ]; exact eq2
      have eps : (flStep b y).hs.map (·.name) = y.hs.map (·.name) ++ [(lName b x).1] := by simp [flStep, flHk, en]
      have etk : (flStep b y).hs.map (·.token) = y.hs.map (·.token) ++ [((lTok b tok x).1 : Int)] := by simp [flStep, flHk, et]
      have hR : Ris ((flStep b y).hs.map (·.name)) := by rw [eps, Ris_snoc]; exact ⟨hris, h2⟩
      refine ⟨⟨?_, hR, ?_, ?_⟩, ⟨?_, ?_, ?_, ?_, ?_, ?_⟩⟩
      · simp only [flStep]
        rw [eQ]; exact hfq
      · intro k hk
        simp only [flStep] at hk
        rcases List.mem_append.1 hk with hk | hk
        · exact hall k hk
        · have : k = flHk b y.st := by simpa using hk
          rw [this]
          refine ⟨?_, ?_⟩
          · show ((flTok b y.st).1 : Int) ≤ tok
            rw [et]
            have := mCount_le b tok (lHold b x).2
            unfold lTok
            omega
          · show QG (flHold b y.st).1 (flQ b y.st).q
            rw [eh, eQ]; exact hQG
      · rw [etk, TD_snoc]
        refine ⟨htd, ?_⟩
        rw [← hP.toks]
        exact htn
      · simp only [lStep, flStep]
        rw [← eq1']
        have : lBad b tok x = false := by unfold lBad; simp [hb, htn]; omega
        rw [this, Bool.or_false]
      · simp only [lStep, flStep, List.map_append, List.map_cons, List.map_nil]
        rw [hP.L, aput_new (by rw [List.map_map]; exact Up_new hP.up h2)]
        show _ ++ [_] = _ ++ [((flHk b y.st).name, toLk (flHk b y.st))]
        congr 2
        unfold flHk toLk
        simp only []
        rw [en, eh, et, eq2']
      · rw [eps, lastN_snoc]; rfl
      · rw [etk]
        simp only [lStep]
        rw [hP.toks]
      · rw [eps]
        intro k hk
        rcases List.mem_append.1 hk with hk | hk
        · exact hP.len k hk
        · have : k = (lName b x).1 := by simpa using hk
          rw [this]; exact h1
      · rw [eps]; exact Up_snoc hP.up h2
    refine ⟨⟨fun h => (key h).1, ?_⟩, fun h => (key h).2⟩
    rintro ⟨hq, hR, hall, htd⟩
    simp only [flStep] at hq
    have hc := fqIter_in' b _ _ hq
    have ht := nNum_in hc
    have hh := nNum_in ht
    have hn := nNum_in hh
    have hy := nBytes_in hn
    have eps : (flStep b y).hs.map (·.name) = y.hs.map (·.name) ++ [(flName b y.st).1] := by simp [flStep, flHk]
    have etk : (flStep b y).hs.map (·.token) = y.hs.map (·.token) ++ [((flTok b y.st).1 : Int)] := by simp [flStep, flHk]
    rw [eps, Ris_snoc] at hR
    rw [etk, TD_snoc] at htd
    have hk := hall (flHk b y.st) (by simp [flStep])
    have hx := ih1.2 ⟨hy, hR.1, fun k hk => hall k (by simp [flStep, hk]), htd.1⟩
    have hP := ih2 hx
    obtain ⟨en, hn1, _⟩ := text_rp hn (show (8 : Int) ≤ (8 : Nat) by omega)
    have en' : lName b x = flName b y.st := by unfold lName; rw [hP.st]; exact en
    obtain ⟨eh, _, _⟩ := num_rp hh (show (15 : Int) ≤ (15 : Nat) by omega)
    have eh' : lHold b x = flHold b y.st := by unfold lHold; rw [en']; exact eh
    have htk : (flTok b y.st).1 ≤ tok := by have := hk.1; have h2 : (flHk b y.st).token = ((flTok b y.st).1 : Int) := rfl; omega
    have et' : lTok b tok x = flTok b y.st := by unfold lTok; rw [eh']; exact num_rp' ht htk
    have ht1 : (1 : Int) ≤ ((flTok b y.st).1 : Int) := (num_rp ht (show (99999999 : Int) ≤ (99999999 : Nat) by omega)).2.1
    obtain ⟨ec, _, _⟩ := num_rp hc (show (15 : Int) ≤ (15 : Nat) by omega)
    have ec' : lCnt b tok x = flCnt b y.st := by unfold lCnt; rw [et']; exact ec
    obtain ⟨q1, q2⟩ := queue_eq b (flHold b y.st).1 (flCnt b y.st).2 (flCnt b y.st).1
    have hqq := q1.2 ⟨hq, hk.2⟩
    simp only [lStep, Bool.or_eq_false_iff]
    refine ⟨by unfold lQ; rw [eh', ec']; exact hqq, ?_⟩
    unfold lBad
    rw [en', et']
    simp only [Bool.or_eq_false_iff, decide_eq_false_iff_not]
    refine ⟨⟨(new_name hP.last hP.len).2 ⟨by have := hn1; simp only [flName] at this ⊢; omega, hR.2⟩, by omega⟩, ?_⟩
    rw [hP.toks]
    exact htd.2

/-! ### sessions -/
def NC (al : List Ak) : Prop := ∀ q, q < 16 → ¬ ((akA al q).has = true ∧ (akA al q).s.code = 10)
structure SEq (x : SSt) (y : FS) : Prop where
  st : x.st = y.st
  last : x.last = (y.next : Int) - 1
  next : y.next ≤ 16
  ss : x.ss = y.al.map (·.s)
  zero : ∀ i, y.next ≤ i → (akA y.al i).has = false
  has : ∀ a ∈ y.al, a.has = decide (a.s.inc ≠ 0)
  len : y.al.length = 16
theorem sIter_in (b : Bytes) (q : Nat) (x : SSt) (h : (sIter b q x).st.bad = false) : x.st.bad = false := by
  induction q with
  | zero => exact h
  | succ q ih =>
    simp only [sIter, sStep, Bool.or_eq_false_iff] at h
    exact ih (mCount_in (mCount_in (mCount_in (mCount_in (mText_in (mCount_in h.1))))))
theorem fsIter_in (b : Bytes) (q : Nat) (x : FS) (h : (fsIter b q x).st.bad = false) : x.st.bad = false := by
  induction q with
  | zero => exact h
  | succ q ih =>
    simp only [fsIter, fsStep] at h
    exact ih (nNum_in (nNum_in (nNum_in (nNum_in (nBytes_in (nNum_in h))))))
theorem akA_set (al : List Ak) (i j : Nat) (a : Ak) (h : i < al.length) : akA (al.set i a) j = if j = i then a else akA al j := by
  unfold akA List.getD
  rw [List.getElem?_set]
  by_cases e : i = j
  · subst e; simp [h]
  · rw [if_neg e, if_neg (fun x => e x.symm)]
theorem ak_rep (i : Nat) : akA (List.replicate 16 zeroAk) i = zeroAk := by
  unfold akA List.getD
  rw [List.getElem?_replicate]
  split <;> rfl
theorem fs_zero (b : Bytes) (s : St) : ∀ q : Nat, (fsIter b q ⟨s, 0, List.replicate 16 zeroAk⟩).st.bad = false → ∀ i, (fsIter b q ⟨s, 0, List.replicate 16 zeroAk⟩).next ≤ i → (akA (fsIter b q ⟨s, 0, List.replicate 16 zeroAk⟩).al i).has = false := by
  intro q
  induction q with
  | zero => intro _ i _; simp only [fsIter]; rw [ak_rep]; rfl
  | succ q ih =>
    show (fsStep b (fsIter b q ⟨s, 0, List.replicate 16 zeroAk⟩)).st.bad = false → ∀ i, (fsStep b (fsIter b q ⟨s, 0, List.replicate 16 zeroAk⟩)).next ≤ i → (akA (fsStep b (fsIter b q ⟨s, 0, List.replicate 16 zeroAk⟩)).al i).has = false
    have hlen := fsIter_len b q ⟨s, 0, List.replicate 16 zeroAk⟩
    rw [List.length_replicate] at hlen
    generalize fsIter b q ⟨s, 0, List.replicate 16 zeroAk⟩ = y at ih hlen ⊢
    intro h6 i hi
    simp only [fsStep] at h6 hi ⊢
    have h1 := nNum_in (nNum_in (nNum_in (nBytes_in (nNum_in h6))))
    have hy := nNum_in h1
    obtain ⟨_, n1, n2⟩ := num_rp h1 (show (15 : Int) ≤ (15 : Nat) by omega)
    have n1' : (y.next : Int) ≤ ((fsQ b y).1 : Int) := n1
    have n2' : ((fsQ b y).1 : Int) ≤ 15 := n2
    rw [akA_set _ _ _ _ (by omega), if_neg (by omega)]
    exact ih hy i (by omega)
theorem sess_eq (b : Bytes) (s : St) : ∀ q : Nat, ((sIter b q ⟨s, -1, List.replicate 16 zeroSes⟩).st.bad = false ↔ (fsIter b q ⟨s, 0, List.replicate 16 zeroAk⟩).st.bad = false ∧ NC (fsIter b q ⟨s, 0, List.replicate 16 zeroAk⟩).al) ∧ ((sIter b q ⟨s, -1, List.replicate 16 zeroSes⟩).st.bad = false → SEq (sIter b q ⟨s, -1, List.replicate 16 zeroSes⟩) (fsIter b q ⟨s, 0, List.replicate 16 zeroAk⟩)) := by
  have hz : ∀ i, akA (List.replicate 16 zeroAk) i = zeroAk := fun i => by
    unfold akA List.getD
    rw [List.getElem?_replicate]
    split <;> rfl
  intro q
  induction q with
  | zero =>
    refine ⟨⟨fun h => ⟨h, fun q _ hh => ?_⟩, fun h => h.1⟩, fun _ => ⟨rfl, rfl, by simp [fsIter], rfl, fun i _ => ?_, fun a ha => ?_, by simp [fsIter]⟩⟩
    · simp only [fsIter] at hh
      rw [hz] at hh
      cases hh.1
    · simp only [fsIter]; rw [hz]; rfl
    · simp only [fsIter] at ha
      rw [List.eq_of_mem_replicate ha]
      rfl
  | succ q ih =>
    obtain ⟨ih1, ih2⟩ := ih
    show ((sStep b (sIter b q ⟨s, -1, List.replicate 16 zeroSes⟩)).st.bad = false ↔ (fsStep b (fsIter b q ⟨s, 0, List.replicate 16 zeroAk⟩)).st.bad = false ∧ NC (fsStep b (fsIter b q ⟨s, 0, List.replicate 16 zeroAk⟩)).al) ∧ ((sStep b (sIter b q ⟨s, -1, List.replicate 16 zeroSes⟩)).st.bad = false → SEq (sStep b (sIter b q ⟨s, -1, List.replicate 16 zeroSes⟩)) (fsStep b (fsIter b q ⟨s, 0, List.replicate 16 zeroAk⟩)))
    have hlen := fsIter_len b q ⟨s, 0, List.replicate 16 zeroAk⟩
    rw [List.length_replicate] at hlen
    have hfz := fs_zero b s q
    generalize sIter b q ⟨s, -1, List.replicate 16 zeroSes⟩ = x at ih1 ih2 ⊢
    generalize fsIter b q ⟨s, 0, List.replicate 16 zeroAk⟩ = y at ih1 ih2 hlen hfz ⊢
    have key : (sStep b x).st.bad = false → ((fsStep b y).st.bad = false ∧ NC (fsStep b y).al) ∧ SEq (sStep b x) (fsStep b y) := by
      intro h
      simp only [sStep, Bool.or_eq_false_iff] at h
      obtain ⟨h6, hbad⟩ := h
      have hbad0 := hbad
      unfold sBad at hbad
      simp only [Bool.or_eq_false_iff, decide_eq_false_iff_not] at hbad
      obtain ⟨⟨⟨⟨b1, b2⟩, b3⟩, b4⟩, b5⟩ := hbad
      have h5 := mCount_in h6
      have h4 := mText_in h5
      have h3 := mCount_in h4
      have h2 := mCount_in h3
      have h1 := mCount_in h2
      have hx := mCount_in h1
      have hP := ih2 hx
      have hNC := (ih1.1 hx).2
      have hp15 : (sP b x).1 ≤ 15 := mCount_le b 15 x.st
      have e1 : fsQ b y = sP b x := by
        unfold fsQ; rw [← hP.st]
        exact num_pr h1 (by have := hP.last; show (y.next : Int) ≤ ((sP b x).1 : Int); omega) (by show ((sP b x).1 : Int) ≤ 15; omega)
      have e2 : fsI b y = sI b x := by unfold fsI; rw [e1]; exact num_pr h2 (by show (1 : Int) ≤ ((sI b x).1 : Int); omega) (by have := mCount_le b maxC (sP b x).2; unfold maxC at this; show ((mCount b maxC (sP b x).2).1 : Int) ≤ 4611686018427387904; unfold maxC; omega)
      have e3 : fsR b y = sR b x := by unfold fsR; rw [e2]; exact num_pr h3 (by show (1 : Int) ≤ ((sR b x).1 : Int); omega) (by have := mCount_le b maxC (sI b x).2; unfold maxC at this; show ((mCount b maxC (sI b x).2).1 : Int) ≤ 4611686018427387904; unfold maxC; omega)
      have e4 : fsC b y = sC b x := by unfold fsC; rw [e3]; exact num_pr h4 (by show (1 : Int) ≤ ((sC b x).1 : Int); omega) (by have := mCount_le b 11 (sR b x).2; omega)
      have e5 : fsV b y = sV b x := by unfold fsV nText; rw [e4]; exact mText_8 h5
      have e6 : fsN b y = sN b x := by unfold fsN; rw [e5]; exact num_pr h6 (by omega) (by have := mCount_le b 99999999 (sV b x).2; omega)
      have es : fsSes b y = sSes b x := by unfold fsSes sSes; rw [e2, e3, e4, e5, e6]
      have hpl : (sP b x).1 < y.al.length := by omega
      refine ⟨⟨?_, ?_⟩, ⟨?_, ?_, ?_, ?_, ?_, ?_, ?_⟩⟩
      · simp only [fsStep]; rw [e6]; exact h6
      · intro j hj
        simp only [fsStep]
        rw [e1, akA_set _ _ _ _ hpl, es]
        split
        · intro hh
          apply b5
          have : ((sC b x).1 : Int) = 10 := hh.2
          omega
        · exact hNC j hj
      · simp only [sStep, fsStep]
        rw [e6, hbad0, Bool.or_false]
      · simp only [sStep, fsStep]; rw [e1]; push_cast; omega
      · simp only [fsStep]; rw [e1]; omega
      · simp only [sStep, fsStep]
        rw [e1, es, hP.ss, List.map_set]
      · intro i hi
        simp only [fsStep] at hi ⊢
        rw [e1] at hi ⊢
        rw [akA_set _ _ _ _ hpl, if_neg (by omega)]
        exact hP.zero i (by have := hP.last; omega)
      · intro a ha
        simp only [fsStep] at ha
        rcases List.mem_or_eq_of_mem_set ha with ha | rfl
        · exact hP.has a ha
        · rw [es]
          simp only []
          have : (sSes b x).inc ≠ 0 := by show ((sI b x).1 : Int) ≠ 0; omega
          simp [this]
      · simp only [fsStep, List.length_set]; exact hlen
    refine ⟨⟨fun h => (key h).1, ?_⟩, fun h => (key h).2⟩
    rintro ⟨h6, hNC⟩
    simp only [fsStep] at h6 hNC
    have h5 := nNum_in h6
    have h4 := nBytes_in h5
    have h3 := nNum_in h4
    have h2 := nNum_in h3
    have h1 := nNum_in h2
    have hy := nNum_in h1
    obtain ⟨e1, n1, n2⟩ := num_rp h1 (show (15 : Int) ≤ (15 : Nat) by omega)
    have n1' : (y.next : Int) ≤ ((fsQ b y).1 : Int) := n1
    have n2' : ((fsQ b y).1 : Int) ≤ 15 := n2
    have hpl : (fsQ b y).1 < y.al.length := by omega
    have hNC0 : ∀ (_ : ∀ i, y.next ≤ i → (akA y.al i).has = false), NC y.al := by
      intro hzz j hj hh
      by_cases e : j = (fsQ b y).1
      · have := hzz j (by omega)
        rw [this] at hh; cases hh.1
      · have := hNC j hj
        rw [akA_set _ _ _ _ hpl, if_neg e] at this
        exact this hh
    have hNCy := hNC0 (hfz hy)
    have hx := ih1.2 ⟨hy, hNCy⟩
    have hP := ih2 hx
    have e1' : sP b x = fsQ b y := by unfold sP; rw [hP.st]; exact e1
    obtain ⟨e2, i1, _⟩ := num_rp h2 (show (4611686018427387904 : Int) ≤ (maxC : Nat) by decide)
    have e2' : sI b x = fsI b y := by unfold sI; rw [e1']; exact e2
    obtain ⟨e3, r1, _⟩ := num_rp h3 (show (4611686018427387904 : Int) ≤ (maxC : Nat) by decide)
    have e3' : sR b x = fsR b y := by unfold sR; rw [e2']; exact e3
    obtain ⟨e4, c1, _⟩ := num_rp h4 (show (11 : Int) ≤ (11 : Nat) by decide)
    have e4' : sC b x = fsC b y := by unfold sC; rw [e3']; exact e4
    obtain ⟨e5, _, _⟩ := text_rp h5 (show (8 : Int) ≤ (8 : Nat) by decide)
    have e5' : sV b x = fsV b y := by unfold sV; rw [e4']; exact e5
    obtain ⟨e6, _, _⟩ := num_rp h6 (show (99999999 : Int) ≤ (99999999 : Nat) by decide)
    have e6' : sN b x = fsN b y := by unfold sN; rw [e5']; exact e6
    have i1' : (1 : Int) ≤ ((fsI b y).1 : Int) := i1
    have r1' : (1 : Int) ≤ ((fsR b y).1 : Int) := r1
    have c1' : (1 : Int) ≤ ((fsC b y).1 : Int) := c1
    have hc10 : ¬ (fsC b y).1 = 10 := by
      intro e
      have := hNC (fsQ b y).1 (by omega)
      rw [akA_set _ _ _ _ hpl, if_pos rfl] at this
      exact this ⟨rfl, by show ((fsC b y).1 : Int) = 10; omega⟩
    simp only [sStep, Bool.or_eq_false_iff]
    rw [e6']
    refine ⟨h6, ?_⟩
    unfold sBad
    rw [e1', e2', e3', e4']
    simp only [Bool.or_eq_false_iff, decide_eq_false_iff_not]
    refine ⟨⟨⟨⟨by have := hP.last; omega, by omega⟩, by omega⟩, by omega⟩, hc10⟩
end Pl
end Go.Proofs.YtjdageiphebfpaaDoor

namespace Go.Proofs.YtjdageiphebfpaaDoor
namespace Pl
open Go

structure ResEq (b : Bytes) : Prop where
  tok : (fTok b).1 = (rTok b).1
  ps : (rP b).L = (fP b).ps
  L : (rL b).L = (fL b).hs.map fun k => (k.name, toLk k)
  ss : (rS b).ss = (fS b).al.map (·.s)
  has : ∀ a ∈ (fS b).al, a.has = decide (a.s.inc ≠ 0)
  st : (rS b).st = (fS b).st

theorem run_pr (b : Bytes) (h : (rS b).st.bad = false) : ((fS b).st.bad = false ∧ Ris ((fP b).ps.map (·.1)) ∧ LG (fTok b).1 (fL b).hs ∧ NC (fS b).al) ∧ ResEq b := by
  have h7 : (mCount b 16 (rL b).st).2.bad = false := sIter_in b _ _ h
  have h6 := mCount_in h7
  have h5 : (mCount b 8 (rP b).st).2.bad = false := lIter_in b _ _ _ h6
  have h4 := mCount_in h5
  have h3 : (mCount b 16 (rTok b).2).2.bad = false := pIter_in b _ _ h4
  have h2 : (rTok b).2.bad = false := mCount_in h3
  have htok : (rTok b).1 ≤ 99999999 := mCount_le b 99999999 _
  have e1 : fTok b = rTok b := num_pr h2 (by omega) (by show ((rTok b).1 : Int) ≤ 99999999; omega)
  have e2 : fN1 b = mCount b 16 (rTok b).2 := by unfold fN1; rw [e1]; exact num_pr h3 (by omega) (by have := mCount_le b 16 (rTok b).2; omega)
  obtain ⟨p1, p2⟩ := pairs_eq b (mCount b 16 (rTok b).2).2 (mCount b 16 (rTok b).2).1
  have e3 : fP b = fpIter b (mCount b 16 (rTok b).2).1 ⟨(mCount b 16 (rTok b).2).2, []⟩ := by unfold fP; rw [e2]
  have hp : (rP b).st.bad = false := h4
  have hP := p2 hp
  have hPr := p1.1 hp
  rw [← e3] at hP hPr
  have e4 : fN2 b = mCount b 8 (rP b).st := by
    unfold fN2
    have : (fP b).st = (rP b).st := hP.st.symm
    rw [this]; exact num_pr h5 (by omega) (by have := mCount_le b 8 (rP b).st; omega)
  obtain ⟨l1, l2⟩ := locks_eq b (rTok b).1 htok (mCount b 8 (rP b).st).2 (mCount b 8 (rP b).st).1
  have e5 : fL b = flIter b (mCount b 8 (rP b).st).1 ⟨(mCount b 8 (rP b).st).2, []⟩ := by unfold fL; rw [e4]
  have hl : (rL b).st.bad = false := h6
  have hL := l2 hl
  have hLr := l1.1 hl
  rw [← e5] at hL hLr
  have e6 : fN3 b = mCount b 16 (rL b).st := by
    unfold fN3
    have : (fL b).st = (rL b).st := hL.st.symm
    rw [this]; exact num_pr h7 (by omega) (by have := mCount_le b 16 (rL b).st; omega)
  obtain ⟨s1, s2⟩ := sess_eq b (mCount b 16 (rL b).st).2 (mCount b 16 (rL b).st).1
  have e7 : fS b = fsIter b (mCount b 16 (rL b).st).1 ⟨(mCount b 16 (rL b).st).2, 0, List.replicate 16 zeroAk⟩ := by unfold fS; rw [e6]
  have hS := s2 h
  have hSr := s1.1 h
  rw [← e7] at hS hSr
  refine ⟨⟨hSr.1, hPr.2, ?_, hSr.2⟩, ⟨by rw [e1], hP.L, hL.L, hS.ss, hS.has, hS.st⟩⟩
  rw [e1]; exact hLr.2
theorem run_rp (b : Bytes) (h : (fS b).st.bad = false) (hr : Ris ((fP b).ps.map (·.1))) (hl : LG (fTok b).1 (fL b).hs) (hn : NC (fS b).al) : (rS b).st.bad = false := by
  have h7 : (fN3 b).2.bad = false := fsIter_in b _ _ h
  have h6 : (fL b).st.bad = false := nNum_in h7
  have h5 : (fN2 b).2.bad = false := flIter_in b _ _ h6
  have h4 : (fP b).st.bad = false := nNum_in h5
  have h3 : (fN1 b).2.bad = false := fpIter_in b _ _ h4
  have h2 : (fTok b).2.bad = false := nNum_in h3
  have e1 : rTok b = fTok b := (num_rp h2 (by decide)).1
  have e2 : mCount b 16 (rTok b).2 = fN1 b := by rw [e1]; exact (num_rp h3 (by decide)).1
  obtain ⟨p1, p2⟩ := pairs_eq b (fN1 b).2 (fN1 b).1
  have hp := p1.2 ⟨h4, hr⟩
  have hP := p2 hp
  have e3 : rP b = pIter b (fN1 b).1 ⟨(fN1 b).2, [], []⟩ := by unfold rP pRun; rw [e2]
  rw [← e3] at hP
  have e4 : mCount b 8 (rP b).st = fN2 b := by
    have : (rP b).st = (fP b).st := hP.st
    rw [this]; exact (num_rp h5 (by decide)).1
  have htok : (rTok b).1 ≤ 99999999 := mCount_le b 99999999 _
  obtain ⟨l1, l2⟩ := locks_eq b (rTok b).1 htok (fN2 b).2 (fN2 b).1
  have hlg := l1.2 ⟨h6, by rw [e1]; exact hl⟩
  have hL := l2 hlg
  have e5 : rL b = lIter b (rTok b).1 (fN2 b).1 ⟨(fN2 b).2, [], [], []⟩ := by unfold rL lRun; rw [e4]
  rw [← e5] at hL
  have e6 : mCount b 16 (rL b).st = fN3 b := by
    have : (rL b).st = (fL b).st := hL.st
    rw [this]; exact (num_rp h7 (by decide)).1
  obtain ⟨s1, s2⟩ := sess_eq b (fN3 b).2 (fN3 b).1
  have e7 : rS b = sIter b (fN3 b).1 ⟨(fN3 b).2, -1, List.replicate 16 zeroSes⟩ := by unfold rS sRun; rw [e6]
  rw [e7]
  exact s1.2 ⟨h, hn⟩

/-- All that hold a lock or wait for one have a session. -/
def HP (al : List Ak) (hs : List Hk) : Prop := ∀ k ∈ hs, (akA al k.holder.toNat).has = true ∧ ∀ x ∈ k.queue, (akA al x.toNat).has = true
theorem getD_map {α β : Type} (f : α → β) (l : List α) (i : Nat) (d : α) : (l.map f).getD i (f d) = f (l.getD i d) := by
  simp only [List.getD, List.getElem?_map]
  cases l[i]? <;> rfl
theorem hkA_mem {hs : List Hk} {i : Nat} (h : i < hs.length) : hkA hs i ∈ hs := by
  unfold hkA
  simp [List.getD, h]
theorem mem_hkA {hs : List Hk} {k : Hk} (h : k ∈ hs) : ∃ i, i < hs.length ∧ hkA hs i = k := by
  obtain ⟨i, hi, e⟩ := List.getElem_of_mem h
  exact ⟨i, hi, by unfold hkA; simp [List.getD, hi, e]⟩
theorem quA_mem {q : List Int} {i : Nat} (h : i < q.length) : quA q i ∈ q := by
  unfold quA
  simp [List.getD, h]
theorem mem_quA {q : List Int} {k : Int} (h : k ∈ q) : ∃ i, i < q.length ∧ quA q i = k := by
  obtain ⟨i, hi, e⟩ := List.getElem_of_mem h
  exact ⟨i, hi, by unfold quA; simp [List.getD, hi, e]⟩
theorem valid_iff (tok : Int) (ps : List (Bytes × Bytes)) (hs : List Hk) (al : List Ak) : validF tok ps hs al ↔ Ris (ps.map (·.1)) ∧ LG tok hs ∧ HP al hs ∧ NC al := by
  have hk : ∀ i, (ps.map (·.1)).getD i [] = keyA ps i := fun i => getD_map (fun p : Bytes × Bytes => p.1) ps i ([], [])
  have hn : ∀ i, (hs.map (·.name)).getD i [] = (hkA hs i).name := fun i => getD_map (fun p : Hk => p.name) hs i zeroHk
  have ht : ∀ i, quA (hs.map (·.token)) i = (hkA hs i).token := fun i => getD_map (fun p : Hk => p.token) hs i zeroHk
  unfold validF
  constructor
  · rintro ⟨h1, h2, h3⟩
    refine ⟨fun i hi => ?_, ⟨fun i hi => ?_, fun k hkm => ?_, fun j hj l hl => ?_⟩, fun k hkm => ?_, h3⟩
    · rw [hk, hk]; exact h1 i (by simpa using hi)
    · rw [hn, hn]
      have := (h2 (i + 1) (by simpa using hi)).1 (by omega)
      simpa using this
    · obtain ⟨i, hi, rfl⟩ := mem_hkA hkm
      obtain ⟨_, a2, _, a4, _, a6⟩ := h2 i hi
      exact ⟨a2, a4, fun j hj l hl => (a6 j hj).2 l hl⟩
    · rw [ht, ht]
      exact (h2 j (by simpa using hj)).2.2.2.2.1 l hl
    · obtain ⟨i, hi, rfl⟩ := mem_hkA hkm
      obtain ⟨_, _, a3, _, _, a6⟩ := h2 i hi
      refine ⟨a3, fun x hx => ?_⟩
      obtain ⟨j, hj, rfl⟩ := mem_quA hx
      exact (a6 j hj).1
  · rintro ⟨h1, ⟨g1, g2, g3⟩, h3, h4⟩
    refine ⟨fun i hi => ?_, fun i hi => ?_, h4⟩
    · have := h1 i (by simpa using hi)
      rwa [hk, hk] at this
    · have hm := hkA_mem hi
      obtain ⟨b1, b2, b3⟩ := g2 _ hm
      obtain ⟨c1, c2⟩ := h3 _ hm
      refine ⟨fun h0 => ?_, b1, c1, b2, fun j hj => ?_, fun j hj => ⟨c2 _ (quA_mem hj), fun l hl => b3 j hj l hl⟩⟩
      · have := g1 (i - 1) (by simp; omega)
        rw [hn, hn, show i - 1 + 1 = i by omega] at this
        exact this
      · have := g3 i (by simpa using hi) j hj
        rwa [ht, ht] at this
theorem akA_s (al : List Ak) (i : Nat) : (al.map (·.s)).getD i zeroSes = (akA al i).s := getD_map (fun a : Ak => a.s) al i zeroAk
theorem akA_has {al : List Ak} (h : ∀ a ∈ al, a.has = decide (a.s.inc ≠ 0)) (i : Nat) : (akA al i).has = decide ((akA al i).s.inc ≠ 0) := by
  by_cases hi : i < al.length
  · have : akA al i ∈ al := by unfold akA; simp [List.getD, hi]
    exact h _ this
  · have : akA al i = zeroAk := by unfold akA; simp [List.getD, List.getElem?_eq_none (Nat.not_lt.1 hi)]
    rw [this]; rfl
theorem lacks_iff {al : List Ak} (h : ∀ a ∈ al, a.has = decide (a.s.inc ≠ 0)) (hs : List Hk) : lacksL (al.map (·.s)) (hs.map fun k => (k.name, toLk k)) = false ↔ HP al hs := by
  have hh : ∀ i : Int, decide (((al.map (·.s)).getD i.toNat zeroSes).inc = 0) = false ↔ (akA al i.toNat).has = true := fun i => by
    rw [akA_s, akA_has h]
    simp
  have hlk : ∀ l : List Int, lacks (al.map (·.s)) l = false ↔ ∀ x ∈ l, (akA al x.toNat).has = true := fun l => by
    unfold lacks
    rw [List.any_eq_false]
    constructor
    · intro hx x hxm
      have := hx x hxm
      exact (hh x).1 (by simpa using this)
    · intro hx x hxm
      have := (hh x).2 (hx x hxm)
      simpa using this
  unfold lacksL HP
  rw [List.any_eq_false]
  constructor
  · intro hx k hkm
    have := hx (k.name, toLk k) (List.mem_map_of_mem hkm)
    have := (hlk _).1 (by simpa using this)
    exact ⟨this k.holder (by simp [toLk]), fun x hxq => this x (by simp [toLk, hxq])⟩
  · intro hx p hp
    obtain ⟨k, hkm, rfl⟩ := List.mem_map.1 hp
    have h2 := hx k hkm
    have := (hlk ((toLk k).holder :: (toLk k).queue)).2 (fun x hxm => by
      rcases List.mem_cons.1 hxm with rfl | hxm
      · exact h2.1
      · exact h2.2 x hxm)
    simpa using this
/-- What the program takes for a snapshot's inside, the reference takes, and the other way round. -/
theorem ins_pr (b : Bytes) (h : resIn b = true) : insR b ∧ ResEq b := by
  unfold resIn rSt at h
  simp only [Bool.and_eq_true, Bool.not_eq_true', Bool.or_eq_false_iff, decide_eq_true_eq] at h
  obtain ⟨⟨h1, h2⟩, h3⟩ := h
  obtain ⟨⟨a1, a2, a3, a4⟩, hE⟩ := run_pr b h1
  refine ⟨⟨?_, (valid_iff _ _ _ _).2 ⟨a2, a3, ?_, a4⟩⟩, hE⟩
  · unfold nEnd
    rw [← hE.st, h1, h3]; simp
  · rw [hE.ss, hE.L] at h2
    exact (lacks_iff hE.has _).1 h2
theorem ins_rp (b : Bytes) (h : insR b) : resIn b = true := by
  obtain ⟨h1, h2⟩ := h
  unfold nEnd at h1
  simp only [Bool.or_eq_false_iff, decide_eq_false_iff_not, Decidable.not_not] at h1
  obtain ⟨hb, hp⟩ := h1
  obtain ⟨a2, a3, a5, a4⟩ := (valid_iff _ _ _ _).1 h2
  have hr := run_rp b hb a2 a3 a4
  obtain ⟨_, hE⟩ := run_pr b hr
  unfold resIn rSt
  simp only [Bool.and_eq_true, Bool.not_eq_true', Bool.or_eq_false_iff, decide_eq_true_eq]
  refine ⟨⟨hr, ?_⟩, by rw [hE.st]; exact hp⟩
  rw [hE.ss, hE.L]
  exact (lacks_iff hE.has _).2 a5
end Pl
end Go.Proofs.YtjdageiphebfpaaDoor

namespace Go.Proofs.YtjdageiphebfpaaDoor
namespace Pl
open Go

theorem tkGo_len (b : Bytes) (p : Nat) : ∀ f i v0 v n : Nat, tkGo b p f i v0 = .ok v n → ∃ m, i ≤ m ∧ n = p + m + 1 ∧ (m = 0 ∨ 128 ^ m ≤ v) := by
  intro f
  induction f with
  | zero => intro i v0 v n h; simp [tkGo] at h
  | succ f ih =>
    intro i v0 v n h
    rw [tkGo] at h
    cases hc : b[p + i]? with
    | none => rw [hc] at h; simp at h
    | some c =>
      rw [hc] at h
      simp only [] at h
      by_cases h1 : 127 < c.toNat
      · rw [if_pos h1] at h
        obtain ⟨m, hm, hn, hv⟩ := ih _ _ _ _ h
        exact ⟨m, by omega, hn, hv⟩
      · rw [if_neg h1] at h
        by_cases h2 : (c.toNat = 0 ∧ 0 < i) ∨ 4611686018427387904 < v0 + c.toNat % 128 * 128 ^ i
        · rw [if_pos h2] at h; simp at h
        · rw [if_neg h2] at h
          injection h with hv hn
          refine ⟨i, Nat.le_refl _, by omega, ?_⟩
          by_cases hi : i = 0
          · exact Or.inl hi
          · right
            have hc0 : 1 ≤ c.toNat % 128 := by
              have : ¬ (c.toNat = 0 ∧ 0 < i) := fun x => h2 (Or.inl x)
              omega
            have : 1 * 128 ^ i ≤ c.toNat % 128 * 128 ^ i := Nat.mul_le_mul_right _ hc0
            omega
theorem takeInt_len {b : Bytes} {p v n k : Nat} (h : takeInt b p = .ok v n) (hk : 1 ≤ k) (hv : v < 128 ^ k) : n ≤ p + k := by
  obtain ⟨m, _, hn, hm⟩ := tkGo_len b p 9 0 0 v n h
  rcases hm with rfl | hm
  · omega
  · have : m < k := by
      rcases Nat.lt_or_ge m k with h1 | h1
      · exact h1
      · have := Nat.pow_le_pow_right (n := 128) (by omega) h1
        omega
    omega
theorem num_len {b : Bytes} {lo hi : Int} {s : St} (h : (nNum b lo hi s).2.bad = false) (k : Nat) (hk : 1 ≤ k) (hh : hi < ((128 ^ k : Nat) : Int)) : (nNum b lo hi s).2.p ≤ s.p + k := by
  obtain ⟨_, v, n, ht, _, h2, he⟩ := nNum_good h
  rw [he]
  exact takeInt_len ht hk (by omega)
theorem bytes_len {b : Bytes} {lo : Int} {s : St} (h : (nBytes b lo 8 s).2.bad = false) : (nBytes b lo 8 s).2.p ≤ s.p + 9 := by
  obtain ⟨h1, _, h3, _⟩ := nBytes_good h
  have h4 := num_len h1 1 (by omega) (by decide)
  obtain ⟨_, v, n, _, _, h2, he⟩ := nNum_good h1
  rw [h3]
  simp only []
  rw [he] at h4 ⊢
  simp only [] at h4 ⊢
  omega
theorem fpIter_p (b : Bytes) (q : Nat) (x : FP) (h : (fpIter b q x).st.bad = false) : (fpIter b q x).st.p ≤ x.st.p + 18 * q := by
  induction q with
  | zero => exact Nat.le_refl _
  | succ q ih =>
    simp only [fpIter, fpStep] at h ⊢
    have hk := nBytes_in h
    have hx := nBytes_in hk
    have h1 := ih hx
    have h2 : (fpK b (fpIter b q x)).2.p ≤ (fpIter b q x).st.p + 9 := bytes_len hk
    have h3 : (fpV b (fpIter b q x)).2.p ≤ (fpK b (fpIter b q x)).2.p + 9 := bytes_len h
    omega
theorem fqIter_p (b : Bytes) (q : Nat) (x : FQ) (h : (fqIter b q x).st.bad = false) : (fqIter b q x).st.p ≤ x.st.p + q := by
  induction q with
  | zero => exact Nat.le_refl _
  | succ q ih =>
    simp only [fqIter, fqStep] at h ⊢
    have h1 := ih (nNum_in h)
    have h2 := num_len h 1 (by omega) (by decide)
    omega
theorem flIter_p (b : Bytes) (q : Nat) (x : FL) (h : (flIter b q x).st.bad = false) : (flIter b q x).st.p ≤ x.st.p + 30 * q := by
  induction q with
  | zero => exact Nat.le_refl _
  | succ q ih =>
    simp only [flIter, flStep] at h ⊢
    generalize flIter b q x = y at h ih ⊢
    have hc := fqIter_in' b _ _ h
    have ht := nNum_in hc
    have hh := nNum_in ht
    have hn := nNum_in hh
    have hy := nBytes_in hn
    have h1 := ih hy
    have h2 : (flName b y.st).2.p ≤ y.st.p + 9 := bytes_len hn
    have h3 : (flHold b y.st).2.p ≤ (flName b y.st).2.p + 1 := num_len hh 1 (by omega) (by decide)
    have h4 : (flTok b y.st).2.p ≤ (flHold b y.st).2.p + 4 := num_len ht 4 (by omega) (by decide)
    have h5 : (flCnt b y.st).2.p ≤ (flTok b y.st).2.p + 1 := num_len hc 1 (by omega) (by decide)
    have h6 : (flQ b y.st).st.p ≤ (flCnt b y.st).2.p + (flCnt b y.st).1 := fqIter_p b _ _ h
    have h7 : ((flCnt b y.st).1 : Int) ≤ 15 := nNum_hi b 0 15 (flTok b y.st).2 (by omega)
    omega
theorem fsIter_p (b : Bytes) (q : Nat) (x : FS) (h : (fsIter b q x).st.bad = false) : (fsIter b q x).st.p ≤ x.st.p + 33 * q := by
  induction q with
  | zero => exact Nat.le_refl _
  | succ q ih =>
    simp only [fsIter, fsStep] at h ⊢
    generalize fsIter b q x = y at h ih ⊢
    have h5 := nNum_in h
    have h4 := nBytes_in h5
    have h3 := nNum_in h4
    have h2 := nNum_in h3
    have h1 := nNum_in h2
    have hy := nNum_in h1
    have k0 := ih hy
    have k1 : (fsQ b y).2.p ≤ y.st.p + 1 := num_len h1 1 (by omega) (by decide)
    have k2 : (fsI b y).2.p ≤ (fsQ b y).2.p + 9 := num_len h2 9 (by omega) (by decide)
    have k3 : (fsR b y).2.p ≤ (fsI b y).2.p + 9 := num_len h3 9 (by omega) (by decide)
    have k4 : (fsC b y).2.p ≤ (fsR b y).2.p + 1 := num_len h4 1 (by omega) (by decide)
    have k5 : (fsV b y).2.p ≤ (fsC b y).2.p + 9 := bytes_len h5
    have k6 : (fsN b y).2.p ≤ (fsV b y).2.p + 4 := num_len h 4 (by omega) (by decide)
    omega
theorem ins_len (b : Bytes) (h : insR b) : b.length ≤ 1066 := by
  obtain ⟨h1, _⟩ := h
  unfold nEnd at h1
  simp only [Bool.or_eq_false_iff, decide_eq_false_iff_not, Decidable.not_not] at h1
  obtain ⟨hb, hp⟩ := h1
  have h7 : (fN3 b).2.bad = false := fsIter_in b _ _ hb
  have h6 : (fL b).st.bad = false := nNum_in h7
  have h5 : (fN2 b).2.bad = false := flIter_in b _ _ h6
  have h4 : (fP b).st.bad = false := nNum_in h5
  have h3 : (fN1 b).2.bad = false := fpIter_in b _ _ h4
  have h2 : (fTok b).2.bad = false := nNum_in h3
  have k1 : (fTok b).2.p ≤ 3 + 4 := num_len (s := ⟨3, false⟩) h2 4 (by omega) (by decide)
  have k2 : (fN1 b).2.p ≤ (fTok b).2.p + 1 := num_len h3 1 (by omega) (by decide)
  have k3 : (fP b).st.p ≤ (fN1 b).2.p + 18 * (fN1 b).1 := fpIter_p b _ _ h4
  have k4 : (fN2 b).2.p ≤ (fP b).st.p + 1 := num_len h5 1 (by omega) (by decide)
  have k5 : (fL b).st.p ≤ (fN2 b).2.p + 30 * (fN2 b).1 := flIter_p b _ _ h6
  have k6 : (fN3 b).2.p ≤ (fL b).st.p + 1 := num_len h7 1 (by omega) (by decide)
  have k7 : (fS b).st.p ≤ (fN3 b).2.p + 33 * (fN3 b).1 := fsIter_p b _ _ hb
  have n1 : ((fN1 b).1 : Int) ≤ 16 := nNum_hi b 0 16 (fTok b).2 (by omega)
  have n2 : ((fN2 b).1 : Int) ≤ 8 := nNum_hi b 0 8 (fP b).st (by omega)
  have n3 : ((fN3 b).1 : Int) ≤ 16 := nNum_hi b 0 16 (fL b).st (by omega)
  omega

/-- Restore takes the same texts. -/
theorem res_iff (bs : Bytes) : resOk bs = true ↔ resR bs := by
  unfold resOk resR headR sealedC
  simp only [Bool.and_eq_true, decide_eq_true_eq]
  constructor
  · rintro ⟨⟨⟨⟨⟨h1, h2⟩, h3⟩, h4⟩, h5⟩, h6⟩
    have h7 := (ins_pr _ h6).1
    have h8 := ins_len _ h7
    rw [List.length_take] at h8
    exact ⟨⟨h1, by omega, h2, h3, h4, h5⟩, h7⟩
  · rintro ⟨⟨h1, _, h2, h3, h4, h5⟩, h7⟩
    exact ⟨⟨⟨⟨⟨h1, h2⟩, h3⟩, h4⟩, h5⟩, ins_rp _ h7⟩

/-! ### states -/
theorem cnt_eq (b : Bytes) (s : St) : nNum b 0 4611686018427387904 s = rCount b s := by
  unfold nNum rCount
  by_cases hb : s.bad = true
  · rw [if_pos hb, if_pos hb]
  · rw [if_neg hb, if_neg hb]
    cases ht : takeInt b s.p with
    | err e => rfl
    | ok v n =>
      have := (takeInt_ok ht).1
      simp only []
      rw [if_pos (by omega)]
theorem rCount_good {b : Bytes} {s : St} (h : (rCount b s).2.bad = false) : s.bad = false := by
  rw [← cnt_eq] at h; exact nNum_in h
/-- Bytes are read alike, but for the place behind a flaw. -/
theorem byt_eq (b : Bytes) (s : St) : (nBytes b 0 b.length s).1 = (rBytes b s).1 ∧ (nBytes b 0 b.length s).2.bad = (rBytes b s).2.bad ∧ ((rBytes b s).2.bad = false → nBytes b 0 b.length s = rBytes b s) := by
  unfold nBytes rBytes
  unfold nNum rCount
  by_cases hb : s.bad = true
  · rw [if_pos hb, if_pos hb]
    simp only [hb, if_true]
    exact ⟨trivial, trivial, fun _ => trivial⟩
  · rw [if_neg hb, if_neg hb]
    cases ht : takeInt b s.p with
    | err e => simp
    | ok v n =>
      obtain ⟨hv, _, hn⟩ := takeInt_ok ht
      simp only []
      by_cases hc : (0 : Int) ≤ v ∧ (v : Int) ≤ b.length
      · rw [if_pos hc]
        simp only [Bool.false_eq_true, if_false]
        by_cases h1 : b.length < n + v
        · rw [if_pos h1, if_pos (show b.length - n < v by omega)]
          exact ⟨rfl, rfl, fun h => by cases h⟩
        · rw [if_neg h1, if_neg (show ¬ b.length - n < v by omega)]
          exact ⟨rfl, rfl, fun _ => rfl⟩
      · rw [if_neg hc]
        simp only [Bool.false_eq_true, if_true, if_false]
        rw [if_pos (show b.length - n < v by omega)]
        exact ⟨rfl, rfl, fun h => by cases h⟩
theorem rBytes_in {b : Bytes} {s : St} (h : (rBytes b s).2.bad = false) : s.bad = false := by
  unfold rBytes at h
  split at h
  · rename_i hb; rw [hb] at h; cases h
  · rename_i hb
    exact rCount_good (by simpa using hb)
theorem gIter_in (b : Bytes) : ∀ (n : Nat) (x : GSt), (gIter b n x).st.bad = false → x.st.bad = false := by
  intro n
  induction n with
  | zero => intro x h; exact h
  | succ n ih =>
    intro x h
    unfold gIter at h
    by_cases hb : x.st.bad = true
    · rw [if_pos hb] at h; exact h
    · simpa using hb
/-- The tail. -/
theorem tail_eq (b : Bytes) : ∀ (n : Nat) (s : St) (l : List Cmd), s.p ≤ b.length → ((gIter b n ⟨s, l⟩).st.bad = false ↔ ∃ s' l', tIter b n s l = some (s', l') ∧ s'.bad = false) ∧ ((gIter b n ⟨s, l⟩).st.bad = false → tIter b n s l = some ((gIter b n ⟨s, l⟩).st, (gIter b n ⟨s, l⟩).tail)) := by
  intro n
  induction n with
  | zero => intro s l _; exact ⟨⟨fun h => ⟨s, l, rfl, h⟩, fun ⟨s', l', h, hb⟩ => (by injection h with h; injection h with h _; show s.bad = false; rw [h]; exact hb)⟩, fun _ => rfl⟩
  | succ n ih =>
    intro s l hs
    unfold gIter tIter
    by_cases hb : s.bad = true
    · simp only [hb, if_true]
      exact ⟨⟨fun h => (by cases h), fun ⟨s', l', h, hb'⟩ => (by injection h with h; injection h with h _; rw [h, hb'] at hb; cases hb)⟩, fun h => (by cases h)⟩
    · simp only [hb, Bool.false_eq_true, if_false]
      obtain ⟨b1, b2, b3⟩ := byt_eq b s
      unfold gStep rCmd
      simp only []
      rw [b1]
      by_cases hr : (rBytes b s).2.bad = true
      · -- a flaw in the bytes
        have hv0 : (rBytes b s).1 = [] := by
          unfold rBytes at hr ⊢
          split
          · rfl
          · rename_i h1
            rw [if_neg h1] at hr
            split
            · rfl
            · rename_i h2; rw [if_neg h2] at hr; simp at hr
        have hd0 : eOk [] = false := by decide
        simp only [hr, if_true, hv0, hd0, Bool.false_eq_true, if_false]
        rw [gIter_bad _ _ _ hr]
        exact ⟨⟨fun h => (by simp only [] at h; rw [hr] at h; cases h), fun ⟨s', l', h, _⟩ => (by cases h)⟩, fun h => (by simp only [] at h; rw [hr] at h; cases h)⟩
      · have hr' : (rBytes b s).2.bad = false := by simpa using hr
        simp only [hr', Bool.false_eq_true, if_false]
        rw [b3 hr']
        cases hd : eOk (rBytes b s).1 with
        | false =>
          have hd' : decOk (rBytes b s).1 = false := by rw [← eOk_eq]; exact hd
          simp only [hd', Bool.not_false, Bool.false_eq_true, if_false]
          rw [gIter_bad _ _ _ rfl]
          exact ⟨⟨fun h => (by simp at h), fun ⟨s', l', h, _⟩ => (by cases h)⟩, fun h => (by simp at h)⟩
        | true =>
          have hd' : decOk (rBytes b s).1 = true := by rw [← eOk_eq]; exact hd
          have hp : (rBytes b s).2.p ≤ b.length := rBytes_p b s hs
          have hst : (⟨(rBytes b s).2.p, !true⟩ : St) = (rBytes b s).2 := by
            cases hx : (rBytes b s).2 with
            | mk p bad => rw [hx] at hr'; simp only [] at hr'; rw [hr']; rfl
          have hcm : decV (rBytes b s).1 = eCmd (rBytes b s).1 := by rw [← eV_eq]; unfold eV; rw [if_pos hd]
          simp only [hd', if_true]
          rw [hst, hcm]
          exact ih _ _ hp
end Pl
end Go.Proofs.YtjdageiphebfpaaDoor

namespace Go.Proofs.YtjdageiphebfpaaDoor
namespace Pl
open Go

theorem one_eq (b : Bytes) : oneBad b = cntBad b ∧ (oneS b).1 = cntV b := by
  unfold oneBad oneS cntBad cntV nEnd rEnd
  rw [cnt_eq]
  exact ⟨rfl, rfl⟩
theorem tC3 (b : Bytes) : (tC b 3).st = (gBase b (cpS b)).2 ∧ (tC b 3).l = [cntV b, (gEp b (cpS b)).1, (gBase b (cpS b)).1] := by
  unfold tC
  simp only [tcIter, tcStep, cnt_eq]
  exact ⟨rfl, rfl⟩
theorem k16_pr {b : Bytes} {s : St} (h : (rCount b s).2.bad = false) (hN : (rCount b s).1 ≤ 16) : nNum b 0 16 s = rCount b s := by
  have h1 := rCount_good h
  unfold rCount at h hN ⊢
  rw [if_neg (by rw [h1]; simp)] at h hN ⊢
  unfold nNum
  rw [if_neg (by rw [h1]; simp)]
  cases ht : takeInt b s.p with
  | err e => simp [ht] at h
  | ok v n =>
    rw [ht] at hN
    simp only [] at hN ⊢
    rw [if_pos (by omega)]
theorem k16_rp {b : Bytes} {s : St} (h : (nNum b 0 16 s).2.bad = false) : rCount b s = nNum b 0 16 s ∧ (nNum b 0 16 s).1 ≤ 16 := by
  obtain ⟨h1, v, n, ht, _, h3, he⟩ := nNum_good h
  rw [he]
  unfold rCount
  rw [if_neg (by rw [h1]; simp), ht]
  exact ⟨rfl, by simp only []; omega⟩
theorem tIter_in (b : Bytes) : ∀ (q : Nat) (s : St) (l : List Cmd) (s' : St) (l' : List Cmd), tIter b q s l = some (s', l') → s'.bad = false → s.bad = false := by
  intro q
  induction q with
  | zero => intro s l s' l' h hb; injection h with h; injection h with h _; rw [h]; exact hb
  | succ q ih =>
    intro s l s' l' h hb
    unfold tIter at h
    by_cases hs : s.bad = true
    · rw [if_pos hs] at h; injection h with h; injection h with h _; rw [h]; exact hb
    · simpa using hs
theorem gN_p (b : Bytes) (s : St) (hs : s.p ≤ b.length) : (gSnap b s).2.p ≤ b.length := by
  unfold gSnap gBase gEp
  exact rBytes_p b _ (rCount_p b _ (rCount_p b _ hs))
theorem cpS_p (b : Bytes) : (cpS b).p ≤ b.length := rCount_p b _ (Nat.zero_le _)

/-- What holds of a checkpoint that is one. -/
structure CpEq (b : Bytes) : Prop where
  shot : (tShot b 3).1 = (gSnap b (cpS b)).1
  tail : ∃ s, tT b 3 = some (s, (gX b (cpS b)).tail)

theorem cp_pr (b : Bytes) (h : cpBad b = false) : tsOk b 3 ∧ CpEq b := by
  unfold cpBad rEnd gOut at h
  simp only [Bool.or_eq_false_iff, decide_eq_false_iff_not, Decidable.not_not] at h
  obtain ⟨⟨h1, h2⟩, h3⟩ := h
  have h4 : (gSt6 b (cpS b)).bad = false := gIter_in b _ _ h1
  have h5 : ¬ 16 < (gN b (cpS b)).1 := by
    intro hh; unfold gSt6 at h4; rw [if_pos hh] at h4; cases h4
  have e6 : gSt6 b (cpS b) = (gN b (cpS b)).2 := by unfold gSt6; rw [if_neg h5]
  rw [e6] at h4
  have h6 : (gSt4 b (cpS b)).bad = false := rCount_good h4
  have h7 : (gSnap b (cpS b)).2.bad = false := by
    cases hx : (gSnap b (cpS b)).2.bad with
    | false => rfl
    | true => unfold gSt4 at h6; rw [if_pos hx, hx] at h6; cases h6
  have h8 : resOk (gSnap b (cpS b)).1 = true := by
    unfold gSt4 at h6; rw [if_neg (by rw [h7]; simp)] at h6; simpa using h6
  have e4 : gSt4 b (cpS b) = (gSnap b (cpS b)).2 := by
    unfold gSt4
    rw [if_neg (by rw [h7]; simp), h8]
    cases hx : (gSnap b (cpS b)).2 with
    | mk p bad => rw [hx] at h7; simp only [] at h7; rw [h7]; rfl
  obtain ⟨c1, c2⟩ := tC3 b
  obtain ⟨b1, b2, b3⟩ := byt_eq b (gBase b (cpS b)).2
  have es : tShot b 3 = gSnap b (cpS b) := by unfold tShot gSnap; rw [c1]; exact b3 h7
  have ek : tK b 3 = gN b (cpS b) := by
    unfold tK gN
    rw [es, e4]
    have h9 := h4
    unfold gN at h9 h5
    rw [e4] at h9 h5
    exact k16_pr h9 (by omega)
  have hp : (gN b (cpS b)).2.p ≤ b.length := by
    unfold gN; rw [e4]; exact rCount_p b _ (gN_p b _ (cpS_p b))
  obtain ⟨t1, t2⟩ := tail_eq b (gN b (cpS b)).1 (gN b (cpS b)).2 [] hp
  have hX : gX b (cpS b) = gIter b (gN b (cpS b)).1 ⟨(gN b (cpS b)).2, []⟩ := by unfold gX; rw [e6]
  rw [hX] at h1
  have ht := t2 h1
  have hT : tT b 3 = some ((gX b (cpS b)).st, (gX b (cpS b)).tail) := by unfold tT; rw [ek, hX]; exact ht
  refine ⟨⟨_, _, hT, ?_, ?_, ?_⟩, ⟨by rw [es], _, hT⟩⟩
  · unfold nEnd
    rw [hX]
    simp only [h1, Bool.false_or, decide_eq_false_iff_not, Decidable.not_not]
    rw [← hX]; exact h3
  · rw [es]; exact (res_iff _).1 h8
  · rw [c2]
    show (gBase b (cpS b)).1 + _ ≤ _
    omega
theorem cp_rp (b : Bytes) (h : tsOk b 3) : cpBad b = false := by
  obtain ⟨s, l, hT, hE, hR, hC⟩ := h
  unfold nEnd at hE
  simp only [Bool.or_eq_false_iff, decide_eq_false_iff_not, Decidable.not_not] at hE
  obtain ⟨hb, hp⟩ := hE
  obtain ⟨c1, c2⟩ := tC3 b
  have hk : (tK b 3).2.bad = false := tIter_in b _ _ _ _ _ hT hb
  have hs : (tShot b 3).2.bad = false := nNum_in hk
  obtain ⟨b1, b2, b3⟩ := byt_eq b (gBase b (cpS b)).2
  have e0 : tShot b 3 = nBytes b 0 b.length (gBase b (cpS b)).2 := by unfold tShot; rw [c1]
  have h7 : (gSnap b (cpS b)).2.bad = false := by unfold gSnap; rw [← b2, ← e0]; exact hs
  have es : tShot b 3 = gSnap b (cpS b) := by rw [e0]; exact b3 h7
  have h8 : resOk (gSnap b (cpS b)).1 = true := by rw [← es]; exact (res_iff _).2 hR
  have e4 : gSt4 b (cpS b) = (gSnap b (cpS b)).2 := by
    unfold gSt4
    rw [if_neg (by rw [h7]; simp), h8]
    cases hx : (gSnap b (cpS b)).2 with
    | mk p bad => rw [hx] at h7; simp only [] at h7; rw [h7]; rfl
  obtain ⟨k1, k2⟩ := k16_rp hk
  have ek : gN b (cpS b) = tK b 3 := by unfold gN; rw [e4, ← es]; exact k1
  have k2' : (tK b 3).1 ≤ 16 := k2
  have e6 : gSt6 b (cpS b) = (gN b (cpS b)).2 := by unfold gSt6; rw [if_neg (by rw [ek]; omega)]
  have hpp : (gN b (cpS b)).2.p ≤ b.length := by
    unfold gN; rw [e4]; exact rCount_p b _ (gN_p b _ (cpS_p b))
  obtain ⟨t1, t2⟩ := tail_eq b (gN b (cpS b)).1 (gN b (cpS b)).2 [] hpp
  have hX : gX b (cpS b) = gIter b (gN b (cpS b)).1 ⟨(gN b (cpS b)).2, []⟩ := by unfold gX; rw [e6]
  have hT' : tIter b (gN b (cpS b)).1 (gN b (cpS b)).2 [] = some (s, l) := by rw [ek]; exact hT
  have hg := t1.2 ⟨s, l, hT', hb⟩
  have ht := t2 hg
  rw [hT'] at ht
  injection ht with ht
  injection ht with ht1 ht2
  rw [← hX] at ht1 ht2 hg
  unfold cpBad rEnd gOut
  simp only [Bool.or_eq_false_iff, decide_eq_false_iff_not, Decidable.not_not]
  refine ⟨⟨hg, ?_⟩, by rw [← ht1]; exact hp⟩
  rw [← ht2]
  rw [c2] at hC
  have : (gBase b (cpS b)).1 + l.length ≤ 4611686018427387904 := hC
  omega
end Pl
end Go.Proofs.YtjdageiphebfpaaDoor

namespace Go.Proofs.YtjdageiphebfpaaDoor
open Go.RowKit
open Pl Mem

namespace Pl
def mx (m v : Int) : Int := if m < v then v else m
end Pl
theorem foldl_le : ∀ (l : List RecC) (m : Nat), m ≤ 4611686018427387904 → l.foldl promS m ≤ 4611686018427387904
  | [], _, h => h
  | r :: l, m, h => foldl_le l _ (promS_le m r h)
theorem slice_of {w : World} {base : Nat} {e : TypeId} {size n : Nat} {A : Option Addr} {k c : Nat} {xs : List Value} (h : w.ownsRow base e size (.slice A k c) n xs) : k = n ∧ n ≤ c := by
  obtain ⟨A', c', e1, h1⟩ := own_slice_ h
  injection e1 with _ h2 h3
  exact ⟨h2, by omega⟩
theorem ints_len (q : List Int) : (ints q).length = q.length := by simp [ints]
/-- A count that is told: it may be greater than the greatest so far. -/
theorem mx_nat (a b : Nat) : mx a b = ((max a b : Nat) : Int) := by
  unfold mx
  split <;> omega

set_option maxRecDepth 100000 in
set_option maxHeartbeats 4000000 in
theorem npromise (A : Option Addr) (c : Nat) (l : List RecC) (w : World) (hR : Recs w (fun _ => True) A l) (hn : l.length ≤ 1099511627776) :
    Calls Tryd.prog 6 #[.slice A l.length c] w fun e w' => e = .returned (.int .i64 (promC l)) ∧ Below w.heap.size w w' := by
  have HR := Lib.hid hR
  clear hR
  go_enter Tryd.func6, Tryd.ntmps6
  go_wp2_with fail
  go_loopw [3, 4] (fun m i wr => ∃ j : Nat, j ≤ l.length ∧ i = .int .i64 j ∧ m = .int .i64 ((l.take j).foldl promS 0 : Nat) ∧ Below w.heap.size w wr) (fun _ i _ => l.length - (intOf i).toNat)
  case atStart => exact ⟨0, by omega, rfl, rfl, Below.refl _ _⟩
  case round =>
    obtain ⟨wo, hwo⟩ : ∃ x, x = wr := ⟨_, rfl⟩
    subst hwo
    obtain ⟨j, hj, rfl, rfl, hb⟩ := hrel
    by_cases hjl : j < l.length
    · obtain ⟨ad, A', c', rfl, hadl, _, k0, k1, hlc, hlb, hrd⟩ := HR.out j hjl
      have hk := Keep.of_below (S := fun _ => False) hb
      have k0' : wo.cell? (ad.add (j * 2)) = some (.int .i64 (l[j]).kind) := (hk.cell (p := ad.add (j * 2)) (by rw [block_add]; exact hadl) (fun h => h)).trans k0
      have k1' : wo.cell? ⟨(ad.add (j * 2)).block, (ad.add (j * 2)).off + 1, none⟩ = some (.slice A' (l[j]).body.length c') := (hk.cell (p := ⟨(ad.add (j * 2)).block, (ad.add (j * 2)).off + 1, none⟩) (by show (ad.add (j * 2)).block < _; rw [block_add]; exact hadl) (fun h => h)).trans k1
      have hrd' := hrd.keep hk (Nat.le_refl _) (fun _ _ _ h => h)
      have hfold : (l.take (j + 1)).foldl promS 0 = promS ((l.take j).foldl promS 0) l[j] := by rw [List.take_succ_eq_append_getElem hjl, List.foldl_append]; rfl
      have HFD := Lib.hid hfold
      clear hfold k0 k1 hrd
      have hmost : (l.take j).foldl promS 0 ≤ 4611686018427387904 := foldl_le _ _ (by omega)
      generalize (l.take j).foldl promS 0 = most at HFD hmost ⊢
      generalize l[j] = r at *
      obtain ⟨kind, body⟩ := r
      simp only [] at k0' k1' hlc hlb hrd'
      by_cases h1 : kind = 1
      · subst h1
        have HT := Lib.hid (ntake A' c' body 3 (fun _ => True) wo hrd' hlb hlc (by omega) (by omega))
        go_wp2_with fail
        refine HT.out.mono ?_
        rintro e w1 ⟨cv, sv, tv, ok, rfl, hiff, hb1, ⟨A1, n1, c1, A2, n2, c2, A3, n3, c3, rfl, rfl, rfl⟩, hown⟩
        have hb2 : Below w.heap.size w w1 := hb.trans (hb1.mono hb.size)
        have HIF := Lib.hid hiff
        clear HT hb1 hiff hrd' k0' k1'
        cases ok with
        | true =>
          obtain ⟨s0, tl0, _, hoc, _, _⟩ := hown rfl
          have HTS : Hid (tsOk body 3) := HIF.out.1 rfl
          obtain ⟨hA1, hl1⟩ := slice_of hoc
          obtain rfl := hA1
          have hq3 : ((tC body 3).l.map fun (x : Nat) => (x : Int)) = [(cntV body : Int), ((gEp body (cpS body)).1 : Int), ((gBase body (cpS body)).1 : Int)] := by rw [(tC3 body).2]; rfl
          have hrd0 := Rd.of_own hoc
          rw [hq3] at hrd0
          have hrd5 : Rd w1 (fun k => wo.heap.size ≤ k) 1 A1 2 (ints [(cntV body : Int), ((gEp body (cpS body)).1 : Int)]) := hrd0.take_ (k := 2) (by omega)
          have HV : Hid (([(cntV body : Int), ((gEp body (cpS body)).1 : Int)].foldl mx most : Int) = (promS most ⟨1, body⟩ : Nat)) := by
            show _ = _
            unfold promS
            rw [if_pos rfl]
            simp only [cp_rp body HTS.out, Bool.false_eq_true, if_false, List.foldl_cons, List.foldl_nil, mx_nat]
          clear hown hoc hrd0 hq3
          go_wp2_with fail
          have HRD := Lib.hid hrd5
          clear hrd5
          go_loopw [3, 10] (fun m i wq => ∃ q : Nat, q ≤ 2 ∧ i = .int .i64 q ∧ (∃ mv : Int, m = .int .i64 mv ∧ Hid (([(cntV body : Int), ((gEp body (cpS body)).1 : Int)].take q).foldl mx most = mv)) ∧ wq = w1) (fun _ i _ => 2 - (intOf i).toNat)
          case atStart => exact ⟨0, by omega, rfl, ⟨most, rfl, rfl⟩, rfl⟩
          case round =>
            obtain ⟨q, hq, rfl, ⟨mv, rfl, HM⟩, rfl⟩ := hrel
            by_cases hql : q < 2
            · obtain ⟨a5, hA5, _, _, hc5⟩ := HRD.out.2 (by omega)
              cases hA5
              have hql2 : q < ([(cntV body : Int), ((gEp body (cpS body)).1 : Int)]).length := hql
              have kc := hc5 q _ (ints_get hql2)
              have HN : Hid (([(cntV body : Int), ((gEp body (cpS body)).1 : Int)].take (q + 1)).foldl mx most = mx mv ([(cntV body : Int), ((gEp body (cpS body)).1 : Int)])[q]) := by
                show _ = _
                rw [List.take_succ_eq_append_getElem hql2, List.foldl_append, HM.out]; rfl
              generalize ([(cntV body : Int), ((gEp body (cpS body)).1 : Int)])[q] = z at kc HN
              clear hc5
              by_cases hz : mv < z
              · have HN2 : Hid (mx mv z = z) := by show _ = _; unfold mx; rw [if_pos hz]
                go_wp2_with fail
                refine ⟨⟨q + 1, by omega, by go_num, ⟨z, rfl, by show _ = _; rw [HN.out, HN2.out]⟩, by first | rfl | trivial⟩, by simp [intOf]; omega⟩
              · have HN2 : Hid (mx mv z = mv) := by show _ = _; unfold mx; rw [if_neg hz]
                have hz2 : z ≤ mv := by omega
                go_wp2_with fail
                refine ⟨⟨q + 1, by omega, by go_num, ⟨mv, rfl, by show _ = _; rw [HN.out, HN2.out]⟩, by first | rfl | trivial⟩, by simp [intOf]; omega⟩
            · obtain rfl : q = 2 := by omega
              have HE : Hid (mv = (promS most ⟨1, body⟩ : Nat)) := by
                show mv = _
                rw [← HV.out, ← HM.out]
                rfl
              go_wp2_with fail
              refine ⟨⟨j + 1, by omega, by go_num, by rw [HFD.out, HE.out], hb2⟩, by simp [intOf]; omega⟩
        | false =>
          have HTS : Hid (¬ tsOk body 3) := fun h => by have := HIF.out.2 h; cases this
          have HV : Hid ((([] : List Int).foldl mx most : Int) = (promS most ⟨1, body⟩ : Nat)) := by
            show _ = _
            have hcb : cpBad body = true := by
              cases hx : cpBad body with
              | true => rfl
              | false => exact absurd (cp_pr body hx).1 HTS.out
            unfold promS
            rw [if_pos rfl, if_pos hcb]
            rfl
          have hrd5 : Rd w1 (fun _ => True) 1 none 0 (ints []) := Rd.nil_
          clear hown
          go_wp2_with fail
          go_loopw [3, 10] (fun m i wq => i = .int .i64 0 ∧ m = .int .i64 most ∧ wq = w1) (fun _ i _ => 0)
          case atStart => exact ⟨rfl, rfl, rfl⟩
          case round =>
            obtain ⟨rfl, rfl, rfl⟩ := hrel
            have HE : Hid (most = promS most ⟨1, body⟩) := by
              have := HV.out
              show most = _
              simp only [List.foldl_nil] at this
              omega
            go_wp2_with fail
            refine ⟨⟨j + 1, by omega, by go_num, by rw [HFD.out]; exact congrArg (fun x : Nat => Value.int .i64 (x : Int)) HE.out, hb2⟩, by simp [intOf]; omega⟩
      · by_cases h4 : kind = 4
        · subst h4
          have HT := Lib.hid (none_ A' body.length c' body (fun _ => True) wo hrd' hlb hlc)
          go_wp2_with fail
          refine HT.out.mono ?_
          rintro e w1 ⟨rfl, hb1⟩
          have hb1' : Below w.heap.size w w1 := hb.trans (hb1.mono hb.size)
          clear HT hb1 hrd' k0' k1'
          have HV : Hid (([oneV body].foldl mx most : Int) = (promS most ⟨4, body⟩ : Nat)) := by
            show _ = _
            obtain ⟨o1, o2⟩ := one_eq body
            have hp : promS most ⟨4, body⟩ = if cntBad body = true then most else max most (cntV body) := by
              unfold promS
              rw [if_neg (by simp), if_pos rfl]
            rw [hp]
            unfold oneV
            rw [o1, o2]
            by_cases hx : cntBad body = true
            · rw [if_pos hx, if_pos hx]
              simp only [List.foldl_cons, List.foldl_nil]
              unfold mx
              rw [if_neg (by omega)]
            · rw [if_neg hx, if_neg hx]
              simp only [List.foldl_cons, List.foldl_nil, mx_nat]
          obtain ⟨ii, hii, hy1, hy2, hy3⟩ := info_parts int_info
          have how0 : (w1.alloc (.cells #[.int .i64 (oneV body)] 3)).ownsRow w1.heap.size 3 1 (.slice none 0 0) 0 [] := ⟨rfl, Or.inl ⟨rfl, rfl⟩⟩
          have hb1a : Below w.heap.size w (w1.alloc (.cells #[.int .i64 (oneV body)] 3)) := hb1'.alloc hb1'.size _
          go_wp2_with (
            at_builtin
            refine wpList_append_rd (by rfl) (.tmp 40) (.tmp 47) w1.heap.size 39 3 ii (.int .i64 0) 1 8 (by rfl) Tryd.underlying39 hii hy1 hy2 hy3 (by rfl) (by omega) (.slice none 0 0) 0 [] (by rfl) how0 (fun _ => True) (some ⟨w1.heap.size, 0, none⟩) 1 1 [.int .i64 (oneV body)] (by rfl) (rd_new w1 _ _ _ _ _ rfl trivial) (by simp [Value.oneCell']) (by unfold maxLen; omega) (by omega) (by simp) ?_
            intro v' w2 hown2 hg2 hob2
            obtain ⟨A1, c1, rfl, hl1⟩ := own_slice_ hown2
            have hb2 : Below w.heap.size w w2 := hb1a.grown hg2 hb1a.size (fun k e => by cases e)
            have hrd5 : Rd w2 (fun k => w1.heap.size ≤ k) 1 A1 1 (ints [oneV body]) := Rd.of_own hown2
            clear hown2 hg2 hob2 how0)
          clear hii hy1 hy2 hy3 hb1a
          have HRD := Lib.hid hrd5
          clear hrd5
          go_loopw [3, 10] (fun m i wq => ∃ q : Nat, q ≤ 1 ∧ i = .int .i64 q ∧ (∃ mv : Int, m = .int .i64 mv ∧ Hid (([oneV body].take q).foldl mx most = mv)) ∧ wq = w2) (fun _ i _ => 1 - (intOf i).toNat)
          case atStart => exact ⟨0, by omega, rfl, ⟨most, rfl, rfl⟩, rfl⟩
          case round =>
            obtain ⟨q, hq, rfl, ⟨mv, rfl, HM⟩, rfl⟩ := hrel
            by_cases hql : q < 1
            · obtain ⟨a5, hA5, _, _, hc5⟩ := HRD.out.2 (by omega)
              cases hA5
              have hql2 : q < ([oneV body]).length := hql
              have kc := hc5 q _ (ints_get hql2)
              have HN : Hid (([oneV body].take (q + 1)).foldl mx most = mx mv ([oneV body])[q]) := by
                show _ = _
                rw [List.take_succ_eq_append_getElem hql2, List.foldl_append, HM.out]; rfl
              generalize ([oneV body])[q] = z at kc HN
              clear hc5
              by_cases hz : mv < z
              · have HN2 : Hid (mx mv z = z) := by show _ = _; unfold mx; rw [if_pos hz]
                go_wp2_with fail
                refine ⟨⟨q + 1, by omega, by go_num, ⟨z, rfl, by show _ = _; rw [HN.out, HN2.out]⟩, by first | rfl | trivial⟩, by simp [intOf]; omega⟩
              · have HN2 : Hid (mx mv z = mv) := by show _ = _; unfold mx; rw [if_neg hz]
                have hz2 : z ≤ mv := by omega
                go_wp2_with fail
                refine ⟨⟨q + 1, by omega, by go_num, ⟨mv, rfl, by show _ = _; rw [HN.out, HN2.out]⟩, by first | rfl | trivial⟩, by simp [intOf]; omega⟩
            · obtain rfl : q = 1 := by omega
              have HE : Hid (mv = (promS most ⟨4, body⟩ : Nat)) := by
                show mv = _
                rw [← HV.out, ← HM.out]
                rfl
              go_wp2_with fail
              refine ⟨⟨j + 1, by omega, by go_num, by rw [HFD.out, HE.out], hb2⟩, by simp [intOf]; omega⟩
        · have h1' : ((kind : Int) == 1) = false := by simpa using h1
          have h4' : ((kind : Int) == 4) = false := by simpa using h4
          have HV : Hid ((([] : List Int).foldl mx most : Int) = (promS most ⟨kind, body⟩ : Nat)) := by
            show _ = _
            unfold promS
            rw [if_neg h1, if_neg h4]; rfl
          have hrd5 : Rd wo (fun _ => True) 1 none 0 (ints []) := Rd.nil_
          go_wp2_with fail
          go_loopw [3, 10] (fun m i wq => i = .int .i64 0 ∧ m = .int .i64 most ∧ wq = wo) (fun _ i _ => 0)
          case atStart => exact ⟨rfl, rfl, rfl⟩
          case round =>
            obtain ⟨rfl, rfl, rfl⟩ := hrel
            have HE : Hid (most = promS most ⟨kind, body⟩) := by
              have := HV.out
              show most = _
              simp only [List.foldl_nil] at this
              omega
            go_wp2_with fail
            refine ⟨⟨j + 1, by omega, by go_num, by rw [HFD.out]; exact congrArg (fun x : Nat => Value.int .i64 (x : Int)) HE.out, hb⟩, by simp [intOf]; omega⟩
    · obtain rfl : j = l.length := by omega
      rw [List.take_length]
      go_wp2
      go_ret
      exact ⟨rfl, hb⟩
end Go.Proofs.YtjdageiphebfpaaDoor
