/- The reference's placeOf; words for valid. -/
import Derived.Test.YtjdageiphebfpaaDoorMRfWords
namespace Go.Proofs.YtjdageiphebfpaaDoor
open Go.RowKit
open Pl Mem

namespace Pl
/-- The place of a client in a queue, from 1 on; 0: not in it. -/
def placeQ : List Int → Int → Nat
  | [], _ => 0
  | x :: r, c => if x = c then 1 else if placeQ r c = 0 then 0 else placeQ r c + 1
theorem placeQ_at : ∀ (q : List Int) (c : Int) (k : Nat), q[k]? = some c → (∀ j, j < k → q[j]? ≠ some c) → placeQ q c = k + 1
  | [], _, _, h, _ => by simp at h
  | x :: r, c, k, h, hn => by
    unfold placeQ
    cases k with
    | zero =>
      have : x = c := by simpa using h
      rw [if_pos this]
    | succ k =>
      have h0 : x ≠ c := by
        intro e
        exact hn 0 (by omega) (by simp [e])
      have h1 := placeQ_at r c k (by simpa using h) (fun j hj => by have := hn (j + 1) (by omega); simpa using this)
      rw [if_neg h0, h1, if_neg (by omega)]
theorem placeQ_none : ∀ (q : List Int) (c : Int), (∀ j : Nat, q[j]? ≠ some c) → placeQ q c = 0
  | [], _, _ => rfl
  | x :: r, c, hn => by
    unfold placeQ
    have h0 : x ≠ c := by
      intro e
      exact hn 0 (by simp [e])
    rw [if_neg h0, placeQ_none r c (fun j => by have := hn (j + 1); simpa using this), if_pos rfl]
theorem placeQ_pos (q : List Int) (c : Int) : 0 < placeQ q c ↔ c ∈ q := by
  constructor
  · intro h
    rcases Classical.em (∀ j : Nat, q[j]? ≠ some c) with h1 | h1
    · rw [placeQ_none q c h1] at h; omega
    · have ⟨j, hj⟩ := Classical.not_forall.1 h1
      exact List.mem_of_getElem? (Classical.not_not.1 hj)
  · intro h
    induction q with
    | nil => cases h
    | cons x r ih =>
      unfold placeQ
      by_cases e : x = c
      · rw [if_pos e]; omega
      · rw [if_neg e]
        have := ih (by rcases List.mem_cons.1 h with h | h; exact absurd h.symm e; exact h)
        rw [if_neg (by omega)]; omega
theorem placeQ_lt (q : List Int) (c : Int) : placeQ q c ≤ q.length := by
  induction q with
  | nil => simp [placeQ]
  | cons x r ih =>
    unfold placeQ
    split
    · simp
    · split
      · simp
      · simp only [List.length_cons]; omega
theorem placeQ_self (q : List Int) (j : Nat) (x : Int) (h : q[j]? = some x) : placeQ q x = j + 1 ↔ ∀ i, i < j → q[i]? ≠ some x := by
  constructor
  · intro e i hi hx
    have hmin : ∃ k, k ≤ i ∧ q[k]? = some x ∧ ∀ j', j' < k → q[j']? ≠ some x := by
      induction i using Nat.strongRecOn with
      | _ i ih =>
        rcases Classical.em (∃ j', j' < i ∧ q[j']? = some x) with ⟨j', hj', hx'⟩ | hne
        · obtain ⟨k, h1, h2, h3⟩ := ih j' hj' (by omega) hx'
          exact ⟨k, by omega, h2, h3⟩
        · exact ⟨i, Nat.le_refl _, hx, fun j' hj' hx' => hne ⟨j', hj', hx'⟩⟩
    obtain ⟨k, h1, h2, h3⟩ := hmin
    rw [placeQ_at q x k h2 h3] at e
    omega
  · intro hn
    exact placeQ_at q x j h hn
end Pl

theorem ints_get {q : List Int} {j : Nat} (h : j < q.length) : (ints q)[j]? = some (.int .i64 q[j]) := by
  unfold ints; rw [List.getElem?_map, List.getElem?_eq_getElem h]; rfl

theorem nplace (A : Option Addr) (n c : Nat) (q : List Int) (x : Int) (T : Nat → Prop) (w : World) (hr : Rd w T 1 A n (ints q)) (hn : n ≤ 281474976710656) :
    Calls Tryd.prog 43 #[.slice A n c, .int .i64 x] w fun e w' => e = .returned (.int .i64 (placeQ q x)) ∧ w' = w := by
  have hl : q.length = n := by have := hr.1; simp [ints] at this; exact this
  subst hl
  go_enter Tryd.func43, Tryd.ntmps43
  go_wp2
  go_loop [5] (fun i => ∃ k : Nat, k ≤ q.length ∧ i = .int .i64 k ∧ Hid (∀ j, j < k → q[j]? ≠ some x)) (fun i => q.length - (intOf i).toNat)
  case atStart => exact ⟨0, by omega, rfl, fun j hj => absurd hj (by omega)⟩
  case round =>
    obtain ⟨k, hk, rfl, H⟩ := hrel
    by_cases hlt : k < q.length
    · obtain ⟨ad, rfl, _, _, hc⟩ := hr.2 (by omega)
      have hck := hc k _ (ints_get hlt)
      have HG := Lib.hid (show q[k]? = some q[k] from List.getElem?_eq_getElem hlt)
      generalize q[k] = y at hck HG
      clear hc
      by_cases hy : y = x
      · subst hy
        have HP : Hid (placeQ q y = k + 1) := placeQ_at q y k HG.out H.out
        go_wp2
        go_ret
        exact ⟨by rw [HP.out]; first | rfl | (push_cast; rfl), rfl⟩
      · have hyb : (y == x) = false := by simpa using hy
        have HN : Hid (∀ j, j < k + 1 → q[j]? ≠ some x) := fun j hj => by
          by_cases e : j = k
          · subst e; rw [HG.out]; intro h; exact hy (Option.some.inj h)
          · exact H.out j (by omega)
        go_wp2
        go_round
        case rel => exact ⟨k + 1, by omega, by go_num, HN⟩
        case measure => simp [intOf]; omega
    · have HP : Hid (placeQ q x = 0) := placeQ_none q x (fun j h => by
        have hj : j < q.length := (List.getElem?_eq_some_iff.1 h).1
        exact H.out j (by omega) h)
      go_wp2
      go_ret
      exact ⟨by rw [HP.out]; rfl, rfl⟩
end Go.Proofs.YtjdageiphebfpaaDoor
