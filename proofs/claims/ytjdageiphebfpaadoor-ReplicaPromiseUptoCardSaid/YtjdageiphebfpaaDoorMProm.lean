/- replica.count and replica.checkpoint. -/
import Derived.Test.YtjdageiphebfpaaDoorMRlog
namespace Go.Proofs.YtjdageiphebfpaaDoor
open Go.RowKit
open Pl Mem

namespace Pl
def cntV (b : Bytes) : Nat := (rCount b ⟨0, false⟩).1
def cntBad (b : Bytes) : Bool := rEnd b (rCount b ⟨0, false⟩).2
/-- A checkpoint's reader: where it stands behind the promise. -/
def cpS (b : Bytes) : St := (rCount b ⟨0, false⟩).2
def cpBad (b : Bytes) : Bool := rEnd b (gOut b (cpS b))
end Pl

/-- A reader is made. -/
theorem RRd.made {w : World} {A : Option Addr} {c : Nat} {b : Bytes} {T : Nat → Prop} (hr : Rd w T 1 A b.length (u8s b)) (hn : b.length ≤ 281474976710656) (hc : b.length ≤ c) (rs : Int) :
    RRd (w.alloc (.cells #[.slice A b.length c, .int .i64 0, .iface 45 (.int .i64 rs), .nilIface] 47)) w.heap.size (· < w.heap.size) b rs ⟨0, false⟩ :=
  ⟨by omega, by simp, hn, A, c, .nilIface, hc, Blk.new w _ _, Or.inl ⟨rfl, rfl⟩, (hr.more (T' := (· < w.heap.size)) (fun _ hk _ => hk)).alloc _⟩

theorem own_base {w : World} {base b' : Nat} {e : TypeId} {size n : Nat} {v : Value} {xs : List Value} (h : w.ownsRow base e size v n xs) (hb : b' ≤ base) : w.ownsRow b' e size v n xs := by
  refine ⟨h.1, ?_⟩
  rcases h.2 with hn | ⟨g, cap, cur, rfl, hg, rest⟩
  · exact .inl hn
  · exact .inr ⟨g, cap, cur, rfl, Nat.le_trans hb hg, rest⟩

theorem ccntR (A : Option Addr) (c : Nat) (b : Bytes) (T : Nat → Prop) (w : World) (hr : Rd w T 1 A b.length (u8s b)) (hn : b.length ≤ 281474976710656) (hc : b.length ≤ c) :
    Calls Tryd.prog 9 #[.slice A b.length c] w fun e w' => ∃ ev,
      e = .returned (.tuple #[.int .i64 (cntV b), ev]) ∧ FlawIs w' 121 (cntBad b) ev ∧ Below w.heap.size w w' := by
  have hM := RRd.made hr hn hc 121
  have hb0 : Below w.heap.size w (w.alloc (.cells #[.slice A b.length c, .int .i64 0, .iface 45 (.int .i64 121), .nilIface] 47)) := (Below.refl _ _).alloc (Nat.le_refl _) _
  clear hr
  go_enter Tryd.func9, Tryd.ntmps9
  go_wp2_with fail
  generalize w.alloc (.cells #[.slice A b.length c, .int .i64 0, .iface 45 (.int .i64 121), .nilIface] 47) = w0 at hM hb0 ⊢
  have hs0 := hb0.size
  refine (rcount _ _ _ _ _ _ _ hM).mono ?_
  rintro e1 w1 ⟨rfl, hM1, hk1⟩
  have hb1 : Below w.heap.size w w1 := hb0.trans ((hk1.mono hs0 (fun _ _ h => h)).to_below (fun k hk e => by omega))
  clear hM hk1
  go_wp2_with fail
  have hs1 := hb1.size
  refine (rend _ _ _ _ _ _ hM1).mono ?_
  rintro e2 w2 ⟨ev, rfl, hf, hk2⟩
  have hb2 : Below w.heap.size w w2 := hb1.trans ((hk2.mono hs1 (fun _ _ h => h)).to_below (fun k hk e => by omega))
  have HF := Lib.hid hf
  clear hf hM1
  go_wp2
  refine bodyPost_ret (v := .tuple #[.int .i64 (cntV b), ev]) (by simp [results, Tryd.results9, go_sem, cntV]) rfl ⟨ev, rfl, HF.out, hb2⟩

set_option maxRecDepth 100000 in
set_option maxHeartbeats 1000000 in
theorem ccheckpoint (A : Option Addr) (c : Nat) (b : Bytes) (T : Nat → Prop) (w : World) (hr : Rd w T 1 A b.length (u8s b)) (hn : b.length ≤ 1099511627776) (hc : b.length ≤ c) (e : Env w)
    (hnib : ∀ i : Nat, i < 16 → w.cell? ⟨0, i, none⟩ = some (.int .u32 (nib i).toNat)) :
    Calls Tryd.prog 8 #[.slice A b.length c] w fun e w' => ∃ v ev,
      e = .returned (.tuple #[.int .i64 (cntV b), v, ev]) ∧ StateIs w' w.heap.size v (gEp b (cpS b)).1 (gBase b (cpS b)).1 (gSnap b (cpS b)).1 (gX b (cpS b)).tail ∧ FlawIs w' 121 (cpBad b) ev ∧ Below w.heap.size w w' := by
  have hz := Blk.new w 32 #[.int .i64 0, .int .i64 0, .slice none 0 0, .slice none 0 0]
  have hbz : Below w.heap.size w (w.alloc (.cells #[.int .i64 0, .int .i64 0, .slice none 0 0, .slice none 0 0] 32)) := (Below.refl _ _).alloc (Nat.le_refl _) _
  have hrz := hr.alloc (.cells #[.int .i64 0, .int .i64 0, .slice none 0 0, .slice none 0 0] 32)
  have hsz : (w.alloc (.cells #[.int .i64 0, .int .i64 0, .slice none 0 0, .slice none 0 0] 32)).heap.size = w.heap.size + 1 := by simp
  have he64 := e.size
  have HE := Lib.hid e
  have HNB := Lib.hid hnib
  clear hr e hnib
  go_enter Tryd.func8, Tryd.ntmps8
  go_wp2_with fail
  generalize w.alloc (.cells #[.int .i64 0, .int .i64 0, .slice none 0 0, .slice none 0 0] 32) = wz at hz hbz hrz hsz ⊢
  have hM := RRd.made hrz (by omega) hc 121
  rw [hsz] at hM
  have hb0 : Below w.heap.size w (wz.alloc (.cells #[.slice A b.length c, .int .i64 0, .iface 45 (.int .i64 121), .nilIface] 47)) := hbz.alloc (by omega) _
  have hz0 := hz.alloc (.cells #[.slice A b.length c, .int .i64 0, .iface 45 (.int .i64 121), .nilIface] 47)
  generalize wz.alloc (.cells #[.slice A b.length c, .int .i64 0, .iface 45 (.int .i64 121), .nilIface] 47) = w0 at hM hb0 hz0 ⊢
  have hs0 := hb0.size
  refine (rcount _ _ _ _ _ _ _ hM).mono ?_
  rintro e1 w1 ⟨rfl, hM1, hk1⟩
  have hb1 : Below w.heap.size w w1 := hb0.trans ((hk1.mono hs0 (fun _ _ h => h)).to_below (fun k hk e => by omega))
  have hz1 := hz0.keep hk1 hz0.lt (by omega)
  change RRd w1 _ _ b 121 (cpS b) at hM1
  have hg1 := hM1.lt
  clear hM hk1 hz hbz hrz hz0 hb0
  go_wp2_with fail
  have hs1 := hb1.size
  have hE1 : Env w1 := HE.out.keep (S := fun _ => False) (Keep.of_below hb1) he64 (fun _ _ h => h)
  have hN1 : ∀ i : Nat, i < 16 → w1.cell? ⟨0, i, none⟩ = some (.int .u32 (nib i).toNat) := fun i hi => ((Keep.of_below (S := fun _ => False) hb1).cell (p := ⟨0, i, none⟩) (by show 0 < _; omega) (fun h => h)).trans (HNB.out i hi)
  have HL := rlog (w.heap.size + 1) (· < w.heap.size + 1) b 121 (cpS b) w1 (by omega) hn hM1 hE1 hN1
  clear hE1 hN1
  refine HL.mono ?_
  rintro e2 w2 ⟨v, rfl, hS2, hM2, hk2⟩
  have hb2 : Below w.heap.size w w2 := hb1.trans ((hk2.mono hs1 (fun _ _ h => h)).to_below (fun k hk e => by omega))
  have hz2 := hz1.keep hk2 hz1.lt (by omega)
  obtain ⟨vs, vt, rfl, ho1, ho2⟩ := hS2
  obtain ⟨As, cs, rfl, hls⟩ := own_slice ho1
  obtain ⟨At, ct, rfl, hlt⟩ := own_slice ho2
  clear hM1 hk2 hz1 hb1
  go_wp2_with fail
  have hx3 := Blk.new w2 32 #[.int .i64 (gEp b (cpS b)).1, .int .i64 (gBase b (cpS b)).1, .slice As (gSnap b (cpS b)).1.length cs, .slice At (gX b (cpS b)).tail.length ct]
  have hz3 := hz2.alloc (.cells #[.int .i64 (gEp b (cpS b)).1, .int .i64 (gBase b (cpS b)).1, .slice As (gSnap b (cpS b)).1.length cs, .slice At (gX b (cpS b)).tail.length ct] 32)
  have hk3 : Keep w2.heap.size (fun _ => False) w2 (w2.alloc (.cells #[.int .i64 (gEp b (cpS b)).1, .int .i64 (gBase b (cpS b)).1, .slice As (gSnap b (cpS b)).1.length cs, .slice At (gX b (cpS b)).tail.length ct] 32)) := (Keep.refl _ _ _).alloc (Nat.le_refl _) _
  have hM3 := hM2.keep hk3 (Nat.le_refl _) (fun h => h) (fun _ _ _ h => h) (fun _ _ _ h => h)
  have ho13 := ownsRow_keep_ ho1 hk3 (Nat.le_refl _) (fun _ _ _ _ h => h)
  have ho23 := ownsRow_keep_ ho2 hk3 (Nat.le_refl _) (fun _ _ _ _ h => h)
  have hs2 := hb2.size
  have hzlt := hz2.lt
  have hgr2 := hM2.lt
  have hb3 : Below w.heap.size w (w2.alloc (.cells #[.int .i64 (gEp b (cpS b)).1, .int .i64 (gBase b (cpS b)).1, .slice As (gSnap b (cpS b)).1.length cs, .slice At (gX b (cpS b)).tail.length ct] 32)) := hb2.alloc hs2 _
  have hs3 : (w2.alloc (.cells #[.int .i64 (gEp b (cpS b)).1, .int .i64 (gBase b (cpS b)).1, .slice As (gSnap b (cpS b)).1.length cs, .slice At (gX b (cpS b)).tail.length ct] 32)).heap.size = w2.heap.size + 1 := by simp
  generalize w2.alloc (.cells #[.int .i64 (gEp b (cpS b)).1, .int .i64 (gBase b (cpS b)).1, .slice As (gSnap b (cpS b)).1.length cs, .slice At (gX b (cpS b)).tail.length ct] 32) = w3 at *
  clear hM2 ho1 ho2 hz2 hb2 hk3
  obtain ⟨⟨x0, x1, x2, x3⟩, _⟩ := Blk.four hx3
  obtain ⟨⟨y0, y1, y2, y3⟩, z0, z1, z2, z3⟩ := Blk.four hz3
  have hne : ¬ w2.heap.size = w.heap.size := by omega
  have d0 : w3.drew.cell? ⟨w2.heap.size, 0, none⟩ = some (.int .i64 (gEp b (cpS b)).1) := x0
  have d1 : w3.drew.cell? ⟨w2.heap.size, 1, none⟩ = some (.int .i64 (gBase b (cpS b)).1) := x1
  have d2 : w3.drew.cell? ⟨w2.heap.size, 2, none⟩ = some (.slice As (gSnap b (cpS b)).1.length cs) := x2
  have d3 : w3.drew.cell? ⟨w2.heap.size, 3, none⟩ = some (.slice At (gX b (cpS b)).tail.length ct) := x3
  clear x0 x1 x2 x3 y0 y1 y2 y3 z0 z1 z2 z3
  go_region_held3 (fun w' => w'.cell? ⟨w2.heap.size, 0, none⟩ = some (.int .i64 (gEp b (cpS b)).1) ∧ w'.cell? ⟨w2.heap.size, 1, none⟩ = some (.int .i64 (gBase b (cpS b)).1) ∧ w'.cell? ⟨w2.heap.size, 2, none⟩ = some (.slice As (gSnap b (cpS b)).1.length cs) ∧ w'.cell? ⟨w2.heap.size, 3, none⟩ = some (.slice At (gX b (cpS b)).tail.length ct))
    (first | (with_reducible exact ⟨d0, d1, d2, d3⟩) | (with_reducible exact ⟨p0, p1, p2, p3⟩) | (with_reducible exact ⟨l0, l1, l2, l3⟩) | go_keep)
    (first
      | (go_at_call 15; (with_reducible refine (rend (w.heap.size + 1) (· < w.heap.size + 1) b 121 (gOut b (cpS b)) _ ?_).mono ?_); exact hM3; rintro e4 w4 ⟨ev, rfl, hf4, hk4⟩
         have hk34 : Keep w3.heap.size (· = w.heap.size + 1) w3 w4 := Keep.and (Keep.refl _ _ _).drew hk4 (Nat.le_refl _) (fun _ _ h => h)
         have hx4 := hx3.keep hk34 hx3.lt (by omega)
         have hz4 := hz3.keep hk34 hz3.lt (by omega)
         have HF4 := Lib.hid hf4
         clear hf4
         obtain ⟨⟨p0, p1, p2, p3⟩, _⟩ := Blk.four hx4
         have hl4 := hx4.keep (laidState_keep w4 w.heap.size (gEp b (cpS b)).1 (gBase b (cpS b)).1 (.slice As (gSnap b (cpS b)).1.length cs) (.slice At (gX b (cpS b)).tail.length ct)) hx4.lt (by omega)
         unfold laidState at hl4
         obtain ⟨⟨l0, l1, l2, l3⟩, _⟩ := Blk.four hl4
         obtain ⟨⟨q0, q1, q2, q3⟩, r0, r1, r2, r3⟩ := Blk.four hz4))
  have hkl := laidState_keep w4 w.heap.size (gEp b (cpS b)).1 (gBase b (cpS b)).1 (.slice As (gSnap b (cpS b)).1.length cs) (.slice At (gX b (cpS b)).tail.length ct)
  have hLB := laidState_blk hz4 (gEp b (cpS b)).1 (gBase b (cpS b)).1 (.slice As (gSnap b (cpS b)).1.length cs) (.slice At (gX b (cpS b)).tail.length ct)
  have HF5 := Lib.hid (HF4.out.keep hkl (Nat.le_refl _) (fun fb cs hb e => by subst e; exact absurd (two_types hb hz4) (by decide)))
  have hlo : w.heap.size + 1 < w1.heap.size := hg1
  have ho14 := ownsRow_keep_ ho13 hk34 (Nat.le_refl _) (fun k cur hk _ e => by have := (own_blk ho13 k hk).1; omega)
  have ho24 := ownsRow_keep_ ho23 hk34 (Nat.le_refl _) (fun k cur hk _ e => by have := (own_blk ho23 k hk).1; omega)
  have ho15 := own_base (ownsRow_keep_ ho14 hkl (Nat.le_refl _) (fun k cur hk _ e => by have := (own_blk ho14 k hk).1; omega)) (b' := w.heap.size) (by omega)
  have ho25 := own_base (ownsRow_keep_ ho24 hkl (Nat.le_refl _) (fun k cur hk _ e => by have := (own_blk ho24 k hk).1; omega)) (b' := w.heap.size) (by omega)
  have hs34 := hk34.size
  have hb5 : Below w.heap.size w (laidState w4 w.heap.size (gEp b (cpS b)).1 (gBase b (cpS b)).1 (.slice As (gSnap b (cpS b)).1.length cs) (.slice At (gX b (cpS b)).tail.length ct)) := (hb3.trans ((hk34.mono (S' := (· = w.heap.size + 1)) (by omega) (fun _ _ h => h)).to_below (fun k hk e => by omega))).trans ((hkl.mono (S' := (· = w.heap.size)) (by omega) (fun _ _ h => h)).to_below (fun k hk e => by omega))
  clear hl4 hx4 hz4 p0 p1 p2 p3 l0 l1 l2 l3 q0 q1 q2 q3 r0 r1 r2 r3 d0 d1 d2 d3 hkl hk34 hk4 ho13 ho14 ho23 ho24 hM3 hx3 hz3 hb3 hs34
  change Exit.then _ _ _ _ (laidState w4 w.heap.size (gEp b (cpS b)).1 (gBase b (cpS b)).1 (.slice As (gSnap b (cpS b)).1.length cs) (.slice At (gX b (cpS b)).tail.length ct))
  generalize (laidState w4 w.heap.size (gEp b (cpS b)).1 (gBase b (cpS b)).1 (.slice As (gSnap b (cpS b)).1.length cs) (.slice At (gX b (cpS b)).tail.length ct)) = WF at *
  obtain ⟨⟨u0, u1, u2, u3⟩, _⟩ := Blk.four hLB
  go_wp2
  refine bodyPost_ret (v := .tuple #[.int .i64 (cntV b), .agg #[.int .i64 (gEp b (cpS b)).1, .int .i64 (gBase b (cpS b)).1, .slice As (gSnap b (cpS b)).1.length cs, .slice At (gX b (cpS b)).tail.length ct], ev]) (by simp [results, Tryd.results8, go_sem, cntV, u0, u1, u2, u3]) rfl ⟨_, ev, rfl, ⟨_, _, rfl, ho15, ho25⟩, HF5.out, hb5⟩
end Go.Proofs.YtjdageiphebfpaaDoor

namespace Go.Proofs.YtjdageiphebfpaaDoor
open Go.RowKit
open Pl Mem

namespace Pl
structure RecC where
  kind : Int
  body : Bytes
def promS (most : Nat) (r : RecC) : Nat :=
  if r.kind = 1 then (if cpBad r.body = true then most else max (max most (cntV r.body)) (gEp r.body (cpS r.body)).1)
  else if r.kind = 4 then (if cntBad r.body = true then most else max most (cntV r.body)) else most
def promC (l : List RecC) : Nat := l.foldl promS 0
theorem cntV_le (b : Bytes) : cntV b ≤ 4611686018427387904 := rCount_le b _
theorem promS_le (m : Nat) (r : RecC) (h : m ≤ 4611686018427387904) : promS m r ≤ 4611686018427387904 := by
  have h1 := cntV_le r.body
  have h2 : (gEp r.body (cpS r.body)).1 ≤ 4611686018427387904 := rCount_le _ _
  unfold promS
  repeat' split
  all_goals omega
end Pl

theorem max2_int (a b : Nat) : (if a < b then (b : Int) else (a : Int)) = ((max a b : Nat) : Int) := by
  rw [Nat.max_def]
  repeat' split
  all_goals omega
theorem max3_int (a b c : Nat) : (if (if a < b then (b : Int) else (a : Int)) < (c : Int) then (c : Int) else if a < b then (b : Int) else (a : Int)) = ((max (max a b) c : Nat) : Int) := by
  rw [max2_int]
  generalize max a b = m
  rw [Nat.max_def]
  repeat' split
  all_goals omega
/-- A slice of records. -/
def Recs (w : World) (T : Nat → Prop) (A : Option Addr) (l : List RecC) : Prop :=
  ∀ j (h : j < l.length), ∃ ad A' c', A = some ad ∧ ad.block < w.heap.size ∧ T ad.block ∧ w.cell? (ad.add (j * 2)) = some (.int .i64 (l[j]).kind) ∧ w.cell? ⟨(ad.add (j * 2)).block, (ad.add (j * 2)).off + 1, none⟩ = some (.slice A' (l[j]).body.length c') ∧ (l[j]).body.length ≤ c' ∧ (l[j]).body.length ≤ 1099511627776 ∧ Rd w T 1 A' (l[j]).body.length (u8s (l[j]).body)

set_option maxRecDepth 100000 in
set_option maxHeartbeats 1000000 in
theorem cpromise (A : Option Addr) (c : Nat) (l : List RecC) (w : World) (hR : Recs w (fun _ => True) A l) (hn : l.length ≤ 1099511627776) (e : Env w)
    (hnib : ∀ i : Nat, i < 16 → w.cell? ⟨0, i, none⟩ = some (.int .u32 (nib i).toNat)) :
    Calls Tryd.prog 5 #[.slice A l.length c] w fun e w' => e = .returned (.int .i64 (promC l)) ∧ Below w.heap.size w w' := by
  have HE := Lib.hid e
  have HNB := Lib.hid hnib
  have HR := Lib.hid hR
  clear e hnib hR
  go_enter Tryd.func5, Tryd.ntmps5
  go_wp2_with fail

  go_loopw [3, 13] (fun m i wr => ∃ j : Nat, j ≤ l.length ∧ i = .int .i64 j ∧ m = .int .i64 ((l.take j).foldl promS 0 : Nat) ∧ Below w.heap.size w wr) (fun _ i _ => l.length - (intOf i).toNat)
  case atStart => exact ⟨0, by omega, rfl, rfl, Below.refl _ _⟩
  case round =>
    obtain ⟨j, hj, rfl, rfl, hb⟩ := hrel
    by_cases hjl : j < l.length
    · obtain ⟨ad, A', c', rfl, hadl, _, k0, k1, hlc, hlb, hrd⟩ := HR.out j hjl
      have hk := Keep.of_below (S := fun _ => False) hb
      have k0' : wr.cell? (ad.add (j * 2)) = some (.int .i64 (l[j]).kind) := (hk.cell (p := ad.add (j * 2)) (by rw [block_add]; exact hadl) (fun h => h)).trans k0
      have k1' : wr.cell? ⟨(ad.add (j * 2)).block, (ad.add (j * 2)).off + 1, none⟩ = some (.slice A' (l[j]).body.length c') := (hk.cell (p := ⟨(ad.add (j * 2)).block, (ad.add (j * 2)).off + 1, none⟩) (by show (ad.add (j * 2)).block < _; rw [block_add]; exact hadl) (fun h => h)).trans k1
      have hrd' := hrd.keep hk (Nat.le_refl _) (fun _ _ _ h => h)
      have hfold : (l.take (j + 1)).foldl promS 0 = promS ((l.take j).foldl promS 0) l[j] := by rw [List.take_succ_eq_append_getElem hjl, List.foldl_append]; rfl
      have HFD := Lib.hid hfold
      clear hfold k0 k1 hrd
      generalize (l.take j).foldl promS 0 = most at HFD ⊢
      generalize l[j] = r at *
      obtain ⟨kind, body⟩ := r
      simp only [] at k0' k1' hlc hlb hrd'
      have HRD := Lib.hid hrd'
      clear hrd'
      by_cases h1 : kind = 1
      · subst h1
        go_wp2_with fail
        have hb1 : Below w.heap.size w (wr.alloc (.cells #[.int .i64 1, .slice A' body.length c'] 29)) := hb.alloc hb.size _
        have hE1 : Env (wr.alloc (.cells #[.int .i64 1, .slice A' body.length c'] 29)) := HE.out.keep (S := fun _ => False) (Keep.of_below hb1) HE.out.size (fun _ _ h => h)
        have he64 := HE.out.size
        have hN1 : ∀ i : Nat, i < 16 → (wr.alloc (.cells #[.int .i64 1, .slice A' body.length c'] 29)).cell? ⟨0, i, none⟩ = some (.int .u32 (nib i).toNat) := fun i hi => ((Keep.of_below (S := fun _ => False) hb1).cell (p := ⟨0, i, none⟩) (by show 0 < _; omega) (fun h => h)).trans (HNB.out i hi)
        have HC := ccheckpoint A' c' body (fun _ => True) _ (HRD.out.alloc (.cells #[.int .i64 1, .slice A' body.length c'] 29)) hlb hlc hE1 hN1
        clear hE1 hN1
        refine HC.mono ?_
        rintro e2 w2 ⟨v, ev, rfl, ⟨vs, vt, rfl, ho1, ho2⟩, hf, hb2⟩
        obtain ⟨As, cs, rfl, _⟩ := own_slice ho1
        obtain ⟨At, ct, rfl, _⟩ := own_slice ho2
        have hb3 : Below w.heap.size w w2 := hb1.trans ((Keep.of_below (S := fun _ => False) hb2).mono (S' := fun _ => False) (by have := hb1.size; simp at this ⊢; omega) (fun _ _ h => h) |>.to_below (fun _ _ h => h))
        clear ho1 ho2 HC hb2 hb1
        rcases hf with ⟨hbad, rfl⟩ | ⟨hbad, fb, pt, rfl, _⟩
        · have HB := Lib.hid hbad
          clear hbad
          go_wp2
          refine ⟨⟨j + 1, by omega, by go_num, ?_, hb3.alloc hb3.size _⟩, by simp [intOf]; omega⟩
          have hv : promS most ⟨1, body⟩ = max (max most (cntV body)) (gEp body (cpS body)).1 := by
            unfold promS
            rw [if_pos rfl]
            simp only [HB.out, Bool.false_eq_true, if_false]
          rw [HFD.out, hv]
          exact congrArg (Value.int .i64) (max3_int _ _ _)
        · have HB := Lib.hid hbad
          clear hbad
          go_wp2
          refine ⟨⟨j + 1, by omega, by go_num, ?_, hb3.alloc hb3.size _⟩, by simp [intOf]; omega⟩
          rw [HFD.out]
          unfold promS
          rw [if_pos rfl, if_pos HB.out]
      · by_cases h4 : kind = 4
        · subst h4
          go_wp2_with fail
          have hb1 : Below w.heap.size w (wr.alloc (.cells #[.int .i64 4, .slice A' body.length c'] 29)) := hb.alloc hb.size _
          have HC := ccntR A' c' body (fun _ => True) _ (HRD.out.alloc (.cells #[.int .i64 4, .slice A' body.length c'] 29)) (by omega) hlc
          refine HC.mono ?_
          rintro e2 w2 ⟨ev, rfl, hf, hb2⟩
          have hb3 : Below w.heap.size w w2 := hb1.trans ((Keep.of_below (S := fun _ => False) hb2).mono (S' := fun _ => False) (by have := hb1.size; simp at this ⊢; omega) (fun _ _ h => h) |>.to_below (fun _ _ h => h))
          clear HC hb2 hb1
          rcases hf with ⟨hbad, rfl⟩ | ⟨hbad, fb, pt, rfl, _⟩
          · have HB := Lib.hid hbad
            clear hbad
            go_wp2
            refine ⟨⟨j + 1, by omega, by go_num, ?_, hb3⟩, by simp [intOf]; omega⟩
            have hv : promS most ⟨4, body⟩ = max most (cntV body) := by
              unfold promS
              rw [if_neg (by simp), if_pos rfl]
              simp only [HB.out, Bool.false_eq_true, if_false]
            rw [HFD.out, hv]
            exact congrArg (Value.int .i64) (by omega)
          · have HB := Lib.hid hbad
            clear hbad
            go_wp2
            refine ⟨⟨j + 1, by omega, by go_num, ?_, hb3⟩, by simp [intOf]; omega⟩
            rw [HFD.out]
            unfold promS
            rw [if_neg h1, if_pos rfl, if_pos HB.out]
        · have h1' : ((kind : Int) == 1) = false := by simpa using h1
          have h4' : ((kind : Int) == 4) = false := by simpa using h4
          go_wp2
          refine ⟨⟨j + 1, by omega, by go_num, ?_, hb.alloc hb.size _⟩, by simp [intOf]; omega⟩
          rw [HFD.out]
          unfold promS
          rw [if_neg h1, if_neg h4]
    · obtain rfl : j = l.length := by omega
      rw [List.take_length]
      go_wp2
      go_ret
      exact ⟨rfl, hb⟩
end Go.Proofs.YtjdageiphebfpaaDoor
