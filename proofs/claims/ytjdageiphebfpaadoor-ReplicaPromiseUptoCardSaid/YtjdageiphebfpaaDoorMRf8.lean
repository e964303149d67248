/- The reference's DecodeCommand (printed by wip/gen_ndec.py). -/
import Derived.Test.YtjdageiphebfpaaDoorMRf
import Derived.Test.YtjdageiphebfpaaDoorMRf7b
namespace Go.Proofs.YtjdageiphebfpaaDoor
open Go.RowKit
open Pl Mem

theorem three_new (w : World) (t1 : TypeId) (c1 : Array Value) (t2 : TypeId) (c2 : Array Value) (t3 : TypeId) (c3 : Array Value) :
    ∃ W, W = ((w.alloc (.cells c1 t1)).alloc (.cells c2 t2)).alloc (.cells c3 t3) ∧ Below w.heap.size w W ∧ Blk W w.heap.size t1 c1 ∧ Blk W (w.heap.size + 1) t2 c2 ∧ Blk W (w.heap.size + 1 + 1) t3 c3 ∧ W.heap.size = w.heap.size + 3 :=
  ⟨_, rfl, (((Below.refl _ _).alloc (Nat.le_refl _) _).alloc (by simp) _).alloc (by simp; omega) _, ((Blk.new w _ _).alloc _).alloc _, (Blk.new_ (by simp) _ _).alloc _, Blk.new_ (by simp) _ _, by simp⟩

/-- What stands in memory while a command is read: the result's cells, the reader, the command. -/
structure NDec (w W : World) (bs : Bytes) (cs : Array Value) (s : St) : Prop where
  res : Blk W w.heap.size 57 #[.int .i64 0, .int .i64 0, .int .i64 0, .int .i64 0, .string ⟨#[]⟩, .string ⟨#[]⟩, .string ⟨#[]⟩]
  rd : NRd W (w.heap.size + 1) (· < w.heap.size) bs s
  cmd : Blk W (w.heap.size + 1 + 1) 57 cs
  keep : Below w.heap.size w W

section
variable {w W W' : World} {bs : Bytes} {cs : Array Value} {s s' : St}
theorem NDec.call (h : NDec w W bs cs s) (hN : NRd W' (w.heap.size + 1) (· < w.heap.size) bs s') (hk : Keep W.heap.size (· = w.heap.size + 1) W W') : NDec w W' bs cs s' where
  res := h.res.keep hk h.res.lt (by omega)
  rd := hN
  cmd := h.cmd.keep hk h.cmd.lt (by omega)
  keep := ((Keep.of_below (S := fun _ => False) h.keep).and hk h.keep.size (fun k hk e => by omega)).to_below (fun _ _ h => h)
theorem NDec.set (h : NDec w W bs cs s) (i : Nat) (u : Value) : NDec w (W.setCell ⟨w.heap.size + 1 + 1, i, none⟩ u) bs (cs.setIfInBounds i u) s where
  res := h.res.far (by simp; omega) u
  rd := h.rd.keep (B := W.heap.size) (S := (· = w.heap.size + 1 + 1)) ((Keep.refl _ _ _).own i u) (Nat.le_refl _) (by simp) (fun k _ hk e => by omega)
  cmd := h.cmd.set_ i u
  keep := h.keep.setCell (by simp; omega) u
theorem NDec.belowM (h : NDec w W bs cs s) (hb : Below W.heap.size W W') : NDec w W' bs cs s where
  res := h.res.below hb h.res.lt
  rd := h.rd.keep (Keep.of_below (S := fun _ => False) hb) (Nat.le_refl _) (fun h => h) (fun _ _ _ h => h)
  cmd := h.cmd.below hb h.cmd.lt
  keep := h.keep.trans (hb.mono h.keep.size)
end

set_option maxRecDepth 100000 in
set_option maxHeartbeats 2000000 in
theorem ndecode (A : Option Addr) (n c : Nat) (bs : Bytes) (T : Nat → Prop) (w : World) (hr : Rd w T 1 A n (u8s bs)) (hn : n ≤ 1099511627776) (hc : n ≤ c) :
    Calls Tryd.prog 18 #[.slice A n c] w fun e w' => e = .returned (.tuple #[cmdV (eV bs), .int .i64 (eEr bs)]) ∧ Below w.heap.size w w' := by
  have hl := hr.len8
  subst hl
  have hr0 : Rd w (· < w.heap.size) 1 A bs.length (u8s bs) := hr.more fun k hk _ => hk
  have H1 := Lib.hid fun W h => (show Calls Tryd.prog 16 #[.pointer (some ⟨w.heap.size + 1, 0, none⟩), .int .i64 0, .int .i64 15] W fun e w' => e = .returned (.int .i64 (eC1 bs).1) ∧ NRd w' (w.heap.size + 1) (· < w.heap.size) bs (eC1 bs).2 ∧ Keep W.heap.size (· = (w.heap.size + 1)) W w' from nnum (w.heap.size + 1) (· < w.heap.size) bs ⟨0, false⟩ 0 15 W h)
  have H2 := Lib.hid fun W h => (show Calls Tryd.prog 16 #[.pointer (some ⟨w.heap.size + 1, 0, none⟩), .int .i64 1, .int .i64 4611686018427387904] W fun e w' => e = .returned (.int .i64 (eC2 bs).1) ∧ NRd w' (w.heap.size + 1) (· < w.heap.size) bs (eC2 bs).2 ∧ Keep W.heap.size (· = (w.heap.size + 1)) W w' from nnum (w.heap.size + 1) (· < w.heap.size) bs (eC1 bs).2 1 4611686018427387904 W h)
  have H3 := Lib.hid fun W h => (show Calls Tryd.prog 16 #[.pointer (some ⟨w.heap.size + 1, 0, none⟩), .int .i64 1, .int .i64 4611686018427387904] W fun e w' => e = .returned (.int .i64 (eC3 bs).1) ∧ NRd w' (w.heap.size + 1) (· < w.heap.size) bs (eC3 bs).2 ∧ Keep W.heap.size (· = (w.heap.size + 1)) W w' from nnum (w.heap.size + 1) (· < w.heap.size) bs (eC2 bs).2 1 4611686018427387904 W h)
  have H4 := Lib.hid fun W h => (show Calls Tryd.prog 16 #[.pointer (some ⟨w.heap.size + 1, 0, none⟩), .int .i64 1, .int .i64 9] W fun e w' => e = .returned (.int .i64 (eC4 bs).1) ∧ NRd w' (w.heap.size + 1) (· < w.heap.size) bs (eC4 bs).2 ∧ Keep W.heap.size (· = (w.heap.size + 1)) W w' from nnum (w.heap.size + 1) (· < w.heap.size) bs (eC3 bs).2 1 9 W h)
  have K1 := Lib.hid fun W h => (show Calls Tryd.prog 28 #[.pointer (some ⟨w.heap.size + 1, 0, none⟩), .int .i64 8] W fun e w' => e = .returned (.string ⟨(eT1 bs).1.toArray⟩) ∧ NRd w' (w.heap.size + 1) (· < w.heap.size) bs (eT1 bs).2 ∧ Keep W.heap.size (· = (w.heap.size + 1)) W w' from ntext (w.heap.size + 1) (· < w.heap.size) bs (eC4 bs).2 8 W hn h)
  have K2 := Lib.hid fun W h => (show Calls Tryd.prog 28 #[.pointer (some ⟨w.heap.size + 1, 0, none⟩), .int .i64 8] W fun e w' => e = .returned (.string ⟨(eT2 bs).1.toArray⟩) ∧ NRd w' (w.heap.size + 1) (· < w.heap.size) bs (eT2 bs).2 ∧ Keep W.heap.size (· = (w.heap.size + 1)) W w' from ntext (w.heap.size + 1) (· < w.heap.size) bs (eT1 bs).2 8 W hn h)
  have K3 := Lib.hid fun W h => (show Calls Tryd.prog 28 #[.pointer (some ⟨w.heap.size + 1, 0, none⟩), .int .i64 8] W fun e w' => e = .returned (.string ⟨(eT3 bs).1.toArray⟩) ∧ NRd w' (w.heap.size + 1) (· < w.heap.size) bs (eT3 bs).2 ∧ Keep W.heap.size (· = (w.heap.size + 1)) W w' from ntext (w.heap.size + 1) (· < w.heap.size) bs (eT2 bs).2 8 W hn h)
  have HS := Lib.hid fun W h => (show Calls Tryd.prog 19 #[.pointer (some ⟨w.heap.size + 1, 0, none⟩)] W fun e w' => e = .returned (.tuple #[]) ∧ NRd w' (w.heap.size + 1) (· < w.heap.size) bs (eE bs) ∧ Keep W.heap.size (· = (w.heap.size + 1)) W w' from nend (w.heap.size + 1) (· < w.heap.size) bs (eT3 bs).2 W h)
  have HV := Lib.hid fun W => ncheck (eCmd bs) W
  unfold cmdV eCmd at HV
  simp only [] at HV
  have h3 : bs.length ≤ 281474976710656 := by omega
  clear hn
  go_enter Tryd.func18, Tryd.ntmps18
  go_wp2_with fail
  obtain ⟨U0, hU, hbw, hz0, hg0, hc0, hs0⟩ := three_new w 57 #[.int .i64 0, .int .i64 0, .int .i64 0, .int .i64 0, .string ⟨#[]⟩, .string ⟨#[]⟩, .string ⟨#[]⟩] 53 #[.slice A bs.length c, .int .i64 0, .int .i64 0] 57 #[.int .i64 0, .int .i64 0, .int .i64 0, .int .i64 0, .string ⟨#[]⟩, .string ⟨#[]⟩, .string ⟨#[]⟩]
  rw [← hU]
  clear hU
  have hD0 : NDec w U0 bs #[.int .i64 0, .int .i64 0, .int .i64 0, .int .i64 0, .string ⟨#[]⟩, .string ⟨#[]⟩, .string ⟨#[]⟩] ⟨0, false⟩ := ⟨hz0, ⟨by omega, Nat.zero_le _, h3, A, c, 0, hc, by simp, hg0, hr0.keep (S := fun _ => False) (Keep.of_below hbw) (Nat.le_refl _) (fun _ _ _ h => h)⟩, hc0, hbw⟩
  clear hbw hg0 hr0 hz0 hc0 hs0
  refine (H1.out _ hD0.rd).mono ?_
  rintro e V0 ⟨rfl, hN, hj⟩
  have hE := hD0.call hN hj
  clear hD0 hN hj H1
  have r := hE.cmd.cell 0
  have f := hE.cmd.frozen 0
  go_wp2_with fail
  have hD1 : NDec w (V0.setCell ⟨w.heap.size + 1 + 1, 0, none⟩ (.int .i64 (eC1 bs).1)) bs #[.int .i64 (eC1 bs).1, .int .i64 0, .int .i64 0, .int .i64 0, .string ⟨#[]⟩, .string ⟨#[]⟩, .string ⟨#[]⟩] (eC1 bs).2 := hE.set 0 _
  clear r f hE
  generalize V0.setCell ⟨w.heap.size + 1 + 1, 0, none⟩ (.int .i64 (eC1 bs).1) = U1 at hD1 ⊢
  try clear V0
  refine (H2.out _ hD1.rd).mono ?_
  rintro e V1 ⟨rfl, hN, hj⟩
  have hE := hD1.call hN hj
  clear hD1 hN hj H2
  have r := hE.cmd.cell 1
  have f := hE.cmd.frozen 1
  go_wp2_with fail
  have hD2 : NDec w (V1.setCell ⟨w.heap.size + 1 + 1, 1, none⟩ (.int .i64 (eC2 bs).1)) bs #[.int .i64 (eC1 bs).1, .int .i64 (eC2 bs).1, .int .i64 0, .int .i64 0, .string ⟨#[]⟩, .string ⟨#[]⟩, .string ⟨#[]⟩] (eC2 bs).2 := hE.set 1 _
  clear r f hE
  generalize V1.setCell ⟨w.heap.size + 1 + 1, 1, none⟩ (.int .i64 (eC2 bs).1) = U2 at hD2 ⊢
  try clear V1
  refine (H3.out _ hD2.rd).mono ?_
  rintro e V2 ⟨rfl, hN, hj⟩
  have hE := hD2.call hN hj
  clear hD2 hN hj H3
  have r := hE.cmd.cell 2
  have f := hE.cmd.frozen 2
  go_wp2_with fail
  have hD3 : NDec w (V2.setCell ⟨w.heap.size + 1 + 1, 2, none⟩ (.int .i64 (eC3 bs).1)) bs #[.int .i64 (eC1 bs).1, .int .i64 (eC2 bs).1, .int .i64 (eC3 bs).1, .int .i64 0, .string ⟨#[]⟩, .string ⟨#[]⟩, .string ⟨#[]⟩] (eC3 bs).2 := hE.set 2 _
  clear r f hE
  generalize V2.setCell ⟨w.heap.size + 1 + 1, 2, none⟩ (.int .i64 (eC3 bs).1) = U3 at hD3 ⊢
  try clear V2
  refine (H4.out _ hD3.rd).mono ?_
  rintro e V3 ⟨rfl, hN, hj⟩
  have hE := hD3.call hN hj
  clear hD3 hN hj H4
  have r := hE.cmd.cell 3
  have f := hE.cmd.frozen 3
  go_wp2_with fail
  have hD4 : NDec w (V3.setCell ⟨w.heap.size + 1 + 1, 3, none⟩ (.int .i64 (eC4 bs).1)) bs #[.int .i64 (eC1 bs).1, .int .i64 (eC2 bs).1, .int .i64 (eC3 bs).1, .int .i64 (eC4 bs).1, .string ⟨#[]⟩, .string ⟨#[]⟩, .string ⟨#[]⟩] (eC4 bs).2 := hE.set 3 _
  clear r f hE
  generalize V3.setCell ⟨w.heap.size + 1 + 1, 3, none⟩ (.int .i64 (eC4 bs).1) = U4 at hD4 ⊢
  try clear V3
  refine (K1.out _ hD4.rd).mono ?_
  rintro e V4 ⟨rfl, hN, hj⟩
  have hE := hD4.call hN hj
  clear hD4 hN hj K1
  have r := hE.cmd.cell 4
  have f := hE.cmd.frozen 4
  go_wp2_with fail
  have hD5 : NDec w (V4.setCell ⟨w.heap.size + 1 + 1, 4, none⟩ (.string ⟨(eT1 bs).1.toArray⟩)) bs #[.int .i64 (eC1 bs).1, .int .i64 (eC2 bs).1, .int .i64 (eC3 bs).1, .int .i64 (eC4 bs).1, .string ⟨(eT1 bs).1.toArray⟩, .string ⟨#[]⟩, .string ⟨#[]⟩] (eT1 bs).2 := hE.set 4 _
  clear r f hE
  generalize V4.setCell ⟨w.heap.size + 1 + 1, 4, none⟩ (.string ⟨(eT1 bs).1.toArray⟩) = U5 at hD5 ⊢
  try clear V4
  refine (K2.out _ hD5.rd).mono ?_
  rintro e V5 ⟨rfl, hN, hj⟩
  have hE := hD5.call hN hj
  clear hD5 hN hj K2
  have r := hE.cmd.cell 5
  have f := hE.cmd.frozen 5
  go_wp2_with fail
  have hD6 : NDec w (V5.setCell ⟨w.heap.size + 1 + 1, 5, none⟩ (.string ⟨(eT2 bs).1.toArray⟩)) bs #[.int .i64 (eC1 bs).1, .int .i64 (eC2 bs).1, .int .i64 (eC3 bs).1, .int .i64 (eC4 bs).1, .string ⟨(eT1 bs).1.toArray⟩, .string ⟨(eT2 bs).1.toArray⟩, .string ⟨#[]⟩] (eT2 bs).2 := hE.set 5 _
  clear r f hE
  generalize V5.setCell ⟨w.heap.size + 1 + 1, 5, none⟩ (.string ⟨(eT2 bs).1.toArray⟩) = U6 at hD6 ⊢
  try clear V5
  refine (K3.out _ hD6.rd).mono ?_
  rintro e V6 ⟨rfl, hN, hj⟩
  have hE := hD6.call hN hj
  clear hD6 hN hj K3
  have r := hE.cmd.cell 6
  have f := hE.cmd.frozen 6
  go_wp2_with fail
  have hD7 : NDec w (V6.setCell ⟨w.heap.size + 1 + 1, 6, none⟩ (.string ⟨(eT3 bs).1.toArray⟩)) bs #[.int .i64 (eC1 bs).1, .int .i64 (eC2 bs).1, .int .i64 (eC3 bs).1, .int .i64 (eC4 bs).1, .string ⟨(eT1 bs).1.toArray⟩, .string ⟨(eT2 bs).1.toArray⟩, .string ⟨(eT3 bs).1.toArray⟩] (eT3 bs).2 := hE.set 6 _
  clear r f hE
  generalize V6.setCell ⟨w.heap.size + 1 + 1, 6, none⟩ (.string ⟨(eT3 bs).1.toArray⟩) = U7 at hD7 ⊢
  try clear V6
  refine (HS.out _ hD7.rd).mono ?_
  rintro e U ⟨rfl, hN, hj⟩
  have hD := hD7.call hN hj
  clear hD7 hN hj HS
  obtain ⟨_, _, _, A2, c2', E, _, hE, hbE, _⟩ := hD.rd
  have cE : U.cell? ⟨w.heap.size + 1, 2, none⟩ = some (.int .i64 E) := hbE.cell 2
  clear hbE
  have hT := hD.keep.size
  have z0 : U.cell? ⟨w.heap.size, 0, none⟩ = some (.int .i64 0) := hD.res.cell 0
  have y0 := hD.res.frozen 0
  have m0 : U.cell? ⟨w.heap.size + 1 + 1, 0, none⟩ = some (.int .i64 (eC1 bs).1) := hD.cmd.cell 0
  have z1 : U.cell? ⟨w.heap.size, 1, none⟩ = some (.int .i64 0) := hD.res.cell 1
  have y1 := hD.res.frozen 1
  have m1 : U.cell? ⟨w.heap.size + 1 + 1, 1, none⟩ = some (.int .i64 (eC2 bs).1) := hD.cmd.cell 1
  have z2 : U.cell? ⟨w.heap.size, 2, none⟩ = some (.int .i64 0) := hD.res.cell 2
  have y2 := hD.res.frozen 2
  have m2 : U.cell? ⟨w.heap.size + 1 + 1, 2, none⟩ = some (.int .i64 (eC3 bs).1) := hD.cmd.cell 2
  have z3 : U.cell? ⟨w.heap.size, 3, none⟩ = some (.int .i64 0) := hD.res.cell 3
  have y3 := hD.res.frozen 3
  have m3 : U.cell? ⟨w.heap.size + 1 + 1, 3, none⟩ = some (.int .i64 (eC4 bs).1) := hD.cmd.cell 3
  have z4 : U.cell? ⟨w.heap.size, 4, none⟩ = some (.string ⟨#[]⟩) := hD.res.cell 4
  have y4 := hD.res.frozen 4
  have m4 : U.cell? ⟨w.heap.size + 1 + 1, 4, none⟩ = some (.string ⟨(eT1 bs).1.toArray⟩) := hD.cmd.cell 4
  have z5 : U.cell? ⟨w.heap.size, 5, none⟩ = some (.string ⟨#[]⟩) := hD.res.cell 5
  have y5 := hD.res.frozen 5
  have m5 : U.cell? ⟨w.heap.size + 1 + 1, 5, none⟩ = some (.string ⟨(eT2 bs).1.toArray⟩) := hD.cmd.cell 5
  have z6 : U.cell? ⟨w.heap.size, 6, none⟩ = some (.string ⟨#[]⟩) := hD.res.cell 6
  have y6 := hD.res.frozen 6
  have m6 : U.cell? ⟨w.heap.size + 1 + 1, 6, none⟩ = some (.string ⟨(eT3 bs).1.toArray⟩) := hD.cmd.cell 6
  by_cases hbad : (eE bs).bad = true
  · have hE0 : E ≠ 0 := fun e => by have := hE.2 e; rw [hbad] at this; cases this
    have hE1 : ((E : Int) != 0) = true := by simp; omega
    have HF : Hid (Ending.returned (.tuple #[cmdV (eV bs), .int .i64 (eEr bs)]) = .returned (.tuple #[cmdV zeroCmd, .int .i64 130])) := by
      show _ = _; unfold eV eEr eOk; rw [hbad]; rfl
    clear hbad hE HV
    go_wp2
    have hzF : Blk (((((((U.setCell ⟨w.heap.size, 0, none⟩ (.int .i64 0)).setCell ⟨w.heap.size, 1, none⟩ (.int .i64 0)).setCell ⟨w.heap.size, 2, none⟩ (.int .i64 0)).setCell ⟨w.heap.size, 3, none⟩ (.int .i64 0)).setCell ⟨w.heap.size, 4, none⟩ (.string ⟨#[]⟩)).setCell ⟨w.heap.size, 5, none⟩ (.string ⟨#[]⟩)).setCell ⟨w.heap.size, 6, none⟩ (.string ⟨#[]⟩)) w.heap.size 57 #[.int .i64 0, .int .i64 0, .int .i64 0, .int .i64 0, .string ⟨#[]⟩, .string ⟨#[]⟩, .string ⟨#[]⟩] := (((((((hD.res.set_ 0 (.int .i64 0)).set_ 1 (.int .i64 0)).set_ 2 (.int .i64 0)).set_ 3 (.int .i64 0)).set_ 4 (.string ⟨#[]⟩)).set_ 5 (.string ⟨#[]⟩)).set_ 6 (.string ⟨#[]⟩))
    have hkF := ((((((((Keep.of_below (S := fun _ => False) hD.keep).new (g := w.heap.size) (Nat.le_refl _) 0 (.int .i64 0)).new (g := w.heap.size) (Nat.le_refl _) 1 (.int .i64 0)).new (g := w.heap.size) (Nat.le_refl _) 2 (.int .i64 0)).new (g := w.heap.size) (Nat.le_refl _) 3 (.int .i64 0)).new (g := w.heap.size) (Nat.le_refl _) 4 (.string ⟨#[]⟩)).new (g := w.heap.size) (Nat.le_refl _) 5 (.string ⟨#[]⟩)).new (g := w.heap.size) (Nat.le_refl _) 6 (.string ⟨#[]⟩))
    generalize (((((((U.setCell ⟨w.heap.size, 0, none⟩ (.int .i64 0)).setCell ⟨w.heap.size, 1, none⟩ (.int .i64 0)).setCell ⟨w.heap.size, 2, none⟩ (.int .i64 0)).setCell ⟨w.heap.size, 3, none⟩ (.int .i64 0)).setCell ⟨w.heap.size, 4, none⟩ (.string ⟨#[]⟩)).setCell ⟨w.heap.size, 5, none⟩ (.string ⟨#[]⟩)).setCell ⟨w.heap.size, 6, none⟩ (.string ⟨#[]⟩)) = Wf at hzF hkF ⊢
    have u0 : Wf.cell? ⟨w.heap.size, 0, none⟩ = some (.int .i64 0) := hzF.cell 0
    have u1 : Wf.cell? ⟨w.heap.size, 1, none⟩ = some (.int .i64 0) := hzF.cell 1
    have u2 : Wf.cell? ⟨w.heap.size, 2, none⟩ = some (.int .i64 0) := hzF.cell 2
    have u3 : Wf.cell? ⟨w.heap.size, 3, none⟩ = some (.int .i64 0) := hzF.cell 3
    have u4 : Wf.cell? ⟨w.heap.size, 4, none⟩ = some (.string ⟨#[]⟩) := hzF.cell 4
    have u5 : Wf.cell? ⟨w.heap.size, 5, none⟩ = some (.string ⟨#[]⟩) := hzF.cell 5
    have u6 : Wf.cell? ⟨w.heap.size, 6, none⟩ = some (.string ⟨#[]⟩) := hzF.cell 6
    exact bodyPost_ret (v := .tuple #[.agg #[.int .i64 0, .int .i64 0, .int .i64 0, .int .i64 0, .string ⟨#[]⟩, .string ⟨#[]⟩, .string ⟨#[]⟩], .int .i64 130]) (by simp [results, Tryd.results18, go_sem, u0, u1, u2, u3, u4, u5, u6]) rfl ⟨by rw [HF.out]; rfl, hkF.to_below (fun _ _ h => h)⟩
  · have hbad' : (eE bs).bad = false := by simpa using hbad
    obtain rfl : E = 0 := hE.1 hbad'
    clear hE
    cases hva : validC (eCmd bs) with
    | false =>
      have HF : Hid (Ending.returned (.tuple #[cmdV (eV bs), .int .i64 (eEr bs)]) = .returned (.tuple #[cmdV zeroCmd, .int .i64 130])) := by
        show _ = _; unfold eV eEr eOk; rw [hbad', hva]; rfl
      have HV2 := Lib.hid (HV.out U)
      have hva' : validC ⟨(eC1 bs).1, (eC2 bs).1, (eC3 bs).1, (eC4 bs).1, (eT1 bs).1, (eT2 bs).1, (eT3 bs).1⟩ = false := hva
      rw [hva'] at HV2
      simp only [Bool.false_eq_true, if_false, str] at HV2
      clear hbad hbad' HV hva hva'
      go_wp2_with fail
      refine HV2.out.mono ?_
      rintro e V ⟨rfl, hbV⟩
      have hDV := hD.belowM hbV
      have q0 : V.cell? ⟨w.heap.size, 0, none⟩ = some (.int .i64 0) := hDV.res.cell 0
      have p0 := hDV.res.frozen 0
      have q1 : V.cell? ⟨w.heap.size, 1, none⟩ = some (.int .i64 0) := hDV.res.cell 1
      have p1 := hDV.res.frozen 1
      have q2 : V.cell? ⟨w.heap.size, 2, none⟩ = some (.int .i64 0) := hDV.res.cell 2
      have p2 := hDV.res.frozen 2
      have q3 : V.cell? ⟨w.heap.size, 3, none⟩ = some (.int .i64 0) := hDV.res.cell 3
      have p3 := hDV.res.frozen 3
      have q4 : V.cell? ⟨w.heap.size, 4, none⟩ = some (.string ⟨#[]⟩) := hDV.res.cell 4
      have p4 := hDV.res.frozen 4
      have q5 : V.cell? ⟨w.heap.size, 5, none⟩ = some (.string ⟨#[]⟩) := hDV.res.cell 5
      have p5 := hDV.res.frozen 5
      have q6 : V.cell? ⟨w.heap.size, 6, none⟩ = some (.string ⟨#[]⟩) := hDV.res.cell 6
      have p6 := hDV.res.frozen 6
      clear hbV
      go_wp2
      have hzF : Blk (((((((V.setCell ⟨w.heap.size, 0, none⟩ (.int .i64 0)).setCell ⟨w.heap.size, 1, none⟩ (.int .i64 0)).setCell ⟨w.heap.size, 2, none⟩ (.int .i64 0)).setCell ⟨w.heap.size, 3, none⟩ (.int .i64 0)).setCell ⟨w.heap.size, 4, none⟩ (.string ⟨#[]⟩)).setCell ⟨w.heap.size, 5, none⟩ (.string ⟨#[]⟩)).setCell ⟨w.heap.size, 6, none⟩ (.string ⟨#[]⟩)) w.heap.size 57 #[.int .i64 0, .int .i64 0, .int .i64 0, .int .i64 0, .string ⟨#[]⟩, .string ⟨#[]⟩, .string ⟨#[]⟩] := (((((((hDV.res.set_ 0 (.int .i64 0)).set_ 1 (.int .i64 0)).set_ 2 (.int .i64 0)).set_ 3 (.int .i64 0)).set_ 4 (.string ⟨#[]⟩)).set_ 5 (.string ⟨#[]⟩)).set_ 6 (.string ⟨#[]⟩))
      have hkF := ((((((((Keep.of_below (S := fun _ => False) hDV.keep).new (g := w.heap.size) (Nat.le_refl _) 0 (.int .i64 0)).new (g := w.heap.size) (Nat.le_refl _) 1 (.int .i64 0)).new (g := w.heap.size) (Nat.le_refl _) 2 (.int .i64 0)).new (g := w.heap.size) (Nat.le_refl _) 3 (.int .i64 0)).new (g := w.heap.size) (Nat.le_refl _) 4 (.string ⟨#[]⟩)).new (g := w.heap.size) (Nat.le_refl _) 5 (.string ⟨#[]⟩)).new (g := w.heap.size) (Nat.le_refl _) 6 (.string ⟨#[]⟩))
      generalize (((((((V.setCell ⟨w.heap.size, 0, none⟩ (.int .i64 0)).setCell ⟨w.heap.size, 1, none⟩ (.int .i64 0)).setCell ⟨w.heap.size, 2, none⟩ (.int .i64 0)).setCell ⟨w.heap.size, 3, none⟩ (.int .i64 0)).setCell ⟨w.heap.size, 4, none⟩ (.string ⟨#[]⟩)).setCell ⟨w.heap.size, 5, none⟩ (.string ⟨#[]⟩)).setCell ⟨w.heap.size, 6, none⟩ (.string ⟨#[]⟩)) = Wf at hzF hkF ⊢
      have u0 : Wf.cell? ⟨w.heap.size, 0, none⟩ = some (.int .i64 0) := hzF.cell 0
      have u1 : Wf.cell? ⟨w.heap.size, 1, none⟩ = some (.int .i64 0) := hzF.cell 1
      have u2 : Wf.cell? ⟨w.heap.size, 2, none⟩ = some (.int .i64 0) := hzF.cell 2
      have u3 : Wf.cell? ⟨w.heap.size, 3, none⟩ = some (.int .i64 0) := hzF.cell 3
      have u4 : Wf.cell? ⟨w.heap.size, 4, none⟩ = some (.string ⟨#[]⟩) := hzF.cell 4
      have u5 : Wf.cell? ⟨w.heap.size, 5, none⟩ = some (.string ⟨#[]⟩) := hzF.cell 5
      have u6 : Wf.cell? ⟨w.heap.size, 6, none⟩ = some (.string ⟨#[]⟩) := hzF.cell 6
      exact bodyPost_ret (v := .tuple #[.agg #[.int .i64 0, .int .i64 0, .int .i64 0, .int .i64 0, .string ⟨#[]⟩, .string ⟨#[]⟩, .string ⟨#[]⟩], .int .i64 130]) (by simp [results, Tryd.results18, go_sem, u0, u1, u2, u3, u4, u5, u6]) rfl ⟨by rw [HF.out]; rfl, hkF.to_below (fun _ _ h => h)⟩
    | true =>
      have HF : Hid (Ending.returned (.tuple #[cmdV (eV bs), .int .i64 (eEr bs)]) = .returned (.tuple #[cmdV (eCmd bs), .int .i64 0])) := by
        show _ = _; unfold eV eEr eOk; rw [hbad', hva]; rfl
      have HV2 := Lib.hid (HV.out U)
      have hva' : validC ⟨(eC1 bs).1, (eC2 bs).1, (eC3 bs).1, (eC4 bs).1, (eT1 bs).1, (eT2 bs).1, (eT3 bs).1⟩ = true := hva
      rw [hva'] at HV2
      simp only [if_true, str] at HV2
      clear hbad hbad' HV hva hva'
      go_wp2_with fail
      refine HV2.out.mono ?_
      rintro e V ⟨rfl, hbV⟩
      have hDV := hD.belowM hbV
      have q0 : V.cell? ⟨w.heap.size, 0, none⟩ = some (.int .i64 0) := hDV.res.cell 0
      have p0 := hDV.res.frozen 0
      have n0 : V.cell? ⟨w.heap.size + 1 + 1, 0, none⟩ = some (.int .i64 (eC1 bs).1) := hDV.cmd.cell 0
      have q1 : V.cell? ⟨w.heap.size, 1, none⟩ = some (.int .i64 0) := hDV.res.cell 1
      have p1 := hDV.res.frozen 1
      have n1 : V.cell? ⟨w.heap.size + 1 + 1, 1, none⟩ = some (.int .i64 (eC2 bs).1) := hDV.cmd.cell 1
      have q2 : V.cell? ⟨w.heap.size, 2, none⟩ = some (.int .i64 0) := hDV.res.cell 2
      have p2 := hDV.res.frozen 2
      have n2 : V.cell? ⟨w.heap.size + 1 + 1, 2, none⟩ = some (.int .i64 (eC3 bs).1) := hDV.cmd.cell 2
      have q3 : V.cell? ⟨w.heap.size, 3, none⟩ = some (.int .i64 0) := hDV.res.cell 3
      have p3 := hDV.res.frozen 3
      have n3 : V.cell? ⟨w.heap.size + 1 + 1, 3, none⟩ = some (.int .i64 (eC4 bs).1) := hDV.cmd.cell 3
      have q4 : V.cell? ⟨w.heap.size, 4, none⟩ = some (.string ⟨#[]⟩) := hDV.res.cell 4
      have p4 := hDV.res.frozen 4
      have n4 : V.cell? ⟨w.heap.size + 1 + 1, 4, none⟩ = some (.string ⟨(eT1 bs).1.toArray⟩) := hDV.cmd.cell 4
      have q5 : V.cell? ⟨w.heap.size, 5, none⟩ = some (.string ⟨#[]⟩) := hDV.res.cell 5
      have p5 := hDV.res.frozen 5
      have n5 : V.cell? ⟨w.heap.size + 1 + 1, 5, none⟩ = some (.string ⟨(eT2 bs).1.toArray⟩) := hDV.cmd.cell 5
      have q6 : V.cell? ⟨w.heap.size, 6, none⟩ = some (.string ⟨#[]⟩) := hDV.res.cell 6
      have p6 := hDV.res.frozen 6
      have n6 : V.cell? ⟨w.heap.size + 1 + 1, 6, none⟩ = some (.string ⟨(eT3 bs).1.toArray⟩) := hDV.cmd.cell 6
      clear hbV
      go_wp2
      have hzF : Blk (((((((V.setCell ⟨w.heap.size, 0, none⟩ (.int .i64 (eC1 bs).1)).setCell ⟨w.heap.size, 1, none⟩ (.int .i64 (eC2 bs).1)).setCell ⟨w.heap.size, 2, none⟩ (.int .i64 (eC3 bs).1)).setCell ⟨w.heap.size, 3, none⟩ (.int .i64 (eC4 bs).1)).setCell ⟨w.heap.size, 4, none⟩ (.string ⟨(eT1 bs).1.toArray⟩)).setCell ⟨w.heap.size, 5, none⟩ (.string ⟨(eT2 bs).1.toArray⟩)).setCell ⟨w.heap.size, 6, none⟩ (.string ⟨(eT3 bs).1.toArray⟩)) w.heap.size 57 #[.int .i64 (eC1 bs).1, .int .i64 (eC2 bs).1, .int .i64 (eC3 bs).1, .int .i64 (eC4 bs).1, .string ⟨(eT1 bs).1.toArray⟩, .string ⟨(eT2 bs).1.toArray⟩, .string ⟨(eT3 bs).1.toArray⟩] := (((((((hDV.res.set_ 0 (.int .i64 (eC1 bs).1)).set_ 1 (.int .i64 (eC2 bs).1)).set_ 2 (.int .i64 (eC3 bs).1)).set_ 3 (.int .i64 (eC4 bs).1)).set_ 4 (.string ⟨(eT1 bs).1.toArray⟩)).set_ 5 (.string ⟨(eT2 bs).1.toArray⟩)).set_ 6 (.string ⟨(eT3 bs).1.toArray⟩))
      have hkF := ((((((((Keep.of_below (S := fun _ => False) hDV.keep).new (g := w.heap.size) (Nat.le_refl _) 0 (.int .i64 (eC1 bs).1)).new (g := w.heap.size) (Nat.le_refl _) 1 (.int .i64 (eC2 bs).1)).new (g := w.heap.size) (Nat.le_refl _) 2 (.int .i64 (eC3 bs).1)).new (g := w.heap.size) (Nat.le_refl _) 3 (.int .i64 (eC4 bs).1)).new (g := w.heap.size) (Nat.le_refl _) 4 (.string ⟨(eT1 bs).1.toArray⟩)).new (g := w.heap.size) (Nat.le_refl _) 5 (.string ⟨(eT2 bs).1.toArray⟩)).new (g := w.heap.size) (Nat.le_refl _) 6 (.string ⟨(eT3 bs).1.toArray⟩))
      generalize (((((((V.setCell ⟨w.heap.size, 0, none⟩ (.int .i64 (eC1 bs).1)).setCell ⟨w.heap.size, 1, none⟩ (.int .i64 (eC2 bs).1)).setCell ⟨w.heap.size, 2, none⟩ (.int .i64 (eC3 bs).1)).setCell ⟨w.heap.size, 3, none⟩ (.int .i64 (eC4 bs).1)).setCell ⟨w.heap.size, 4, none⟩ (.string ⟨(eT1 bs).1.toArray⟩)).setCell ⟨w.heap.size, 5, none⟩ (.string ⟨(eT2 bs).1.toArray⟩)).setCell ⟨w.heap.size, 6, none⟩ (.string ⟨(eT3 bs).1.toArray⟩)) = Wf at hzF hkF ⊢
      have u0 : Wf.cell? ⟨w.heap.size, 0, none⟩ = some (.int .i64 (eC1 bs).1) := hzF.cell 0
      have u1 : Wf.cell? ⟨w.heap.size, 1, none⟩ = some (.int .i64 (eC2 bs).1) := hzF.cell 1
      have u2 : Wf.cell? ⟨w.heap.size, 2, none⟩ = some (.int .i64 (eC3 bs).1) := hzF.cell 2
      have u3 : Wf.cell? ⟨w.heap.size, 3, none⟩ = some (.int .i64 (eC4 bs).1) := hzF.cell 3
      have u4 : Wf.cell? ⟨w.heap.size, 4, none⟩ = some (.string ⟨(eT1 bs).1.toArray⟩) := hzF.cell 4
      have u5 : Wf.cell? ⟨w.heap.size, 5, none⟩ = some (.string ⟨(eT2 bs).1.toArray⟩) := hzF.cell 5
      have u6 : Wf.cell? ⟨w.heap.size, 6, none⟩ = some (.string ⟨(eT3 bs).1.toArray⟩) := hzF.cell 6
      exact bodyPost_ret (v := .tuple #[.agg #[.int .i64 (eC1 bs).1, .int .i64 (eC2 bs).1, .int .i64 (eC3 bs).1, .int .i64 (eC4 bs).1, .string ⟨(eT1 bs).1.toArray⟩, .string ⟨(eT2 bs).1.toArray⟩, .string ⟨(eT3 bs).1.toArray⟩], .int .i64 0]) (by simp [results, Tryd.results18, go_sem, u0, u1, u2, u3, u4, u5, u6]) rfl ⟨by rw [HF.out]; rfl, hkF.to_below (fun _ _ h => h)⟩
end Go.Proofs.YtjdageiphebfpaaDoor
