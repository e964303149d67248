/- The walk of machine.DecodeCommand (printed by wip/gen_dec.py). -/
import Derived.Test.YtjdageiphebfpaaDoorMCmd4
import Derived.Test.YtjdageiphebfpaaDoorMWords
namespace Go.Proofs.YtjdageiphebfpaaDoor
open Go.RowKit
open Pl Mem

theorem MRd.keepT {w w' : World} {g B : Nat} {S : Nat → Prop} {bs : Bytes} {s : St} {n : Nat} (h : MRd w g (· < n) bs s) (hk : Keep B S w w') (hB : w.heap.size ≤ B) (hg : ¬ S g) (hS : ∀ k, k < n → ¬ S k) : MRd w' g (· < n) bs s :=
  h.keep hk hB hg (fun k _ hT => hS k hT)
theorem MRd.far {w : World} {g n : Nat} {bs : Bytes} {s : St} (h : MRd w g (· < n) bs s) {p : Addr} (hp : n ≤ p.block) (hg : g ≠ p.block) (u : Value) : MRd (w.setCell p u) g (· < n) bs s :=
  h.keepT (S := fun k => k = p.block) ((Keep.refl w.heap.size (fun k => k = p.block) w).setCell (p := p) (Or.inr rfl) u) (Nat.le_refl _) hg (fun k hk e => by omega)
theorem MRd.drewN {w : World} {g : Nat} {T : Nat → Prop} {bs : Bytes} {s : St} (h : MRd w g T bs s) (m : Nat) : MRd (w.drewN m) g T bs s := h

theorem four_new (w : World) (t1 : TypeId) (c1 : Array Value) (t2 : TypeId) (c2 : Array Value) (t3 : TypeId) (c3 : Array Value) (t4 : TypeId) (c4 : Array Value) :
    ∃ W, W = (((w.alloc (.cells c1 t1)).alloc (.cells c2 t2)).alloc (.cells c3 t3)).alloc (.cells c4 t4) ∧ Below w.heap.size w W ∧ Blk W w.heap.size t1 c1 ∧ Blk W (w.heap.size + 1) t2 c2 ∧ Blk W (w.heap.size + 1 + 1) t3 c3 ∧ Blk W (w.heap.size + 1 + 1 + 1) t4 c4 ∧ W.heap.size = w.heap.size + 4 :=
  ⟨_, rfl, ((((Below.refl _ _).alloc (Nat.le_refl _) _).alloc (by simp) _).alloc (by simp; omega) _).alloc (by simp; omega) _, (((Blk.new w _ _).alloc _).alloc _).alloc _, ((Blk.new_ (by simp) _ _).alloc _).alloc _, (Blk.new_ (by simp) _ _).alloc _, Blk.new_ (by simp) _ _, by simp⟩

set_option maxHeartbeats 1000000 in
theorem dec_bad (A : Option Addr) (c : Nat) (bs : Bytes) (w : World) (e : Env w) (hr0 : Rd w (· < w.heap.size) 1 A bs.length (u8s bs)) (hn : bs.length ≤ 281474976710656) (hc : bs.length ≤ c) (hso : soundC bs (dT3 bs).2 = false) :
    Calls Tryd.prog 40 #[.slice A bs.length c] w fun e w' => e = .returned (.tuple #[cmdV zeroCmd, .int .i64 130]) ∧ Below w.heap.size w w' := by
  have hsz := e.size
  have H1 := Lib.hid fun W (h : MRd W (w.heap.size + 1) (· < w.heap.size) bs ⟨0, false⟩) => (show Calls Tryd.prog 35 #[.pointer (some ⟨w.heap.size + 1, 0, none⟩), .int .i64 4611686018427387904] W fun e w' => e = .returned (.int .i64 (dC1 bs).1) ∧ MRd w' (w.heap.size + 1) (· < w.heap.size) bs (dC1 bs).2 ∧ Keep W.heap.size (· = (w.heap.size + 1)) W w' from mcount (w.heap.size + 1) (· < w.heap.size) bs ⟨0, false⟩ 4611686018427387904 W h (by omega) (by omega))
  have H2 := Lib.hid fun W (h : MRd W (w.heap.size + 1) (· < w.heap.size) bs (dC1 bs).2) => (show Calls Tryd.prog 35 #[.pointer (some ⟨w.heap.size + 1, 0, none⟩), .int .i64 4611686018427387904] W fun e w' => e = .returned (.int .i64 (dC2 bs).1) ∧ MRd w' (w.heap.size + 1) (· < w.heap.size) bs (dC2 bs).2 ∧ Keep W.heap.size (· = (w.heap.size + 1)) W w' from mcount (w.heap.size + 1) (· < w.heap.size) bs (dC1 bs).2 4611686018427387904 W h (by omega) (by omega))
  have H3 := Lib.hid fun W (h : MRd W (w.heap.size + 1) (· < w.heap.size) bs (dC2 bs).2) => (show Calls Tryd.prog 35 #[.pointer (some ⟨w.heap.size + 1, 0, none⟩), .int .i64 4611686018427387904] W fun e w' => e = .returned (.int .i64 (dC3 bs).1) ∧ MRd w' (w.heap.size + 1) (· < w.heap.size) bs (dC3 bs).2 ∧ Keep W.heap.size (· = (w.heap.size + 1)) W w' from mcount (w.heap.size + 1) (· < w.heap.size) bs (dC2 bs).2 4611686018427387904 W h (by omega) (by omega))
  have H4 := Lib.hid fun W (h : MRd W (w.heap.size + 1) (· < w.heap.size) bs (dC3 bs).2) => (show Calls Tryd.prog 35 #[.pointer (some ⟨w.heap.size + 1, 0, none⟩), .int .i64 4611686018427387904] W fun e w' => e = .returned (.int .i64 (dC4 bs).1) ∧ MRd w' (w.heap.size + 1) (· < w.heap.size) bs (dC4 bs).2 ∧ Keep W.heap.size (· = (w.heap.size + 1)) W w' from mcount (w.heap.size + 1) (· < w.heap.size) bs (dC3 bs).2 4611686018427387904 W h (by omega) (by omega))
  have K1 := Lib.hid fun W (h : MRd W (w.heap.size + 1) (· < w.heap.size) bs (dC4 bs).2) => (show Calls Tryd.prog 45 #[.pointer (some ⟨w.heap.size + 1, 0, none⟩), .int .i64 8] W fun e w' => e = .returned (str (dT1 bs).1) ∧ MRd w' (w.heap.size + 1) (· < w.heap.size) bs (dT1 bs).2 ∧ Keep W.heap.size (· = (w.heap.size + 1)) W w' from mtext (w.heap.size + 1) (· < w.heap.size) bs (dC4 bs).2 8 W h (by omega) (by omega))
  have K2 := Lib.hid fun W (h : MRd W (w.heap.size + 1) (· < w.heap.size) bs (dT1 bs).2) => (show Calls Tryd.prog 45 #[.pointer (some ⟨w.heap.size + 1, 0, none⟩), .int .i64 8] W fun e w' => e = .returned (str (dT2 bs).1) ∧ MRd w' (w.heap.size + 1) (· < w.heap.size) bs (dT2 bs).2 ∧ Keep W.heap.size (· = (w.heap.size + 1)) W w' from mtext (w.heap.size + 1) (· < w.heap.size) bs (dT1 bs).2 8 W h (by omega) (by omega))
  have K3 := Lib.hid fun W (h : MRd W (w.heap.size + 1) (· < w.heap.size) bs (dT2 bs).2) => (show Calls Tryd.prog 45 #[.pointer (some ⟨w.heap.size + 1, 0, none⟩), .int .i64 8] W fun e w' => e = .returned (str (dT3 bs).1) ∧ MRd w' (w.heap.size + 1) (· < w.heap.size) bs (dT3 bs).2 ∧ Keep W.heap.size (· = (w.heap.size + 1)) W w' from mtext (w.heap.size + 1) (· < w.heap.size) bs (dT2 bs).2 8 W h (by omega) (by omega))
  have HS := Lib.hid fun W (h : MRd W (w.heap.size + 1) (· < w.heap.size) bs (dT3 bs).2) => (show Calls Tryd.prog 39 #[.pointer (some ⟨w.heap.size + 1, 0, none⟩)] W fun e w' => e = .returned (.bool (soundC bs (dT3 bs).2)) ∧ ∃ m, w' = W.drewN m from msound (w.heap.size + 1) (· < w.heap.size) bs (dT3 bs).2 W h)
  have hlocT : ∀ k, k < w.heap.size → ¬ k = w.heap.size + 1 := by intro k hk; omega
  go_enter Tryd.func40, Tryd.ntmps40
  go_wp2
  obtain ⟨U0, hU, hbw, hz0, hg0, hc0, hp0, hs0⟩ := four_new w 57 #[.int .i64 0, .int .i64 0, .int .i64 0, .int .i64 0, .string ⟨#[]⟩, .string ⟨#[]⟩, .string ⟨#[]⟩] 85 #[.slice A bs.length c, .int .i64 0, .bool false] 57 #[.int .i64 0, .int .i64 0, .int .i64 0, .int .i64 0, .string ⟨#[]⟩, .string ⟨#[]⟩, .string ⟨#[]⟩] 118 #[.pointer (some ⟨w.heap.size + 1 + 1, 0, none⟩), .pointer (some ⟨w.heap.size + 1 + 1, 1, none⟩), .pointer (some ⟨w.heap.size + 1 + 1, 2, none⟩), .pointer (some ⟨w.heap.size + 1 + 1, 3, none⟩)]
  rw [← hU]
  clear hU
  have hM0 : MRd U0 (w.heap.size + 1) (· < w.heap.size) bs ⟨0, false⟩ := ⟨by omega, Nat.zero_le _, hn, A, c, hc, hg0, hr0.keep (S := fun _ => False) (Keep.of_below hbw) (Nat.le_refl _) (fun _ _ _ h => h)⟩
  have hk0 : Keep w.heap.size (fun _ => False) w U0 := Keep.of_below hbw
  clear hbw hg0 hr0
  refine wp_loop_rounds 5 ?_
  rw [rounds_succ]
  have q1 : U0.cell? ⟨w.heap.size + 1 + 1 + 1, 0, none⟩ = some (.pointer (some ⟨w.heap.size + 1 + 1, 0, none⟩)) := hp0.cell 0
  go_wp2_with fail
  refine (H1.out _ hM0).mono ?_
  rintro e V1 ⟨rfl, hN1, hj1⟩
  have hz1' := hz0.keep hj1 hz0.lt (by omega)
  have hc1' := hc0.keep hj1 hc0.lt (by omega)
  have hp1' := hp0.keep hj1 hp0.lt (by omega)
  have hk1' := hk0.and hj1 (by omega) (fun k hk e => absurd e (hlocT k hk))
  have r1 : V1.cell? ⟨w.heap.size + 1 + 1, 0, none⟩ = some (.int .i64 0) := hc1'.cell 0
  have f1 := hc1'.frozen 0
  have hs1' : w.heap.size + 4 ≤ V1.heap.size := by have := hj1.size; omega
  clear q1 hz0 hc0 hp0 hk0 hM0 hj1 hs0
  go_wp2_with fail
  have hz1 := hz1'.far (p := ⟨w.heap.size + 1 + 1, 0, none⟩) (by simp; omega) (.int .i64 (dC1 bs).1)
  have hp1 := hp1'.far (p := ⟨w.heap.size + 1 + 1, 0, none⟩) (by simp) (.int .i64 (dC1 bs).1)
  have hM1 := hN1.far (p := ⟨w.heap.size + 1 + 1, 0, none⟩) (by simp; omega) (by simp) (.int .i64 (dC1 bs).1)
  have hk1 := hk1'.new (g := w.heap.size + 1 + 1) (by omega) 0 (.int .i64 (dC1 bs).1)
  have hc1 : Blk (V1.setCell ⟨w.heap.size + 1 + 1, 0, none⟩ (.int .i64 (dC1 bs).1)) (w.heap.size + 1 + 1) 57 #[.int .i64 (dC1 bs).1, .int .i64 0, .int .i64 0, .int .i64 0, .string ⟨#[]⟩, .string ⟨#[]⟩, .string ⟨#[]⟩] := hc1'.set_ 0 _
  have hs1 : w.heap.size + 4 ≤ (V1.setCell ⟨w.heap.size + 1 + 1, 0, none⟩ (.int .i64 (dC1 bs).1)).heap.size := by simpa [World.setCell] using hs1'
  clear r1 f1 hz1' hc1' hp1' hk1' hN1 hs1'
  generalize V1.setCell ⟨w.heap.size + 1 + 1, 0, none⟩ (.int .i64 (dC1 bs).1) = U1 at *
  rw [rounds_succ]
  have q2 : U1.cell? ⟨w.heap.size + 1 + 1 + 1, 1, none⟩ = some (.pointer (some ⟨w.heap.size + 1 + 1, 1, none⟩)) := hp1.cell 1
  go_wp2_with fail
  refine (H2.out _ hM1).mono ?_
  rintro e V2 ⟨rfl, hN2, hj2⟩
  have hz2' := hz1.keep hj2 hz1.lt (by omega)
  have hc2' := hc1.keep hj2 hc1.lt (by omega)
  have hp2' := hp1.keep hj2 hp1.lt (by omega)
  have hk2' := hk1.and hj2 (by omega) (fun k hk e => absurd e (hlocT k hk))
  have r2 : V2.cell? ⟨w.heap.size + 1 + 1, 1, none⟩ = some (.int .i64 0) := hc2'.cell 1
  have f2 := hc2'.frozen 1
  have hs2' : w.heap.size + 4 ≤ V2.heap.size := by have := hj2.size; omega
  clear q2 hz1 hc1 hp1 hk1 hM1 hj2 hs1
  go_wp2_with fail
  have hz2 := hz2'.far (p := ⟨w.heap.size + 1 + 1, 1, none⟩) (by simp; omega) (.int .i64 (dC2 bs).1)
  have hp2 := hp2'.far (p := ⟨w.heap.size + 1 + 1, 1, none⟩) (by simp) (.int .i64 (dC2 bs).1)
  have hM2 := hN2.far (p := ⟨w.heap.size + 1 + 1, 1, none⟩) (by simp; omega) (by simp) (.int .i64 (dC2 bs).1)
  have hk2 := hk2'.new (g := w.heap.size + 1 + 1) (by omega) 1 (.int .i64 (dC2 bs).1)
  have hc2 : Blk (V2.setCell ⟨w.heap.size + 1 + 1, 1, none⟩ (.int .i64 (dC2 bs).1)) (w.heap.size + 1 + 1) 57 #[.int .i64 (dC1 bs).1, .int .i64 (dC2 bs).1, .int .i64 0, .int .i64 0, .string ⟨#[]⟩, .string ⟨#[]⟩, .string ⟨#[]⟩] := hc2'.set_ 1 _
  have hs2 : w.heap.size + 4 ≤ (V2.setCell ⟨w.heap.size + 1 + 1, 1, none⟩ (.int .i64 (dC2 bs).1)).heap.size := by simpa [World.setCell] using hs2'
  clear r2 f2 hz2' hc2' hp2' hk2' hN2 hs2'
  generalize V2.setCell ⟨w.heap.size + 1 + 1, 1, none⟩ (.int .i64 (dC2 bs).1) = U2 at *
  rw [rounds_succ]
  have q3 : U2.cell? ⟨w.heap.size + 1 + 1 + 1, 2, none⟩ = some (.pointer (some ⟨w.heap.size + 1 + 1, 2, none⟩)) := hp2.cell 2
  go_wp2_with fail
  refine (H3.out _ hM2).mono ?_
  rintro e V3 ⟨rfl, hN3, hj3⟩
  have hz3' := hz2.keep hj3 hz2.lt (by omega)
  have hc3' := hc2.keep hj3 hc2.lt (by omega)
  have hp3' := hp2.keep hj3 hp2.lt (by omega)
  have hk3' := hk2.and hj3 (by omega) (fun k hk e => absurd e (hlocT k hk))
  have r3 : V3.cell? ⟨w.heap.size + 1 + 1, 2, none⟩ = some (.int .i64 0) := hc3'.cell 2
  have f3 := hc3'.frozen 2
  have hs3' : w.heap.size + 4 ≤ V3.heap.size := by have := hj3.size; omega
  clear q3 hz2 hc2 hp2 hk2 hM2 hj3 hs2
  go_wp2_with fail
  have hz3 := hz3'.far (p := ⟨w.heap.size + 1 + 1, 2, none⟩) (by simp; omega) (.int .i64 (dC3 bs).1)
  have hp3 := hp3'.far (p := ⟨w.heap.size + 1 + 1, 2, none⟩) (by simp) (.int .i64 (dC3 bs).1)
  have hM3 := hN3.far (p := ⟨w.heap.size + 1 + 1, 2, none⟩) (by simp; omega) (by simp) (.int .i64 (dC3 bs).1)
  have hk3 := hk3'.new (g := w.heap.size + 1 + 1) (by omega) 2 (.int .i64 (dC3 bs).1)
  have hc3 : Blk (V3.setCell ⟨w.heap.size + 1 + 1, 2, none⟩ (.int .i64 (dC3 bs).1)) (w.heap.size + 1 + 1) 57 #[.int .i64 (dC1 bs).1, .int .i64 (dC2 bs).1, .int .i64 (dC3 bs).1, .int .i64 0, .string ⟨#[]⟩, .string ⟨#[]⟩, .string ⟨#[]⟩] := hc3'.set_ 2 _
  have hs3 : w.heap.size + 4 ≤ (V3.setCell ⟨w.heap.size + 1 + 1, 2, none⟩ (.int .i64 (dC3 bs).1)).heap.size := by simpa [World.setCell] using hs3'
  clear r3 f3 hz3' hc3' hp3' hk3' hN3 hs3'
  generalize V3.setCell ⟨w.heap.size + 1 + 1, 2, none⟩ (.int .i64 (dC3 bs).1) = U3 at *
  rw [rounds_succ]
  have q4 : U3.cell? ⟨w.heap.size + 1 + 1 + 1, 3, none⟩ = some (.pointer (some ⟨w.heap.size + 1 + 1, 3, none⟩)) := hp3.cell 3
  go_wp2_with fail
  refine (H4.out _ hM3).mono ?_
  rintro e V4 ⟨rfl, hN4, hj4⟩
  have hz4' := hz3.keep hj4 hz3.lt (by omega)
  have hc4' := hc3.keep hj4 hc3.lt (by omega)
  have hp4' := hp3.keep hj4 hp3.lt (by omega)
  have hk4' := hk3.and hj4 (by omega) (fun k hk e => absurd e (hlocT k hk))
  have r4 : V4.cell? ⟨w.heap.size + 1 + 1, 3, none⟩ = some (.int .i64 0) := hc4'.cell 3
  have f4 := hc4'.frozen 3
  have hs4' : w.heap.size + 4 ≤ V4.heap.size := by have := hj4.size; omega
  clear q4 hz3 hc3 hp3 hk3 hM3 hj4 hs3
  go_wp2_with fail
  have hz4 := hz4'.far (p := ⟨w.heap.size + 1 + 1, 3, none⟩) (by simp; omega) (.int .i64 (dC4 bs).1)
  have hp4 := hp4'.far (p := ⟨w.heap.size + 1 + 1, 3, none⟩) (by simp) (.int .i64 (dC4 bs).1)
  have hM4 := hN4.far (p := ⟨w.heap.size + 1 + 1, 3, none⟩) (by simp; omega) (by simp) (.int .i64 (dC4 bs).1)
  have hk4 := hk4'.new (g := w.heap.size + 1 + 1) (by omega) 3 (.int .i64 (dC4 bs).1)
  have hc4 : Blk (V4.setCell ⟨w.heap.size + 1 + 1, 3, none⟩ (.int .i64 (dC4 bs).1)) (w.heap.size + 1 + 1) 57 #[.int .i64 (dC1 bs).1, .int .i64 (dC2 bs).1, .int .i64 (dC3 bs).1, .int .i64 (dC4 bs).1, .string ⟨#[]⟩, .string ⟨#[]⟩, .string ⟨#[]⟩] := hc4'.set_ 3 _
  have hs4 : w.heap.size + 4 ≤ (V4.setCell ⟨w.heap.size + 1 + 1, 3, none⟩ (.int .i64 (dC4 bs).1)).heap.size := by simpa [World.setCell] using hs4'
  clear r4 f4 hz4' hc4' hp4' hk4' hN4 hs4'
  generalize V4.setCell ⟨w.heap.size + 1 + 1, 3, none⟩ (.int .i64 (dC4 bs).1) = U4 at *
  rw [rounds_succ]
  go_wp2_with fail
  refine (K1.out _ hM4).mono ?_
  rintro e W1 ⟨rfl, hMt1, hj⟩
  have hzt1 := hz4.keep hj hz4.lt (by omega)
  have hct1 := hc4.keep hj hc4.lt (by omega)
  have hkt1 := hk4.and hj (by omega) (fun k hk e => absurd e (hlocT k hk))
  have hst1 : w.heap.size + 4 ≤ W1.heap.size := by have := hj.size; omega
  clear hj hz4 hc4 hk4 hM4 hs4 hp4
  go_wp2_with fail
  refine (K2.out _ hMt1).mono ?_
  rintro e W2 ⟨rfl, hMt2, hj⟩
  have hzt2 := hzt1.keep hj hzt1.lt (by omega)
  have hct2 := hct1.keep hj hct1.lt (by omega)
  have hkt2 := hkt1.and hj (by omega) (fun k hk e => absurd e (hlocT k hk))
  have hst2 : w.heap.size + 4 ≤ W2.heap.size := by have := hj.size; omega
  clear hj hzt1 hct1 hkt1 hMt1 hst1
  go_wp2_with fail
  refine (K3.out _ hMt2).mono ?_
  rintro e W3 ⟨rfl, hMt3, hj⟩
  have hzt3 := hzt2.keep hj hzt2.lt (by omega)
  have hct3 := hct2.keep hj hct2.lt (by omega)
  have hkt3 := hkt2.and hj (by omega) (fun k hk e => absurd e (hlocT k hk))
  have hst3 : w.heap.size + 4 ≤ W3.heap.size := by have := hj.size; omega
  clear hj hzt2 hct2 hkt2 hMt2 hst2
  have r4 : W3.cell? ⟨w.heap.size + 1 + 1, 4, none⟩ = some (.string ⟨#[]⟩) := hct3.cell 4
  have f4 := hct3.frozen 4
  have r5 : W3.cell? ⟨w.heap.size + 1 + 1, 5, none⟩ = some (.string ⟨#[]⟩) := hct3.cell 5
  have f5 := hct3.frozen 5
  have r6 : W3.cell? ⟨w.heap.size + 1 + 1, 6, none⟩ = some (.string ⟨#[]⟩) := hct3.cell 6
  have f6 := hct3.frozen 6
  have hcU : Blk (((W3.setCell ⟨w.heap.size + 1 + 1, 4, none⟩ (str (dT1 bs).1)).setCell ⟨w.heap.size + 1 + 1, 5, none⟩ (str (dT2 bs).1)).setCell ⟨w.heap.size + 1 + 1, 6, none⟩ (str (dT3 bs).1)) (w.heap.size + 1 + 1) 57 #[.int .i64 (dC1 bs).1, .int .i64 (dC2 bs).1, .int .i64 (dC3 bs).1, .int .i64 (dC4 bs).1, str (dT1 bs).1, str (dT2 bs).1, str (dT3 bs).1] := ((hct3.set_ 4 _).set_ 5 _).set_ 6 _
  have hzU := ((hzt3.far (p := ⟨w.heap.size + 1 + 1, 4, none⟩) (by simp; omega) (str (dT1 bs).1)).far (p := ⟨w.heap.size + 1 + 1, 5, none⟩) (by simp; omega) (str (dT2 bs).1)).far (p := ⟨w.heap.size + 1 + 1, 6, none⟩) (by simp; omega) (str (dT3 bs).1)
  have hMU := ((hMt3.far (p := ⟨w.heap.size + 1 + 1, 4, none⟩) (by simp; omega) (by simp) (str (dT1 bs).1)).far (p := ⟨w.heap.size + 1 + 1, 5, none⟩) (by simp; omega) (by simp) (str (dT2 bs).1)).far (p := ⟨w.heap.size + 1 + 1, 6, none⟩) (by simp; omega) (by simp) (str (dT3 bs).1)
  have hkU := ((hkt3.new (g := w.heap.size + 1 + 1) (by omega) 4 (str (dT1 bs).1)).new (g := w.heap.size + 1 + 1) (by omega) 5 (str (dT2 bs).1)).new (g := w.heap.size + 1 + 1) (by omega) 6 (str (dT3 bs).1)
  have hsU : w.heap.size + 4 ≤ (((W3.setCell ⟨w.heap.size + 1 + 1, 4, none⟩ (str (dT1 bs).1)).setCell ⟨w.heap.size + 1 + 1, 5, none⟩ (str (dT2 bs).1)).setCell ⟨w.heap.size + 1 + 1, 6, none⟩ (str (dT3 bs).1)).heap.size := by simpa [World.setCell] using hst3
  unfold str at hcU hzU hMU hkU hsU ⊢
  clear hzt3 hMt3 hkt3 hst3
  go_wp2_with fail
  generalize ((W3.setCell ⟨w.heap.size + 1 + 1, 4, none⟩ (.string ⟨(dT1 bs).1.toArray⟩)).setCell ⟨w.heap.size + 1 + 1, 5, none⟩ (.string ⟨(dT2 bs).1.toArray⟩)).setCell ⟨w.heap.size + 1 + 1, 6, none⟩ (.string ⟨(dT3 bs).1.toArray⟩) = U at hcU hzU hMU hkU hsU ⊢
  clear r4 f4 r5 f5 r6 f6
  refine (HS.out _ hMU).mono ?_
  rintro e W' ⟨rfl, m, rfl⟩
  clear hMU
  have hz := hzU.drewN m
  have hk := hkU.drewN m
  have hcm0 := hcU.drewN m
  have hsm : w.heap.size + 4 ≤ (U.drewN m).heap.size := hsU
  clear hzU hkU hcU hsU
  generalize U.drewN m = U' at *
  clear hcm0 hsm
  have z0 : U'.cell? ⟨w.heap.size, 0, none⟩ = some (.int .i64 0) := hz.cell 0
  have y0 := hz.frozen 0
  have z1 : U'.cell? ⟨w.heap.size, 1, none⟩ = some (.int .i64 0) := hz.cell 1
  have y1 := hz.frozen 1
  have z2 : U'.cell? ⟨w.heap.size, 2, none⟩ = some (.int .i64 0) := hz.cell 2
  have y2 := hz.frozen 2
  have z3 : U'.cell? ⟨w.heap.size, 3, none⟩ = some (.int .i64 0) := hz.cell 3
  have y3 := hz.frozen 3
  have z4 : U'.cell? ⟨w.heap.size, 4, none⟩ = some (.string ⟨#[]⟩) := hz.cell 4
  have y4 := hz.frozen 4
  have z5 : U'.cell? ⟨w.heap.size, 5, none⟩ = some (.string ⟨#[]⟩) := hz.cell 5
  have y5 := hz.frozen 5
  have z6 : U'.cell? ⟨w.heap.size, 6, none⟩ = some (.string ⟨#[]⟩) := hz.cell 6
  have y6 := hz.frozen 6
  go_wp2
  have hzF : Blk (((((((U'.setCell ⟨w.heap.size, 0, none⟩ (.int .i64 0)).setCell ⟨w.heap.size, 1, none⟩ (.int .i64 0)).setCell ⟨w.heap.size, 2, none⟩ (.int .i64 0)).setCell ⟨w.heap.size, 3, none⟩ (.int .i64 0)).setCell ⟨w.heap.size, 4, none⟩ (.string ⟨#[]⟩)).setCell ⟨w.heap.size, 5, none⟩ (.string ⟨#[]⟩)).setCell ⟨w.heap.size, 6, none⟩ (.string ⟨#[]⟩)) w.heap.size 57 #[.int .i64 0, .int .i64 0, .int .i64 0, .int .i64 0, .string ⟨#[]⟩, .string ⟨#[]⟩, .string ⟨#[]⟩] := (((((((hz.set_ 0 (.int .i64 0)).set_ 1 (.int .i64 0)).set_ 2 (.int .i64 0)).set_ 3 (.int .i64 0)).set_ 4 (.string ⟨#[]⟩)).set_ 5 (.string ⟨#[]⟩)).set_ 6 (.string ⟨#[]⟩))
  have hkF := (((((((hk.new (g := w.heap.size) (Nat.le_refl _) 0 (.int .i64 0)).new (g := w.heap.size) (Nat.le_refl _) 1 (.int .i64 0)).new (g := w.heap.size) (Nat.le_refl _) 2 (.int .i64 0)).new (g := w.heap.size) (Nat.le_refl _) 3 (.int .i64 0)).new (g := w.heap.size) (Nat.le_refl _) 4 (.string ⟨#[]⟩)).new (g := w.heap.size) (Nat.le_refl _) 5 (.string ⟨#[]⟩)).new (g := w.heap.size) (Nat.le_refl _) 6 (.string ⟨#[]⟩))
  generalize (((((((U'.setCell ⟨w.heap.size, 0, none⟩ (.int .i64 0)).setCell ⟨w.heap.size, 1, none⟩ (.int .i64 0)).setCell ⟨w.heap.size, 2, none⟩ (.int .i64 0)).setCell ⟨w.heap.size, 3, none⟩ (.int .i64 0)).setCell ⟨w.heap.size, 4, none⟩ (.string ⟨#[]⟩)).setCell ⟨w.heap.size, 5, none⟩ (.string ⟨#[]⟩)).setCell ⟨w.heap.size, 6, none⟩ (.string ⟨#[]⟩)) = Wf at hzF hkF ⊢
  have u0 : Wf.cell? ⟨w.heap.size, 0, none⟩ = some (.int .i64 0) := hzF.cell 0
  have u1 : Wf.cell? ⟨w.heap.size, 1, none⟩ = some (.int .i64 0) := hzF.cell 1
  have u2 : Wf.cell? ⟨w.heap.size, 2, none⟩ = some (.int .i64 0) := hzF.cell 2
  have u3 : Wf.cell? ⟨w.heap.size, 3, none⟩ = some (.int .i64 0) := hzF.cell 3
  have u4 : Wf.cell? ⟨w.heap.size, 4, none⟩ = some (.string ⟨#[]⟩) := hzF.cell 4
  have u5 : Wf.cell? ⟨w.heap.size, 5, none⟩ = some (.string ⟨#[]⟩) := hzF.cell 5
  have u6 : Wf.cell? ⟨w.heap.size, 6, none⟩ = some (.string ⟨#[]⟩) := hzF.cell 6
  exact bodyPost_ret (v := .tuple #[.agg #[.int .i64 0, .int .i64 0, .int .i64 0, .int .i64 0, .string ⟨#[]⟩, .string ⟨#[]⟩, .string ⟨#[]⟩], .int .i64 130]) (by simp [results, Tryd.results40, go_sem, u0, u1, u2, u3, u4, u5, u6]) rfl ⟨rfl, hkF.to_below (fun _ _ h => h)⟩

set_option maxHeartbeats 1000000 in
theorem dec_inv (A : Option Addr) (c : Nat) (bs : Bytes) (w : World) (e : Env w) (hr0 : Rd w (· < w.heap.size) 1 A bs.length (u8s bs)) (hn : bs.length ≤ 281474976710656) (hc : bs.length ≤ c) (hso : soundC bs (dT3 bs).2 = true) (hva : validC (decCmd bs) = false) :
    Calls Tryd.prog 40 #[.slice A bs.length c] w fun e w' => e = .returned (.tuple #[cmdV zeroCmd, .int .i64 130]) ∧ Below w.heap.size w w' := by
  have hsz := e.size
  have H1 := Lib.hid fun W (h : MRd W (w.heap.size + 1) (· < w.heap.size) bs ⟨0, false⟩) => (show Calls Tryd.prog 35 #[.pointer (some ⟨w.heap.size + 1, 0, none⟩), .int .i64 4611686018427387904] W fun e w' => e = .returned (.int .i64 (dC1 bs).1) ∧ MRd w' (w.heap.size + 1) (· < w.heap.size) bs (dC1 bs).2 ∧ Keep W.heap.size (· = (w.heap.size + 1)) W w' from mcount (w.heap.size + 1) (· < w.heap.size) bs ⟨0, false⟩ 4611686018427387904 W h (by omega) (by omega))
  have H2 := Lib.hid fun W (h : MRd W (w.heap.size + 1) (· < w.heap.size) bs (dC1 bs).2) => (show Calls Tryd.prog 35 #[.pointer (some ⟨w.heap.size + 1, 0, none⟩), .int .i64 4611686018427387904] W fun e w' => e = .returned (.int .i64 (dC2 bs).1) ∧ MRd w' (w.heap.size + 1) (· < w.heap.size) bs (dC2 bs).2 ∧ Keep W.heap.size (· = (w.heap.size + 1)) W w' from mcount (w.heap.size + 1) (· < w.heap.size) bs (dC1 bs).2 4611686018427387904 W h (by omega) (by omega))
  have H3 := Lib.hid fun W (h : MRd W (w.heap.size + 1) (· < w.heap.size) bs (dC2 bs).2) => (show Calls Tryd.prog 35 #[.pointer (some ⟨w.heap.size + 1, 0, none⟩), .int .i64 4611686018427387904] W fun e w' => e = .returned (.int .i64 (dC3 bs).1) ∧ MRd w' (w.heap.size + 1) (· < w.heap.size) bs (dC3 bs).2 ∧ Keep W.heap.size (· = (w.heap.size + 1)) W w' from mcount (w.heap.size + 1) (· < w.heap.size) bs (dC2 bs).2 4611686018427387904 W h (by omega) (by omega))
  have H4 := Lib.hid fun W (h : MRd W (w.heap.size + 1) (· < w.heap.size) bs (dC3 bs).2) => (show Calls Tryd.prog 35 #[.pointer (some ⟨w.heap.size + 1, 0, none⟩), .int .i64 4611686018427387904] W fun e w' => e = .returned (.int .i64 (dC4 bs).1) ∧ MRd w' (w.heap.size + 1) (· < w.heap.size) bs (dC4 bs).2 ∧ Keep W.heap.size (· = (w.heap.size + 1)) W w' from mcount (w.heap.size + 1) (· < w.heap.size) bs (dC3 bs).2 4611686018427387904 W h (by omega) (by omega))
  have K1 := Lib.hid fun W (h : MRd W (w.heap.size + 1) (· < w.heap.size) bs (dC4 bs).2) => (show Calls Tryd.prog 45 #[.pointer (some ⟨w.heap.size + 1, 0, none⟩), .int .i64 8] W fun e w' => e = .returned (str (dT1 bs).1) ∧ MRd w' (w.heap.size + 1) (· < w.heap.size) bs (dT1 bs).2 ∧ Keep W.heap.size (· = (w.heap.size + 1)) W w' from mtext (w.heap.size + 1) (· < w.heap.size) bs (dC4 bs).2 8 W h (by omega) (by omega))
  have K2 := Lib.hid fun W (h : MRd W (w.heap.size + 1) (· < w.heap.size) bs (dT1 bs).2) => (show Calls Tryd.prog 45 #[.pointer (some ⟨w.heap.size + 1, 0, none⟩), .int .i64 8] W fun e w' => e = .returned (str (dT2 bs).1) ∧ MRd w' (w.heap.size + 1) (· < w.heap.size) bs (dT2 bs).2 ∧ Keep W.heap.size (· = (w.heap.size + 1)) W w' from mtext (w.heap.size + 1) (· < w.heap.size) bs (dT1 bs).2 8 W h (by omega) (by omega))
  have K3 := Lib.hid fun W (h : MRd W (w.heap.size + 1) (· < w.heap.size) bs (dT2 bs).2) => (show Calls Tryd.prog 45 #[.pointer (some ⟨w.heap.size + 1, 0, none⟩), .int .i64 8] W fun e w' => e = .returned (str (dT3 bs).1) ∧ MRd w' (w.heap.size + 1) (· < w.heap.size) bs (dT3 bs).2 ∧ Keep W.heap.size (· = (w.heap.size + 1)) W w' from mtext (w.heap.size + 1) (· < w.heap.size) bs (dT2 bs).2 8 W h (by omega) (by omega))
  have HS := Lib.hid fun W (h : MRd W (w.heap.size + 1) (· < w.heap.size) bs (dT3 bs).2) => (show Calls Tryd.prog 39 #[.pointer (some ⟨w.heap.size + 1, 0, none⟩)] W fun e w' => e = .returned (.bool (soundC bs (dT3 bs).2)) ∧ ∃ m, w' = W.drewN m from msound (w.heap.size + 1) (· < w.heap.size) bs (dT3 bs).2 W h)
  have hlk : (decCmd bs).key.length ≤ 8 := mText_le bs 8 _
  have HV := Lib.hid fun W (h : Env W) => (show Calls Tryd.prog 46 #[cmdV (decCmd bs)] W fun e w' => e = .returned (.bool (validC (decCmd bs))) ∧ Below W.heap.size W w' from cvalid (decCmd bs) W h (by omega))
  have hlocT : ∀ k, k < w.heap.size → ¬ k = w.heap.size + 1 := by intro k hk; omega
  go_enter Tryd.func40, Tryd.ntmps40
  go_wp2
  obtain ⟨U0, hU, hbw, hz0, hg0, hc0, hp0, hs0⟩ := four_new w 57 #[.int .i64 0, .int .i64 0, .int .i64 0, .int .i64 0, .string ⟨#[]⟩, .string ⟨#[]⟩, .string ⟨#[]⟩] 85 #[.slice A bs.length c, .int .i64 0, .bool false] 57 #[.int .i64 0, .int .i64 0, .int .i64 0, .int .i64 0, .string ⟨#[]⟩, .string ⟨#[]⟩, .string ⟨#[]⟩] 118 #[.pointer (some ⟨w.heap.size + 1 + 1, 0, none⟩), .pointer (some ⟨w.heap.size + 1 + 1, 1, none⟩), .pointer (some ⟨w.heap.size + 1 + 1, 2, none⟩), .pointer (some ⟨w.heap.size + 1 + 1, 3, none⟩)]
  rw [← hU]
  clear hU
  have hM0 : MRd U0 (w.heap.size + 1) (· < w.heap.size) bs ⟨0, false⟩ := ⟨by omega, Nat.zero_le _, hn, A, c, hc, hg0, hr0.keep (S := fun _ => False) (Keep.of_below hbw) (Nat.le_refl _) (fun _ _ _ h => h)⟩
  have hk0 : Keep w.heap.size (fun _ => False) w U0 := Keep.of_below hbw
  clear hbw hg0 hr0
  refine wp_loop_rounds 5 ?_
  rw [rounds_succ]
  have q1 : U0.cell? ⟨w.heap.size + 1 + 1 + 1, 0, none⟩ = some (.pointer (some ⟨w.heap.size + 1 + 1, 0, none⟩)) := hp0.cell 0
  go_wp2_with fail
  refine (H1.out _ hM0).mono ?_
  rintro e V1 ⟨rfl, hN1, hj1⟩
  have hz1' := hz0.keep hj1 hz0.lt (by omega)
  have hc1' := hc0.keep hj1 hc0.lt (by omega)
  have hp1' := hp0.keep hj1 hp0.lt (by omega)
  have hk1' := hk0.and hj1 (by omega) (fun k hk e => absurd e (hlocT k hk))
  have r1 : V1.cell? ⟨w.heap.size + 1 + 1, 0, none⟩ = some (.int .i64 0) := hc1'.cell 0
  have f1 := hc1'.frozen 0
  have hs1' : w.heap.size + 4 ≤ V1.heap.size := by have := hj1.size; omega
  clear q1 hz0 hc0 hp0 hk0 hM0 hj1 hs0
  go_wp2_with fail
  have hz1 := hz1'.far (p := ⟨w.heap.size + 1 + 1, 0, none⟩) (by simp; omega) (.int .i64 (dC1 bs).1)
  have hp1 := hp1'.far (p := ⟨w.heap.size + 1 + 1, 0, none⟩) (by simp) (.int .i64 (dC1 bs).1)
  have hM1 := hN1.far (p := ⟨w.heap.size + 1 + 1, 0, none⟩) (by simp; omega) (by simp) (.int .i64 (dC1 bs).1)
  have hk1 := hk1'.new (g := w.heap.size + 1 + 1) (by omega) 0 (.int .i64 (dC1 bs).1)
  have hc1 : Blk (V1.setCell ⟨w.heap.size + 1 + 1, 0, none⟩ (.int .i64 (dC1 bs).1)) (w.heap.size + 1 + 1) 57 #[.int .i64 (dC1 bs).1, .int .i64 0, .int .i64 0, .int .i64 0, .string ⟨#[]⟩, .string ⟨#[]⟩, .string ⟨#[]⟩] := hc1'.set_ 0 _
  have hs1 : w.heap.size + 4 ≤ (V1.setCell ⟨w.heap.size + 1 + 1, 0, none⟩ (.int .i64 (dC1 bs).1)).heap.size := by simpa [World.setCell] using hs1'
  clear r1 f1 hz1' hc1' hp1' hk1' hN1 hs1'
  generalize V1.setCell ⟨w.heap.size + 1 + 1, 0, none⟩ (.int .i64 (dC1 bs).1) = U1 at *
  rw [rounds_succ]
  have q2 : U1.cell? ⟨w.heap.size + 1 + 1 + 1, 1, none⟩ = some (.pointer (some ⟨w.heap.size + 1 + 1, 1, none⟩)) := hp1.cell 1
  go_wp2_with fail
  refine (H2.out _ hM1).mono ?_
  rintro e V2 ⟨rfl, hN2, hj2⟩
  have hz2' := hz1.keep hj2 hz1.lt (by omega)
  have hc2' := hc1.keep hj2 hc1.lt (by omega)
  have hp2' := hp1.keep hj2 hp1.lt (by omega)
  have hk2' := hk1.and hj2 (by omega) (fun k hk e => absurd e (hlocT k hk))
  have r2 : V2.cell? ⟨w.heap.size + 1 + 1, 1, none⟩ = some (.int .i64 0) := hc2'.cell 1
  have f2 := hc2'.frozen 1
  have hs2' : w.heap.size + 4 ≤ V2.heap.size := by have := hj2.size; omega
  clear q2 hz1 hc1 hp1 hk1 hM1 hj2 hs1
  go_wp2_with fail
  have hz2 := hz2'.far (p := ⟨w.heap.size + 1 + 1, 1, none⟩) (by simp; omega) (.int .i64 (dC2 bs).1)
  have hp2 := hp2'.far (p := ⟨w.heap.size + 1 + 1, 1, none⟩) (by simp) (.int .i64 (dC2 bs).1)
  have hM2 := hN2.far (p := ⟨w.heap.size + 1 + 1, 1, none⟩) (by simp; omega) (by simp) (.int .i64 (dC2 bs).1)
  have hk2 := hk2'.new (g := w.heap.size + 1 + 1) (by omega) 1 (.int .i64 (dC2 bs).1)
  have hc2 : Blk (V2.setCell ⟨w.heap.size + 1 + 1, 1, none⟩ (.int .i64 (dC2 bs).1)) (w.heap.size + 1 + 1) 57 #[.int .i64 (dC1 bs).1, .int .i64 (dC2 bs).1, .int .i64 0, .int .i64 0, .string ⟨#[]⟩, .string ⟨#[]⟩, .string ⟨#[]⟩] := hc2'.set_ 1 _
  have hs2 : w.heap.size + 4 ≤ (V2.setCell ⟨w.heap.size + 1 + 1, 1, none⟩ (.int .i64 (dC2 bs).1)).heap.size := by simpa [World.setCell] using hs2'
  clear r2 f2 hz2' hc2' hp2' hk2' hN2 hs2'
  generalize V2.setCell ⟨w.heap.size + 1 + 1, 1, none⟩ (.int .i64 (dC2 bs).1) = U2 at *
  rw [rounds_succ]
  have q3 : U2.cell? ⟨w.heap.size + 1 + 1 + 1, 2, none⟩ = some (.pointer (some ⟨w.heap.size + 1 + 1, 2, none⟩)) := hp2.cell 2
  go_wp2_with fail
  refine (H3.out _ hM2).mono ?_
  rintro e V3 ⟨rfl, hN3, hj3⟩
  have hz3' := hz2.keep hj3 hz2.lt (by omega)
  have hc3' := hc2.keep hj3 hc2.lt (by omega)
  have hp3' := hp2.keep hj3 hp2.lt (by omega)
  have hk3' := hk2.and hj3 (by omega) (fun k hk e => absurd e (hlocT k hk))
  have r3 : V3.cell? ⟨w.heap.size + 1 + 1, 2, none⟩ = some (.int .i64 0) := hc3'.cell 2
  have f3 := hc3'.frozen 2
  have hs3' : w.heap.size + 4 ≤ V3.heap.size := by have := hj3.size; omega
  clear q3 hz2 hc2 hp2 hk2 hM2 hj3 hs2
  go_wp2_with fail
  have hz3 := hz3'.far (p := ⟨w.heap.size + 1 + 1, 2, none⟩) (by simp; omega) (.int .i64 (dC3 bs).1)
  have hp3 := hp3'.far (p := ⟨w.heap.size + 1 + 1, 2, none⟩) (by simp) (.int .i64 (dC3 bs).1)
  have hM3 := hN3.far (p := ⟨w.heap.size + 1 + 1, 2, none⟩) (by simp; omega) (by simp) (.int .i64 (dC3 bs).1)
  have hk3 := hk3'.new (g := w.heap.size + 1 + 1) (by omega) 2 (.int .i64 (dC3 bs).1)
  have hc3 : Blk (V3.setCell ⟨w.heap.size + 1 + 1, 2, none⟩ (.int .i64 (dC3 bs).1)) (w.heap.size + 1 + 1) 57 #[.int .i64 (dC1 bs).1, .int .i64 (dC2 bs).1, .int .i64 (dC3 bs).1, .int .i64 0, .string ⟨#[]⟩, .string ⟨#[]⟩, .string ⟨#[]⟩] := hc3'.set_ 2 _
  have hs3 : w.heap.size + 4 ≤ (V3.setCell ⟨w.heap.size + 1 + 1, 2, none⟩ (.int .i64 (dC3 bs).1)).heap.size := by simpa [World.setCell] using hs3'
  clear r3 f3 hz3' hc3' hp3' hk3' hN3 hs3'
  generalize V3.setCell ⟨w.heap.size + 1 + 1, 2, none⟩ (.int .i64 (dC3 bs).1) = U3 at *
  rw [rounds_succ]
  have q4 : U3.cell? ⟨w.heap.size + 1 + 1 + 1, 3, none⟩ = some (.pointer (some ⟨w.heap.size + 1 + 1, 3, none⟩)) := hp3.cell 3
  go_wp2_with fail
  refine (H4.out _ hM3).mono ?_
  rintro e V4 ⟨rfl, hN4, hj4⟩
  have hz4' := hz3.keep hj4 hz3.lt (by omega)
  have hc4' := hc3.keep hj4 hc3.lt (by omega)
  have hp4' := hp3.keep hj4 hp3.lt (by omega)
  have hk4' := hk3.and hj4 (by omega) (fun k hk e => absurd e (hlocT k hk))
  have r4 : V4.cell? ⟨w.heap.size + 1 + 1, 3, none⟩ = some (.int .i64 0) := hc4'.cell 3
  have f4 := hc4'.frozen 3
  have hs4' : w.heap.size + 4 ≤ V4.heap.size := by have := hj4.size; omega
  clear q4 hz3 hc3 hp3 hk3 hM3 hj4 hs3
  go_wp2_with fail
  have hz4 := hz4'.far (p := ⟨w.heap.size + 1 + 1, 3, none⟩) (by simp; omega) (.int .i64 (dC4 bs).1)
  have hp4 := hp4'.far (p := ⟨w.heap.size + 1 + 1, 3, none⟩) (by simp) (.int .i64 (dC4 bs).1)
  have hM4 := hN4.far (p := ⟨w.heap.size + 1 + 1, 3, none⟩) (by simp; omega) (by simp) (.int .i64 (dC4 bs).1)
  have hk4 := hk4'.new (g := w.heap.size + 1 + 1) (by omega) 3 (.int .i64 (dC4 bs).1)
  have hc4 : Blk (V4.setCell ⟨w.heap.size + 1 + 1, 3, none⟩ (.int .i64 (dC4 bs).1)) (w.heap.size + 1 + 1) 57 #[.int .i64 (dC1 bs).1, .int .i64 (dC2 bs).1, .int .i64 (dC3 bs).1, .int .i64 (dC4 bs).1, .string ⟨#[]⟩, .string ⟨#[]⟩, .string ⟨#[]⟩] := hc4'.set_ 3 _
  have hs4 : w.heap.size + 4 ≤ (V4.setCell ⟨w.heap.size + 1 + 1, 3, none⟩ (.int .i64 (dC4 bs).1)).heap.size := by simpa [World.setCell] using hs4'
  clear r4 f4 hz4' hc4' hp4' hk4' hN4 hs4'
  generalize V4.setCell ⟨w.heap.size + 1 + 1, 3, none⟩ (.int .i64 (dC4 bs).1) = U4 at *
  rw [rounds_succ]
  go_wp2_with fail
  refine (K1.out _ hM4).mono ?_
  rintro e W1 ⟨rfl, hMt1, hj⟩
  have hzt1 := hz4.keep hj hz4.lt (by omega)
  have hct1 := hc4.keep hj hc4.lt (by omega)
  have hkt1 := hk4.and hj (by omega) (fun k hk e => absurd e (hlocT k hk))
  have hst1 : w.heap.size + 4 ≤ W1.heap.size := by have := hj.size; omega
  clear hj hz4 hc4 hk4 hM4 hs4 hp4
  go_wp2_with fail
  refine (K2.out _ hMt1).mono ?_
  rintro e W2 ⟨rfl, hMt2, hj⟩
  have hzt2 := hzt1.keep hj hzt1.lt (by omega)
  have hct2 := hct1.keep hj hct1.lt (by omega)
  have hkt2 := hkt1.and hj (by omega) (fun k hk e => absurd e (hlocT k hk))
  have hst2 : w.heap.size + 4 ≤ W2.heap.size := by have := hj.size; omega
  clear hj hzt1 hct1 hkt1 hMt1 hst1
  go_wp2_with fail
  refine (K3.out _ hMt2).mono ?_
  rintro e W3 ⟨rfl, hMt3, hj⟩
  have hzt3 := hzt2.keep hj hzt2.lt (by omega)
  have hct3 := hct2.keep hj hct2.lt (by omega)
  have hkt3 := hkt2.and hj (by omega) (fun k hk e => absurd e (hlocT k hk))
  have hst3 : w.heap.size + 4 ≤ W3.heap.size := by have := hj.size; omega
  clear hj hzt2 hct2 hkt2 hMt2 hst2
  have r4 : W3.cell? ⟨w.heap.size + 1 + 1, 4, none⟩ = some (.string ⟨#[]⟩) := hct3.cell 4
  have f4 := hct3.frozen 4
  have r5 : W3.cell? ⟨w.heap.size + 1 + 1, 5, none⟩ = some (.string ⟨#[]⟩) := hct3.cell 5
  have f5 := hct3.frozen 5
  have r6 : W3.cell? ⟨w.heap.size + 1 + 1, 6, none⟩ = some (.string ⟨#[]⟩) := hct3.cell 6
  have f6 := hct3.frozen 6
  have hcU : Blk (((W3.setCell ⟨w.heap.size + 1 + 1, 4, none⟩ (str (dT1 bs).1)).setCell ⟨w.heap.size + 1 + 1, 5, none⟩ (str (dT2 bs).1)).setCell ⟨w.heap.size + 1 + 1, 6, none⟩ (str (dT3 bs).1)) (w.heap.size + 1 + 1) 57 #[.int .i64 (dC1 bs).1, .int .i64 (dC2 bs).1, .int .i64 (dC3 bs).1, .int .i64 (dC4 bs).1, str (dT1 bs).1, str (dT2 bs).1, str (dT3 bs).1] := ((hct3.set_ 4 _).set_ 5 _).set_ 6 _
  have hzU := ((hzt3.far (p := ⟨w.heap.size + 1 + 1, 4, none⟩) (by simp; omega) (str (dT1 bs).1)).far (p := ⟨w.heap.size + 1 + 1, 5, none⟩) (by simp; omega) (str (dT2 bs).1)).far (p := ⟨w.heap.size + 1 + 1, 6, none⟩) (by simp; omega) (str (dT3 bs).1)
  have hMU := ((hMt3.far (p := ⟨w.heap.size + 1 + 1, 4, none⟩) (by simp; omega) (by simp) (str (dT1 bs).1)).far (p := ⟨w.heap.size + 1 + 1, 5, none⟩) (by simp; omega) (by simp) (str (dT2 bs).1)).far (p := ⟨w.heap.size + 1 + 1, 6, none⟩) (by simp; omega) (by simp) (str (dT3 bs).1)
  have hkU := ((hkt3.new (g := w.heap.size + 1 + 1) (by omega) 4 (str (dT1 bs).1)).new (g := w.heap.size + 1 + 1) (by omega) 5 (str (dT2 bs).1)).new (g := w.heap.size + 1 + 1) (by omega) 6 (str (dT3 bs).1)
  have hsU : w.heap.size + 4 ≤ (((W3.setCell ⟨w.heap.size + 1 + 1, 4, none⟩ (str (dT1 bs).1)).setCell ⟨w.heap.size + 1 + 1, 5, none⟩ (str (dT2 bs).1)).setCell ⟨w.heap.size + 1 + 1, 6, none⟩ (str (dT3 bs).1)).heap.size := by simpa [World.setCell] using hst3
  unfold str at hcU hzU hMU hkU hsU ⊢
  clear hzt3 hMt3 hkt3 hst3
  go_wp2_with fail
  generalize ((W3.setCell ⟨w.heap.size + 1 + 1, 4, none⟩ (.string ⟨(dT1 bs).1.toArray⟩)).setCell ⟨w.heap.size + 1 + 1, 5, none⟩ (.string ⟨(dT2 bs).1.toArray⟩)).setCell ⟨w.heap.size + 1 + 1, 6, none⟩ (.string ⟨(dT3 bs).1.toArray⟩) = U at hcU hzU hMU hkU hsU ⊢
  clear r4 f4 r5 f5 r6 f6
  refine (HS.out _ hMU).mono ?_
  rintro e W' ⟨rfl, m, rfl⟩
  clear hMU
  have hz := hzU.drewN m
  have hk := hkU.drewN m
  have hcm0 := hcU.drewN m
  have hsm : w.heap.size + 4 ≤ (U.drewN m).heap.size := hsU
  clear hzU hkU hcU hsU
  generalize U.drewN m = U' at *
  have hcm : Blk U' (w.heap.size + 1 + 1) 57 #[.int .i64 (dC1 bs).1, .int .i64 (dC2 bs).1, .int .i64 (dC3 bs).1, .int .i64 (dC4 bs).1, .string ⟨(dT1 bs).1.toArray⟩, .string ⟨(dT2 bs).1.toArray⟩, .string ⟨(dT3 bs).1.toArray⟩] := hcm0
  clear hcm0
  have m0 : U'.cell? ⟨w.heap.size + 1 + 1, 0, none⟩ = some (.int .i64 (dC1 bs).1) := hcm.cell 0
  have m1 : U'.cell? ⟨w.heap.size + 1 + 1, 1, none⟩ = some (.int .i64 (dC2 bs).1) := hcm.cell 1
  have m2 : U'.cell? ⟨w.heap.size + 1 + 1, 2, none⟩ = some (.int .i64 (dC3 bs).1) := hcm.cell 2
  have m3 : U'.cell? ⟨w.heap.size + 1 + 1, 3, none⟩ = some (.int .i64 (dC4 bs).1) := hcm.cell 3
  have m4 : U'.cell? ⟨w.heap.size + 1 + 1, 4, none⟩ = some (.string ⟨(dT1 bs).1.toArray⟩) := hcm.cell 4
  have m5 : U'.cell? ⟨w.heap.size + 1 + 1, 5, none⟩ = some (.string ⟨(dT2 bs).1.toArray⟩) := hcm.cell 5
  have m6 : U'.cell? ⟨w.heap.size + 1 + 1, 6, none⟩ = some (.string ⟨(dT3 bs).1.toArray⟩) := hcm.cell 6
  go_wp2_with fail
  refine (HV.out _ (e.keep hk (by omega) (fun _ _ h => h))).mono ?_
  rintro e2 V ⟨rfl, hbV⟩
  have hzV := hz.below hbV hz.lt
  have hcV := hcm.below hbV hcm.lt
  have hkV := hk.trans (Keep.of_below (hbV.mono hk.size))
  have hsV : w.heap.size + 4 ≤ V.heap.size := by have := hbV.size; omega
  clear hz hcm hk hbV hsm m0 m1 m2 m3 m4 m5 m6
  have z0 : V.cell? ⟨w.heap.size, 0, none⟩ = some (.int .i64 0) := hzV.cell 0
  have y0 := hzV.frozen 0
  have z1 : V.cell? ⟨w.heap.size, 1, none⟩ = some (.int .i64 0) := hzV.cell 1
  have y1 := hzV.frozen 1
  have z2 : V.cell? ⟨w.heap.size, 2, none⟩ = some (.int .i64 0) := hzV.cell 2
  have y2 := hzV.frozen 2
  have z3 : V.cell? ⟨w.heap.size, 3, none⟩ = some (.int .i64 0) := hzV.cell 3
  have y3 := hzV.frozen 3
  have z4 : V.cell? ⟨w.heap.size, 4, none⟩ = some (.string ⟨#[]⟩) := hzV.cell 4
  have y4 := hzV.frozen 4
  have z5 : V.cell? ⟨w.heap.size, 5, none⟩ = some (.string ⟨#[]⟩) := hzV.cell 5
  have y5 := hzV.frozen 5
  have z6 : V.cell? ⟨w.heap.size, 6, none⟩ = some (.string ⟨#[]⟩) := hzV.cell 6
  have y6 := hzV.frozen 6
  go_wp2
  have hzF : Blk (((((((V.setCell ⟨w.heap.size, 0, none⟩ (.int .i64 0)).setCell ⟨w.heap.size, 1, none⟩ (.int .i64 0)).setCell ⟨w.heap.size, 2, none⟩ (.int .i64 0)).setCell ⟨w.heap.size, 3, none⟩ (.int .i64 0)).setCell ⟨w.heap.size, 4, none⟩ (.string ⟨#[]⟩)).setCell ⟨w.heap.size, 5, none⟩ (.string ⟨#[]⟩)).setCell ⟨w.heap.size, 6, none⟩ (.string ⟨#[]⟩)) w.heap.size 57 #[.int .i64 0, .int .i64 0, .int .i64 0, .int .i64 0, .string ⟨#[]⟩, .string ⟨#[]⟩, .string ⟨#[]⟩] := (((((((hzV.set_ 0 (.int .i64 0)).set_ 1 (.int .i64 0)).set_ 2 (.int .i64 0)).set_ 3 (.int .i64 0)).set_ 4 (.string ⟨#[]⟩)).set_ 5 (.string ⟨#[]⟩)).set_ 6 (.string ⟨#[]⟩))
  have hkF := (((((((hkV.new (g := w.heap.size) (Nat.le_refl _) 0 (.int .i64 0)).new (g := w.heap.size) (Nat.le_refl _) 1 (.int .i64 0)).new (g := w.heap.size) (Nat.le_refl _) 2 (.int .i64 0)).new (g := w.heap.size) (Nat.le_refl _) 3 (.int .i64 0)).new (g := w.heap.size) (Nat.le_refl _) 4 (.string ⟨#[]⟩)).new (g := w.heap.size) (Nat.le_refl _) 5 (.string ⟨#[]⟩)).new (g := w.heap.size) (Nat.le_refl _) 6 (.string ⟨#[]⟩))
  generalize (((((((V.setCell ⟨w.heap.size, 0, none⟩ (.int .i64 0)).setCell ⟨w.heap.size, 1, none⟩ (.int .i64 0)).setCell ⟨w.heap.size, 2, none⟩ (.int .i64 0)).setCell ⟨w.heap.size, 3, none⟩ (.int .i64 0)).setCell ⟨w.heap.size, 4, none⟩ (.string ⟨#[]⟩)).setCell ⟨w.heap.size, 5, none⟩ (.string ⟨#[]⟩)).setCell ⟨w.heap.size, 6, none⟩ (.string ⟨#[]⟩)) = Wf at hzF hkF ⊢
  have u0 : Wf.cell? ⟨w.heap.size, 0, none⟩ = some (.int .i64 0) := hzF.cell 0
  have u1 : Wf.cell? ⟨w.heap.size, 1, none⟩ = some (.int .i64 0) := hzF.cell 1
  have u2 : Wf.cell? ⟨w.heap.size, 2, none⟩ = some (.int .i64 0) := hzF.cell 2
  have u3 : Wf.cell? ⟨w.heap.size, 3, none⟩ = some (.int .i64 0) := hzF.cell 3
  have u4 : Wf.cell? ⟨w.heap.size, 4, none⟩ = some (.string ⟨#[]⟩) := hzF.cell 4
  have u5 : Wf.cell? ⟨w.heap.size, 5, none⟩ = some (.string ⟨#[]⟩) := hzF.cell 5
  have u6 : Wf.cell? ⟨w.heap.size, 6, none⟩ = some (.string ⟨#[]⟩) := hzF.cell 6
  exact bodyPost_ret (v := .tuple #[.agg #[.int .i64 0, .int .i64 0, .int .i64 0, .int .i64 0, .string ⟨#[]⟩, .string ⟨#[]⟩, .string ⟨#[]⟩], .int .i64 130]) (by simp [results, Tryd.results40, go_sem, u0, u1, u2, u3, u4, u5, u6]) rfl ⟨rfl, hkF.to_below (fun _ _ h => h)⟩

set_option maxHeartbeats 1000000 in
theorem dec_ok (A : Option Addr) (c : Nat) (bs : Bytes) (w : World) (e : Env w) (hr0 : Rd w (· < w.heap.size) 1 A bs.length (u8s bs)) (hn : bs.length ≤ 281474976710656) (hc : bs.length ≤ c) (hso : soundC bs (dT3 bs).2 = true) (hva : validC (decCmd bs) = true) :
    Calls Tryd.prog 40 #[.slice A bs.length c] w fun e w' => e = .returned (.tuple #[cmdV (decCmd bs), .int .i64 0]) ∧ Below w.heap.size w w' := by
  have hsz := e.size
  have H1 := Lib.hid fun W (h : MRd W (w.heap.size + 1) (· < w.heap.size) bs ⟨0, false⟩) => (show Calls Tryd.prog 35 #[.pointer (some ⟨w.heap.size + 1, 0, none⟩), .int .i64 4611686018427387904] W fun e w' => e = .returned (.int .i64 (dC1 bs).1) ∧ MRd w' (w.heap.size + 1) (· < w.heap.size) bs (dC1 bs).2 ∧ Keep W.heap.size (· = (w.heap.size + 1)) W w' from mcount (w.heap.size + 1) (· < w.heap.size) bs ⟨0, false⟩ 4611686018427387904 W h (by omega) (by omega))
  have H2 := Lib.hid fun W (h : MRd W (w.heap.size + 1) (· < w.heap.size) bs (dC1 bs).2) => (show Calls Tryd.prog 35 #[.pointer (some ⟨w.heap.size + 1, 0, none⟩), .int .i64 4611686018427387904] W fun e w' => e = .returned (.int .i64 (dC2 bs).1) ∧ MRd w' (w.heap.size + 1) (· < w.heap.size) bs (dC2 bs).2 ∧ Keep W.heap.size (· = (w.heap.size + 1)) W w' from mcount (w.heap.size + 1) (· < w.heap.size) bs (dC1 bs).2 4611686018427387904 W h (by omega) (by omega))
  have H3 := Lib.hid fun W (h : MRd W (w.heap.size + 1) (· < w.heap.size) bs (dC2 bs).2) => (show Calls Tryd.prog 35 #[.pointer (some ⟨w.heap.size + 1, 0, none⟩), .int .i64 4611686018427387904] W fun e w' => e = .returned (.int .i64 (dC3 bs).1) ∧ MRd w' (w.heap.size + 1) (· < w.heap.size) bs (dC3 bs).2 ∧ Keep W.heap.size (· = (w.heap.size + 1)) W w' from mcount (w.heap.size + 1) (· < w.heap.size) bs (dC2 bs).2 4611686018427387904 W h (by omega) (by omega))
  have H4 := Lib.hid fun W (h : MRd W (w.heap.size + 1) (· < w.heap.size) bs (dC3 bs).2) => (show Calls Tryd.prog 35 #[.pointer (some ⟨w.heap.size + 1, 0, none⟩), .int .i64 4611686018427387904] W fun e w' => e = .returned (.int .i64 (dC4 bs).1) ∧ MRd w' (w.heap.size + 1) (· < w.heap.size) bs (dC4 bs).2 ∧ Keep W.heap.size (· = (w.heap.size + 1)) W w' from mcount (w.heap.size + 1) (· < w.heap.size) bs (dC3 bs).2 4611686018427387904 W h (by omega) (by omega))
  have K1 := Lib.hid fun W (h : MRd W (w.heap.size + 1) (· < w.heap.size) bs (dC4 bs).2) => (show Calls Tryd.prog 45 #[.pointer (some ⟨w.heap.size + 1, 0, none⟩), .int .i64 8] W fun e w' => e = .returned (str (dT1 bs).1) ∧ MRd w' (w.heap.size + 1) (· < w.heap.size) bs (dT1 bs).2 ∧ Keep W.heap.size (· = (w.heap.size + 1)) W w' from mtext (w.heap.size + 1) (· < w.heap.size) bs (dC4 bs).2 8 W h (by omega) (by omega))
  have K2 := Lib.hid fun W (h : MRd W (w.heap.size + 1) (· < w.heap.size) bs (dT1 bs).2) => (show Calls Tryd.prog 45 #[.pointer (some ⟨w.heap.size + 1, 0, none⟩), .int .i64 8] W fun e w' => e = .returned (str (dT2 bs).1) ∧ MRd w' (w.heap.size + 1) (· < w.heap.size) bs (dT2 bs).2 ∧ Keep W.heap.size (· = (w.heap.size + 1)) W w' from mtext (w.heap.size + 1) (· < w.heap.size) bs (dT1 bs).2 8 W h (by omega) (by omega))
  have K3 := Lib.hid fun W (h : MRd W (w.heap.size + 1) (· < w.heap.size) bs (dT2 bs).2) => (show Calls Tryd.prog 45 #[.pointer (some ⟨w.heap.size + 1, 0, none⟩), .int .i64 8] W fun e w' => e = .returned (str (dT3 bs).1) ∧ MRd w' (w.heap.size + 1) (· < w.heap.size) bs (dT3 bs).2 ∧ Keep W.heap.size (· = (w.heap.size + 1)) W w' from mtext (w.heap.size + 1) (· < w.heap.size) bs (dT2 bs).2 8 W h (by omega) (by omega))
  have HS := Lib.hid fun W (h : MRd W (w.heap.size + 1) (· < w.heap.size) bs (dT3 bs).2) => (show Calls Tryd.prog 39 #[.pointer (some ⟨w.heap.size + 1, 0, none⟩)] W fun e w' => e = .returned (.bool (soundC bs (dT3 bs).2)) ∧ ∃ m, w' = W.drewN m from msound (w.heap.size + 1) (· < w.heap.size) bs (dT3 bs).2 W h)
  have hlk : (decCmd bs).key.length ≤ 8 := mText_le bs 8 _
  have HV := Lib.hid fun W (h : Env W) => (show Calls Tryd.prog 46 #[cmdV (decCmd bs)] W fun e w' => e = .returned (.bool (validC (decCmd bs))) ∧ Below W.heap.size W w' from cvalid (decCmd bs) W h (by omega))
  have hlocT : ∀ k, k < w.heap.size → ¬ k = w.heap.size + 1 := by intro k hk; omega
  go_enter Tryd.func40, Tryd.ntmps40
  go_wp2
  obtain ⟨U0, hU, hbw, hz0, hg0, hc0, hp0, hs0⟩ := four_new w 57 #[.int .i64 0, .int .i64 0, .int .i64 0, .int .i64 0, .string ⟨#[]⟩, .string ⟨#[]⟩, .string ⟨#[]⟩] 85 #[.slice A bs.length c, .int .i64 0, .bool false] 57 #[.int .i64 0, .int .i64 0, .int .i64 0, .int .i64 0, .string ⟨#[]⟩, .string ⟨#[]⟩, .string ⟨#[]⟩] 118 #[.pointer (some ⟨w.heap.size + 1 + 1, 0, none⟩), .pointer (some ⟨w.heap.size + 1 + 1, 1, none⟩), .pointer (some ⟨w.heap.size + 1 + 1, 2, none⟩), .pointer (some ⟨w.heap.size + 1 + 1, 3, none⟩)]
  rw [← hU]
  clear hU
  have hM0 : MRd U0 (w.heap.size + 1) (· < w.heap.size) bs ⟨0, false⟩ := ⟨by omega, Nat.zero_le _, hn, A, c, hc, hg0, hr0.keep (S := fun _ => False) (Keep.of_below hbw) (Nat.le_refl _) (fun _ _ _ h => h)⟩
  have hk0 : Keep w.heap.size (fun _ => False) w U0 := Keep.of_below hbw
  clear hbw hg0 hr0
  refine wp_loop_rounds 5 ?_
  rw [rounds_succ]
  have q1 : U0.cell? ⟨w.heap.size + 1 + 1 + 1, 0, none⟩ = some (.pointer (some ⟨w.heap.size + 1 + 1, 0, none⟩)) := hp0.cell 0
  go_wp2_with fail
  refine (H1.out _ hM0).mono ?_
  rintro e V1 ⟨rfl, hN1, hj1⟩
  have hz1' := hz0.keep hj1 hz0.lt (by omega)
  have hc1' := hc0.keep hj1 hc0.lt (by omega)
  have hp1' := hp0.keep hj1 hp0.lt (by omega)
  have hk1' := hk0.and hj1 (by omega) (fun k hk e => absurd e (hlocT k hk))
  have r1 : V1.cell? ⟨w.heap.size + 1 + 1, 0, none⟩ = some (.int .i64 0) := hc1'.cell 0
  have f1 := hc1'.frozen 0
  have hs1' : w.heap.size + 4 ≤ V1.heap.size := by have := hj1.size; omega
  clear q1 hz0 hc0 hp0 hk0 hM0 hj1 hs0
  go_wp2_with fail
  have hz1 := hz1'.far (p := ⟨w.heap.size + 1 + 1, 0, none⟩) (by simp; omega) (.int .i64 (dC1 bs).1)
  have hp1 := hp1'.far (p := ⟨w.heap.size + 1 + 1, 0, none⟩) (by simp) (.int .i64 (dC1 bs).1)
  have hM1 := hN1.far (p := ⟨w.heap.size + 1 + 1, 0, none⟩) (by simp; omega) (by simp) (.int .i64 (dC1 bs).1)
  have hk1 := hk1'.new (g := w.heap.size + 1 + 1) (by omega) 0 (.int .i64 (dC1 bs).1)
  have hc1 : Blk (V1.setCell ⟨w.heap.size + 1 + 1, 0, none⟩ (.int .i64 (dC1 bs).1)) (w.heap.size + 1 + 1) 57 #[.int .i64 (dC1 bs).1, .int .i64 0, .int .i64 0, .int .i64 0, .string ⟨#[]⟩, .string ⟨#[]⟩, .string ⟨#[]⟩] := hc1'.set_ 0 _
  have hs1 : w.heap.size + 4 ≤ (V1.setCell ⟨w.heap.size + 1 + 1, 0, none⟩ (.int .i64 (dC1 bs).1)).heap.size := by simpa [World.setCell] using hs1'
  clear r1 f1 hz1' hc1' hp1' hk1' hN1 hs1'
  generalize V1.setCell ⟨w.heap.size + 1 + 1, 0, none⟩ (.int .i64 (dC1 bs).1) = U1 at *
  rw [rounds_succ]
  have q2 : U1.cell? ⟨w.heap.size + 1 + 1 + 1, 1, none⟩ = some (.pointer (some ⟨w.heap.size + 1 + 1, 1, none⟩)) := hp1.cell 1
  go_wp2_with fail
  refine (H2.out _ hM1).mono ?_
  rintro e V2 ⟨rfl, hN2, hj2⟩
  have hz2' := hz1.keep hj2 hz1.lt (by omega)
  have hc2' := hc1.keep hj2 hc1.lt (by omega)
  have hp2' := hp1.keep hj2 hp1.lt (by omega)
  have hk2' := hk1.and hj2 (by omega) (fun k hk e => absurd e (hlocT k hk))
  have r2 : V2.cell? ⟨w.heap.size + 1 + 1, 1, none⟩ = some (.int .i64 0) := hc2'.cell 1
  have f2 := hc2'.frozen 1
  have hs2' : w.heap.size + 4 ≤ V2.heap.size := by have := hj2.size; omega
  clear q2 hz1 hc1 hp1 hk1 hM1 hj2 hs1
  go_wp2_with fail
  have hz2 := hz2'.far (p := ⟨w.heap.size + 1 + 1, 1, none⟩) (by simp; omega) (.int .i64 (dC2 bs).1)
  have hp2 := hp2'.far (p := ⟨w.heap.size + 1 + 1, 1, none⟩) (by simp) (.int .i64 (dC2 bs).1)
  have hM2 := hN2.far (p := ⟨w.heap.size + 1 + 1, 1, none⟩) (by simp; omega) (by simp) (.int .i64 (dC2 bs).1)
  have hk2 := hk2'.new (g := w.heap.size + 1 + 1) (by omega) 1 (.int .i64 (dC2 bs).1)
  have hc2 : Blk (V2.setCell ⟨w.heap.size + 1 + 1, 1, none⟩ (.int .i64 (dC2 bs).1)) (w.heap.size + 1 + 1) 57 #[.int .i64 (dC1 bs).1, .int .i64 (dC2 bs).1, .int .i64 0, .int .i64 0, .string ⟨#[]⟩, .string ⟨#[]⟩, .string ⟨#[]⟩] := hc2'.set_ 1 _
  have hs2 : w.heap.size + 4 ≤ (V2.setCell ⟨w.heap.size + 1 + 1, 1, none⟩ (.int .i64 (dC2 bs).1)).heap.size := by simpa [World.setCell] using hs2'
  clear r2 f2 hz2' hc2' hp2' hk2' hN2 hs2'
  generalize V2.setCell ⟨w.heap.size + 1 + 1, 1, none⟩ (.int .i64 (dC2 bs).1) = U2 at *
  rw [rounds_succ]
  have q3 : U2.cell? ⟨w.heap.size + 1 + 1 + 1, 2, none⟩ = some (.pointer (some ⟨w.heap.size + 1 + 1, 2, none⟩)) := hp2.cell 2
  go_wp2_with fail
  refine (H3.out _ hM2).mono ?_
  rintro e V3 ⟨rfl, hN3, hj3⟩
  have hz3' := hz2.keep hj3 hz2.lt (by omega)
  have hc3' := hc2.keep hj3 hc2.lt (by omega)
  have hp3' := hp2.keep hj3 hp2.lt (by omega)
  have hk3' := hk2.and hj3 (by omega) (fun k hk e => absurd e (hlocT k hk))
  have r3 : V3.cell? ⟨w.heap.size + 1 + 1, 2, none⟩ = some (.int .i64 0) := hc3'.cell 2
  have f3 := hc3'.frozen 2
  have hs3' : w.heap.size + 4 ≤ V3.heap.size := by have := hj3.size; omega
  clear q3 hz2 hc2 hp2 hk2 hM2 hj3 hs2
  go_wp2_with fail
  have hz3 := hz3'.far (p := ⟨w.heap.size + 1 + 1, 2, none⟩) (by simp; omega) (.int .i64 (dC3 bs).1)
  have hp3 := hp3'.far (p := ⟨w.heap.size + 1 + 1, 2, none⟩) (by simp) (.int .i64 (dC3 bs).1)
  have hM3 := hN3.far (p := ⟨w.heap.size + 1 + 1, 2, none⟩) (by simp; omega) (by simp) (.int .i64 (dC3 bs).1)
  have hk3 := hk3'.new (g := w.heap.size + 1 + 1) (by omega) 2 (.int .i64 (dC3 bs).1)
  have hc3 : Blk (V3.setCell ⟨w.heap.size + 1 + 1, 2, none⟩ (.int .i64 (dC3 bs).1)) (w.heap.size + 1 + 1) 57 #[.int .i64 (dC1 bs).1, .int .i64 (dC2 bs).1, .int .i64 (dC3 bs).1, .int .i64 0, .string ⟨#[]⟩, .string ⟨#[]⟩, .string ⟨#[]⟩] := hc3'.set_ 2 _
  have hs3 : w.heap.size + 4 ≤ (V3.setCell ⟨w.heap.size + 1 + 1, 2, none⟩ (.int .i64 (dC3 bs).1)).heap.size := by simpa [World.setCell] using hs3'
  clear r3 f3 hz3' hc3' hp3' hk3' hN3 hs3'
  generalize V3.setCell ⟨w.heap.size + 1 + 1, 2, none⟩ (.int .i64 (dC3 bs).1) = U3 at *
  rw [rounds_succ]
  have q4 : U3.cell? ⟨w.heap.size + 1 + 1 + 1, 3, none⟩ = some (.pointer (some ⟨w.heap.size + 1 + 1, 3, none⟩)) := hp3.cell 3
  go_wp2_with fail
  refine (H4.out _ hM3).mono ?_
  rintro e V4 ⟨rfl, hN4, hj4⟩
  have hz4' := hz3.keep hj4 hz3.lt (by omega)
  have hc4' := hc3.keep hj4 hc3.lt (by omega)
  have hp4' := hp3.keep hj4 hp3.lt (by omega)
  have hk4' := hk3.and hj4 (by omega) (fun k hk e => absurd e (hlocT k hk))
  have r4 : V4.cell? ⟨w.heap.size + 1 + 1, 3, none⟩ = some (.int .i64 0) := hc4'.cell 3
  have f4 := hc4'.frozen 3
  have hs4' : w.heap.size + 4 ≤ V4.heap.size := by have := hj4.size; omega
  clear q4 hz3 hc3 hp3 hk3 hM3 hj4 hs3
  go_wp2_with fail
  have hz4 := hz4'.far (p := ⟨w.heap.size + 1 + 1, 3, none⟩) (by simp; omega) (.int .i64 (dC4 bs).1)
  have hp4 := hp4'.far (p := ⟨w.heap.size + 1 + 1, 3, none⟩) (by simp) (.int .i64 (dC4 bs).1)
  have hM4 := hN4.far (p := ⟨w.heap.size + 1 + 1, 3, none⟩) (by simp; omega) (by simp) (.int .i64 (dC4 bs).1)
  have hk4 := hk4'.new (g := w.heap.size + 1 + 1) (by omega) 3 (.int .i64 (dC4 bs).1)
  have hc4 : Blk (V4.setCell ⟨w.heap.size + 1 + 1, 3, none⟩ (.int .i64 (dC4 bs).1)) (w.heap.size + 1 + 1) 57 #[.int .i64 (dC1 bs).1, .int .i64 (dC2 bs).1, .int .i64 (dC3 bs).1, .int .i64 (dC4 bs).1, .string ⟨#[]⟩, .string ⟨#[]⟩, .string ⟨#[]⟩] := hc4'.set_ 3 _
  have hs4 : w.heap.size + 4 ≤ (V4.setCell ⟨w.heap.size + 1 + 1, 3, none⟩ (.int .i64 (dC4 bs).1)).heap.size := by simpa [World.setCell] using hs4'
  clear r4 f4 hz4' hc4' hp4' hk4' hN4 hs4'
  generalize V4.setCell ⟨w.heap.size + 1 + 1, 3, none⟩ (.int .i64 (dC4 bs).1) = U4 at *
  rw [rounds_succ]
  go_wp2_with fail
  refine (K1.out _ hM4).mono ?_
  rintro e W1 ⟨rfl, hMt1, hj⟩
  have hzt1 := hz4.keep hj hz4.lt (by omega)
  have hct1 := hc4.keep hj hc4.lt (by omega)
  have hkt1 := hk4.and hj (by omega) (fun k hk e => absurd e (hlocT k hk))
  have hst1 : w.heap.size + 4 ≤ W1.heap.size := by have := hj.size; omega
  clear hj hz4 hc4 hk4 hM4 hs4 hp4
  go_wp2_with fail
  refine (K2.out _ hMt1).mono ?_
  rintro e W2 ⟨rfl, hMt2, hj⟩
  have hzt2 := hzt1.keep hj hzt1.lt (by omega)
  have hct2 := hct1.keep hj hct1.lt (by omega)
  have hkt2 := hkt1.and hj (by omega) (fun k hk e => absurd e (hlocT k hk))
  have hst2 : w.heap.size + 4 ≤ W2.heap.size := by have := hj.size; omega
  clear hj hzt1 hct1 hkt1 hMt1 hst1
  go_wp2_with fail
  refine (K3.out _ hMt2).mono ?_
  rintro e W3 ⟨rfl, hMt3, hj⟩
  have hzt3 := hzt2.keep hj hzt2.lt (by omega)
  have hct3 := hct2.keep hj hct2.lt (by omega)
  have hkt3 := hkt2.and hj (by omega) (fun k hk e => absurd e (hlocT k hk))
  have hst3 : w.heap.size + 4 ≤ W3.heap.size := by have := hj.size; omega
  clear hj hzt2 hct2 hkt2 hMt2 hst2
  have r4 : W3.cell? ⟨w.heap.size + 1 + 1, 4, none⟩ = some (.string ⟨#[]⟩) := hct3.cell 4
  have f4 := hct3.frozen 4
  have r5 : W3.cell? ⟨w.heap.size + 1 + 1, 5, none⟩ = some (.string ⟨#[]⟩) := hct3.cell 5
  have f5 := hct3.frozen 5
  have r6 : W3.cell? ⟨w.heap.size + 1 + 1, 6, none⟩ = some (.string ⟨#[]⟩) := hct3.cell 6
  have f6 := hct3.frozen 6
  have hcU : Blk (((W3.setCell ⟨w.heap.size + 1 + 1, 4, none⟩ (str (dT1 bs).1)).setCell ⟨w.heap.size + 1 + 1, 5, none⟩ (str (dT2 bs).1)).setCell ⟨w.heap.size + 1 + 1, 6, none⟩ (str (dT3 bs).1)) (w.heap.size + 1 + 1) 57 #[.int .i64 (dC1 bs).1, .int .i64 (dC2 bs).1, .int .i64 (dC3 bs).1, .int .i64 (dC4 bs).1, str (dT1 bs).1, str (dT2 bs).1, str (dT3 bs).1] := ((hct3.set_ 4 _).set_ 5 _).set_ 6 _
  have hzU := ((hzt3.far (p := ⟨w.heap.size + 1 + 1, 4, none⟩) (by simp; omega) (str (dT1 bs).1)).far (p := ⟨w.heap.size + 1 + 1, 5, none⟩) (by simp; omega) (str (dT2 bs).1)).far (p := ⟨w.heap.size + 1 + 1, 6, none⟩) (by simp; omega) (str (dT3 bs).1)
  have hMU := ((hMt3.far (p := ⟨w.heap.size + 1 + 1, 4, none⟩) (by simp; omega) (by simp) (str (dT1 bs).1)).far (p := ⟨w.heap.size + 1 + 1, 5, none⟩) (by simp; omega) (by simp) (str (dT2 bs).1)).far (p := ⟨w.heap.size + 1 + 1, 6, none⟩) (by simp; omega) (by simp) (str (dT3 bs).1)
  have hkU := ((hkt3.new (g := w.heap.size + 1 + 1) (by omega) 4 (str (dT1 bs).1)).new (g := w.heap.size + 1 + 1) (by omega) 5 (str (dT2 bs).1)).new (g := w.heap.size + 1 + 1) (by omega) 6 (str (dT3 bs).1)
  have hsU : w.heap.size + 4 ≤ (((W3.setCell ⟨w.heap.size + 1 + 1, 4, none⟩ (str (dT1 bs).1)).setCell ⟨w.heap.size + 1 + 1, 5, none⟩ (str (dT2 bs).1)).setCell ⟨w.heap.size + 1 + 1, 6, none⟩ (str (dT3 bs).1)).heap.size := by simpa [World.setCell] using hst3
  unfold str at hcU hzU hMU hkU hsU ⊢
  clear hzt3 hMt3 hkt3 hst3
  go_wp2_with fail
  generalize ((W3.setCell ⟨w.heap.size + 1 + 1, 4, none⟩ (.string ⟨(dT1 bs).1.toArray⟩)).setCell ⟨w.heap.size + 1 + 1, 5, none⟩ (.string ⟨(dT2 bs).1.toArray⟩)).setCell ⟨w.heap.size + 1 + 1, 6, none⟩ (.string ⟨(dT3 bs).1.toArray⟩) = U at hcU hzU hMU hkU hsU ⊢
  clear r4 f4 r5 f5 r6 f6
  refine (HS.out _ hMU).mono ?_
  rintro e W' ⟨rfl, m, rfl⟩
  clear hMU
  have hz := hzU.drewN m
  have hk := hkU.drewN m
  have hcm0 := hcU.drewN m
  have hsm : w.heap.size + 4 ≤ (U.drewN m).heap.size := hsU
  clear hzU hkU hcU hsU
  generalize U.drewN m = U' at *
  have hcm : Blk U' (w.heap.size + 1 + 1) 57 #[.int .i64 (dC1 bs).1, .int .i64 (dC2 bs).1, .int .i64 (dC3 bs).1, .int .i64 (dC4 bs).1, .string ⟨(dT1 bs).1.toArray⟩, .string ⟨(dT2 bs).1.toArray⟩, .string ⟨(dT3 bs).1.toArray⟩] := hcm0
  clear hcm0
  have m0 : U'.cell? ⟨w.heap.size + 1 + 1, 0, none⟩ = some (.int .i64 (dC1 bs).1) := hcm.cell 0
  have m1 : U'.cell? ⟨w.heap.size + 1 + 1, 1, none⟩ = some (.int .i64 (dC2 bs).1) := hcm.cell 1
  have m2 : U'.cell? ⟨w.heap.size + 1 + 1, 2, none⟩ = some (.int .i64 (dC3 bs).1) := hcm.cell 2
  have m3 : U'.cell? ⟨w.heap.size + 1 + 1, 3, none⟩ = some (.int .i64 (dC4 bs).1) := hcm.cell 3
  have m4 : U'.cell? ⟨w.heap.size + 1 + 1, 4, none⟩ = some (.string ⟨(dT1 bs).1.toArray⟩) := hcm.cell 4
  have m5 : U'.cell? ⟨w.heap.size + 1 + 1, 5, none⟩ = some (.string ⟨(dT2 bs).1.toArray⟩) := hcm.cell 5
  have m6 : U'.cell? ⟨w.heap.size + 1 + 1, 6, none⟩ = some (.string ⟨(dT3 bs).1.toArray⟩) := hcm.cell 6
  go_wp2_with fail
  refine (HV.out _ (e.keep hk (by omega) (fun _ _ h => h))).mono ?_
  rintro e2 V ⟨rfl, hbV⟩
  have hzV := hz.below hbV hz.lt
  have hcV := hcm.below hbV hcm.lt
  have hkV := hk.trans (Keep.of_below (hbV.mono hk.size))
  have hsV : w.heap.size + 4 ≤ V.heap.size := by have := hbV.size; omega
  clear hz hcm hk hbV hsm m0 m1 m2 m3 m4 m5 m6
  have m0 : V.cell? ⟨w.heap.size + 1 + 1, 0, none⟩ = some (.int .i64 (dC1 bs).1) := hcV.cell 0
  have m1 : V.cell? ⟨w.heap.size + 1 + 1, 1, none⟩ = some (.int .i64 (dC2 bs).1) := hcV.cell 1
  have m2 : V.cell? ⟨w.heap.size + 1 + 1, 2, none⟩ = some (.int .i64 (dC3 bs).1) := hcV.cell 2
  have m3 : V.cell? ⟨w.heap.size + 1 + 1, 3, none⟩ = some (.int .i64 (dC4 bs).1) := hcV.cell 3
  have m4 : V.cell? ⟨w.heap.size + 1 + 1, 4, none⟩ = some (.string ⟨(dT1 bs).1.toArray⟩) := hcV.cell 4
  have m5 : V.cell? ⟨w.heap.size + 1 + 1, 5, none⟩ = some (.string ⟨(dT2 bs).1.toArray⟩) := hcV.cell 5
  have m6 : V.cell? ⟨w.heap.size + 1 + 1, 6, none⟩ = some (.string ⟨(dT3 bs).1.toArray⟩) := hcV.cell 6
  have z0 : V.cell? ⟨w.heap.size, 0, none⟩ = some (.int .i64 0) := hzV.cell 0
  have y0 := hzV.frozen 0
  have z1 : V.cell? ⟨w.heap.size, 1, none⟩ = some (.int .i64 0) := hzV.cell 1
  have y1 := hzV.frozen 1
  have z2 : V.cell? ⟨w.heap.size, 2, none⟩ = some (.int .i64 0) := hzV.cell 2
  have y2 := hzV.frozen 2
  have z3 : V.cell? ⟨w.heap.size, 3, none⟩ = some (.int .i64 0) := hzV.cell 3
  have y3 := hzV.frozen 3
  have z4 : V.cell? ⟨w.heap.size, 4, none⟩ = some (.string ⟨#[]⟩) := hzV.cell 4
  have y4 := hzV.frozen 4
  have z5 : V.cell? ⟨w.heap.size, 5, none⟩ = some (.string ⟨#[]⟩) := hzV.cell 5
  have y5 := hzV.frozen 5
  have z6 : V.cell? ⟨w.heap.size, 6, none⟩ = some (.string ⟨#[]⟩) := hzV.cell 6
  have y6 := hzV.frozen 6
  go_wp2
  have hzF : Blk (((((((V.setCell ⟨w.heap.size, 0, none⟩ (.int .i64 (dC1 bs).1)).setCell ⟨w.heap.size, 1, none⟩ (.int .i64 (dC2 bs).1)).setCell ⟨w.heap.size, 2, none⟩ (.int .i64 (dC3 bs).1)).setCell ⟨w.heap.size, 3, none⟩ (.int .i64 (dC4 bs).1)).setCell ⟨w.heap.size, 4, none⟩ (.string ⟨(dT1 bs).1.toArray⟩)).setCell ⟨w.heap.size, 5, none⟩ (.string ⟨(dT2 bs).1.toArray⟩)).setCell ⟨w.heap.size, 6, none⟩ (.string ⟨(dT3 bs).1.toArray⟩)) w.heap.size 57 #[.int .i64 (dC1 bs).1, .int .i64 (dC2 bs).1, .int .i64 (dC3 bs).1, .int .i64 (dC4 bs).1, .string ⟨(dT1 bs).1.toArray⟩, .string ⟨(dT2 bs).1.toArray⟩, .string ⟨(dT3 bs).1.toArray⟩] := (((((((hzV.set_ 0 (.int .i64 (dC1 bs).1)).set_ 1 (.int .i64 (dC2 bs).1)).set_ 2 (.int .i64 (dC3 bs).1)).set_ 3 (.int .i64 (dC4 bs).1)).set_ 4 (.string ⟨(dT1 bs).1.toArray⟩)).set_ 5 (.string ⟨(dT2 bs).1.toArray⟩)).set_ 6 (.string ⟨(dT3 bs).1.toArray⟩))
  have hkF := (((((((hkV.new (g := w.heap.size) (Nat.le_refl _) 0 (.int .i64 (dC1 bs).1)).new (g := w.heap.size) (Nat.le_refl _) 1 (.int .i64 (dC2 bs).1)).new (g := w.heap.size) (Nat.le_refl _) 2 (.int .i64 (dC3 bs).1)).new (g := w.heap.size) (Nat.le_refl _) 3 (.int .i64 (dC4 bs).1)).new (g := w.heap.size) (Nat.le_refl _) 4 (.string ⟨(dT1 bs).1.toArray⟩)).new (g := w.heap.size) (Nat.le_refl _) 5 (.string ⟨(dT2 bs).1.toArray⟩)).new (g := w.heap.size) (Nat.le_refl _) 6 (.string ⟨(dT3 bs).1.toArray⟩))
  generalize (((((((V.setCell ⟨w.heap.size, 0, none⟩ (.int .i64 (dC1 bs).1)).setCell ⟨w.heap.size, 1, none⟩ (.int .i64 (dC2 bs).1)).setCell ⟨w.heap.size, 2, none⟩ (.int .i64 (dC3 bs).1)).setCell ⟨w.heap.size, 3, none⟩ (.int .i64 (dC4 bs).1)).setCell ⟨w.heap.size, 4, none⟩ (.string ⟨(dT1 bs).1.toArray⟩)).setCell ⟨w.heap.size, 5, none⟩ (.string ⟨(dT2 bs).1.toArray⟩)).setCell ⟨w.heap.size, 6, none⟩ (.string ⟨(dT3 bs).1.toArray⟩)) = Wf at hzF hkF ⊢
  have u0 : Wf.cell? ⟨w.heap.size, 0, none⟩ = some (.int .i64 (dC1 bs).1) := hzF.cell 0
  have u1 : Wf.cell? ⟨w.heap.size, 1, none⟩ = some (.int .i64 (dC2 bs).1) := hzF.cell 1
  have u2 : Wf.cell? ⟨w.heap.size, 2, none⟩ = some (.int .i64 (dC3 bs).1) := hzF.cell 2
  have u3 : Wf.cell? ⟨w.heap.size, 3, none⟩ = some (.int .i64 (dC4 bs).1) := hzF.cell 3
  have u4 : Wf.cell? ⟨w.heap.size, 4, none⟩ = some (.string ⟨(dT1 bs).1.toArray⟩) := hzF.cell 4
  have u5 : Wf.cell? ⟨w.heap.size, 5, none⟩ = some (.string ⟨(dT2 bs).1.toArray⟩) := hzF.cell 5
  have u6 : Wf.cell? ⟨w.heap.size, 6, none⟩ = some (.string ⟨(dT3 bs).1.toArray⟩) := hzF.cell 6
  exact bodyPost_ret (v := .tuple #[.agg #[.int .i64 (dC1 bs).1, .int .i64 (dC2 bs).1, .int .i64 (dC3 bs).1, .int .i64 (dC4 bs).1, .string ⟨(dT1 bs).1.toArray⟩, .string ⟨(dT2 bs).1.toArray⟩, .string ⟨(dT3 bs).1.toArray⟩], .int .i64 0]) (by simp [results, Tryd.results40, go_sem, u0, u1, u2, u3, u4, u5, u6]) rfl ⟨rfl, hkF.to_below (fun _ _ h => h)⟩

theorem cdecode (A : Option Addr) (n c : Nat) (bs : Bytes) (T : Nat → Prop) (w : World) (e : Env w) (hr : Rd w T 1 A n (u8s bs)) (hn : n ≤ 281474976710656) (hc : n ≤ c) :
    Calls Tryd.prog 40 #[.slice A n c] w fun e w' => e = .returned (.tuple #[cmdV (decV bs), .int .i64 (decE bs)]) ∧ Below w.heap.size w w' := by
  have hl := hr.len8
  subst hl
  have hr0 : Rd w (· < w.heap.size) 1 A bs.length (u8s bs) := hr.more fun k hk _ => hk
  unfold decV decE decOk
  cases hso : soundC bs (dT3 bs).2 with
  | false => exact dec_bad A c bs w e hr0 hn hc hso
  | true =>
    cases hva : validC (decCmd bs) with
    | false => exact dec_inv A c bs w e hr0 hn hc hso hva
    | true => exact dec_ok A c bs w e hr0 hn hc hso hva
end Go.Proofs.YtjdageiphebfpaaDoor

namespace Go.Proofs.YtjdageiphebfpaaDoor
open Go.RowKit
open Pl Mem

/-- Keys that are strings. -/
def kS : KV .string Bytes where
  kv := str
  key := fun _ => trivial
  inj := fun a b h => by
    unfold str at h
    injection h with h
    injection h with h
    have := congrArg Array.toList h
    simpa using this

theorem creadPairs (gm g bp n : Nat) (bs : Bytes) (s : St) (L : List (Bytes × Bytes)) (w : World) (hm : w.cell? ⟨gm, 0, none⟩ = some (.map (some bp))) (hgm : gm < w.heap.size) (h1 : gm ≠ g) (h2 : gm ≠ bp) (h3 : g ≠ bp) (hbp : n ≤ bp)
    (hM : MRd w g (· < n) bs s) (hP : MapIs kS str w bp L) :
    Calls Tryd.prog 36 #[.pointer (some ⟨gm, 0, none⟩), .pointer (some ⟨g, 0, none⟩)] w fun e w' =>
      e = .returned (.tuple #[]) ∧ MRd w' g (· < n) bs (pRun bs s L).st ∧ MapIs kS str w' bp (pRun bs s L).L ∧ Keep w.heap.size (fun k => k = g ∨ k = bp) w w' := by
  have HC := Lib.hid (mcount g (· < n) bs s 16 w hM (by omega) (by omega))
  have hN := mCount_le bs 16 s
  unfold pRun
  rw [show (16 : Int).toNat = 16 from rfl] at HC
  generalize mCount bs 16 s = r at HC hN ⊢
  obtain ⟨N, s1⟩ := r
  simp only [] at hN ⊢
  go_enter Tryd.func36, Tryd.ntmps36
  go_wp2_with fail
  refine HC.out.mono ?_
  rintro e w1 ⟨rfl, hM1, hk1⟩
  have hP1 := hP.keep hk1 hP.lt (fun e => h3 e.symm)
  have hm1 := (hk1.cell (p := ⟨gm, 0, none⟩) hgm h1).trans hm
  have hK1 : Keep w.heap.size (fun k => k = g ∨ k = bp) w w1 := hk1.mono (Nat.le_refl _) (fun k _ h => Or.inl h)
  clear hM hP hm hk1 HC
  go_wp2_with fail
  go_loopw [4, 9] (fun x i wr => ∃ q : Nat, q ≤ N ∧ i = .int .i64 q ∧ x = str (pIter bs q ⟨s1, [], L⟩).last ∧ MRd wr g (· < n) bs (pIter bs q ⟨s1, [], L⟩).st ∧ MapIs kS str wr bp (pIter bs q ⟨s1, [], L⟩).L ∧
      wr.cell? ⟨gm, 0, none⟩ = some (.map (some bp)) ∧ Keep w.heap.size (fun k => k = g ∨ k = bp) w wr) (fun _ i _ => N - (intOf i).toNat)
  case atStart => exact ⟨0, by omega, rfl, rfl, hM1, hP1, hm1, hK1⟩
  case round =>
    obtain ⟨q, hq, rfl, rfl, hMr, hPr, hmr, hKr⟩ := hrel
    clear hM1 hP1 hm1 hK1
    by_cases hl : q < N
    · have hps : Hid (pIter bs (q + 1) ⟨s1, [], L⟩ = pStep bs (pIter bs q ⟨s1, [], L⟩)) := rfl
      generalize pIter bs q ⟨s1, [], L⟩ = X at *
      have H1 := Lib.hid (mtext g (· < n) bs X.st 8 wr hMr (by omega) (by omega))
      unfold pStep at hps
      have hgl : g < wr.heap.size := hMr.lt
      have hbl : bp < wr.heap.size := hPr.lt
      have hgml : gm < wr.heap.size := Nat.lt_of_lt_of_le hgm hKr.size
      rw [show (8 : Int).toNat = 8 from rfl] at *
      generalize hk : mText bs 8 X.st = rk at *
      have H2 := Lib.hid fun W (h : MRd W g (· < n) bs rk.2) => mtext g (· < n) bs rk.2 8 W h (by omega) (by omega)
      rw [show (8 : Int).toNat = 8 from rfl] at *
      generalize mText bs 8 rk.2 = rv at *
      clear hk
      go_wp2_with fail
      refine H1.out.mono ?_
      rintro e w2 ⟨rfl, hM2, hk2⟩
      have hP2 := hPr.keep hk2 hbl (fun e => h3 e.symm)
      have hm2 := (hk2.cell (p := ⟨gm, 0, none⟩) hgml h1).trans hmr
      have hK2 := hKr.and hk2 hKr.size (fun k _ h => Or.inl h)
      clear hMr hPr hmr hKr hk2 H1
      go_wp2_with fail
      refine (H2.out _ hM2).mono ?_
      rintro e w3 ⟨rfl, hM3, hk3⟩
      have hP3 := hP2.keep hk3 hP2.lt (fun e => h3 e.symm)
      have hm3 := (hk3.cell (p := ⟨gm, 0, none⟩) (Nat.lt_of_lt_of_le hgm hK2.size) h1).trans hm2
      have hK3 := hK2.and hk3 hK2.size (fun k _ h => Or.inl h)
      clear hM2 hP2 hm2 hK2 hk3 H2
      obtain ⟨m1, m2, m3, A, c, hcap, hb, hr⟩ := hM3
      have f2 := hb.frozen 2
      have c2 : w3.cell? ⟨g, 2, none⟩ = some (.bool rv.2.bad) := hb.cell 2
      unfold str
      cases hbl2 : ble rk.1 X.last with
      | true =>
        unfold ble at hbl2
        have hMset : MRd (w3.setCell ⟨g, 2, none⟩ (.bool true)) g (· < n) bs ⟨rv.2.p, rv.2.bad || true⟩ := ⟨m1, m2, m3, A, c, hcap, (by rw [Bool.or_true]; exact hb.set_ 2 _), hr.setCell (fun _ e => m1 e) _⟩
        have hmset : (w3.setCell ⟨g, 2, none⟩ (.bool true)).cell? ⟨gm, 0, none⟩ = some (.map (some bp)) := (World.cell?_setCell_other w3 ⟨g, 2, none⟩ ⟨gm, 0, none⟩ _ (fun e => h1 (congrArg Addr.block e).symm)).trans hm3
        have hKset : Keep w.heap.size (fun k => k = g ∨ k = bp) w (w3.setCell ⟨g, 2, none⟩ (.bool true)) := hK3.setCell (p := ⟨g, 2, none⟩) (Or.inr (Or.inl rfl)) _
        go_wp2_with (at_mapUpdate; refine wpList_put rfl (.tmp 24) (.tmp 25) (.tmp 26) _ rfl Tryd.underlying87 Tryd.underlying9 rfl (hP3.far (p := ⟨g, 2, none⟩) (fun e => h3 e.symm) (.bool true)) rk.1 rv.1 rfl rfl ?_; intro w4 hP4 hg4)
        have hk4 := Keep.of_grown hg4
        have hlen : ∀ k, k < n → ¬ k = bp := fun k hk e => by omega
        refine ⟨⟨q + 1, by omega, by go_num, ?_, ?_, ?_, (hk4.cell (p := ⟨gm, 0, none⟩) (Nat.lt_of_lt_of_le hgm hKset.size) h2).trans hmset, hKset.and hk4 hKset.size (fun k _ h => Or.inr h)⟩, by simp [intOf]; omega⟩
        · rw [hps.out]; rfl
        · rw [hps.out]
          simp only [ble, hbl2]
          exact hMset.keepT hk4 (Nat.le_refl _) h3 hlen
        · rw [hps.out]; exact hP4
      | false =>
        unfold ble at hbl2
        have hMset : MRd w3 g (· < n) bs ⟨rv.2.p, rv.2.bad || false⟩ := ⟨m1, m2, m3, A, c, hcap, (by rw [Bool.or_false]; exact hb), hr⟩
        have hmset : w3.cell? ⟨gm, 0, none⟩ = some (.map (some bp)) := hm3
        have hKset : Keep w.heap.size (fun k => k = g ∨ k = bp) w w3 := hK3
        go_wp2_with (at_mapUpdate; refine wpList_put rfl (.tmp 24) (.tmp 25) (.tmp 26) _ rfl Tryd.underlying87 Tryd.underlying9 rfl hP3 rk.1 rv.1 rfl rfl ?_; intro w4 hP4 hg4)
        have hk4 := Keep.of_grown hg4
        have hlen : ∀ k, k < n → ¬ k = bp := fun k hk e => by omega
        refine ⟨⟨q + 1, by omega, by go_num, ?_, ?_, ?_, (hk4.cell (p := ⟨gm, 0, none⟩) (Nat.lt_of_lt_of_le hgm hKset.size) h2).trans hmset, hKset.and hk4 hKset.size (fun k _ h => Or.inr h)⟩, by simp [intOf]; omega⟩
        · rw [hps.out]; rfl
        · rw [hps.out]
          simp only [ble, hbl2]
          exact hMset.keepT hk4 (Nat.le_refl _) h3 hlen
        · rw [hps.out]; exact hP4
    · obtain rfl : q = N := by omega
      go_wp2
      go_end0
      exact ⟨rfl, hMr, hPr, hKr⟩
end Go.Proofs.YtjdageiphebfpaaDoor
