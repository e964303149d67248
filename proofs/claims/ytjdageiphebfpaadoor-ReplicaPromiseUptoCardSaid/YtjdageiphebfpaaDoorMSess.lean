/- The walk of readSessions. -/
import Derived.Test.YtjdageiphebfpaaDoorMLocks
import Derived.Test.YtjdageiphebfpaaDoorMLockWords
import Derived.StillTailTactics
import Derived.Deep.LoopGhost
namespace Go.Proofs.YtjdageiphebfpaaDoor
open Go.RowKit
open Pl Mem

/-- What holds at the head of each round of the sessions' loop. -/
structure SInv (w0 : World) (gm g bp bl n : Nat) (tok : Int) (bs : Bytes) (wr : World) (X : SSt) : Prop where
  rd : MRd wr g (· < n) bs X.st
  mb : MachB wr gm bp bl tok X.ss
  kp : Keep w0.heap.size (fun k => k = g ∨ k = gm) w0 wr

/-- What holds at the head of each round of the loop over the locks: 'left' are still to come; B: one of those before lacks a session. -/
structure RInv (w0 w1 : World) (gm g bp bl n : Nat) (tok : Int) (bs : Bytes) (E : List (Bytes × LkH)) (X : SSt) (wv : World) (left : List (Bytes × LkH)) (B : Bool) : Prop where
  rg : Rng kS evL wv w1.heap.size bl E left
  sub : ∀ x ∈ left, x ∈ E
  rd : MRd wv g (· < n) bs ⟨X.st.p, X.st.bad || B⟩
  mb : MachB wv gm bp bl tok X.ss
  kp : Keep w1.heap.size (fun k => k = g) w1 wv
  yes : B = true → lacksL X.ss (plainL E) = true
  all : ∀ p ∈ E, p ∉ left → lacks X.ss (p.2.lk.holder :: p.2.lk.queue) = true → B = true

theorem MachB.drew {w : World} {gm bp bl : Nat} {tok : Int} {ss : List Ses} (h : MachB w gm bp bl tok ss) : MachB w.drew gm bp bl tok ss := h

/-- The end of a round: the session is laid. -/
theorem SInv.fin {w0 wr W : World} {gm g bp bl n : Nat} {tok : Int} {bs : Bytes} {X : SSt} {st : St} {last : Int} {p : Nat} {sv : Ses} (h1 : gm ≠ g) (hgn : n ≤ gm) (hp : p < 16)
    (hMw : MRd W g (· < n) bs st) (hMB : MachB W gm bp bl tok X.ss) (hkr : Keep w0.heap.size (fun k => k = g ∨ k = gm) w0 wr) (hkw : Keep wr.heap.size (fun k => k = g) wr W) :
    SInv w0 gm g bp bl n tok bs (((((W.setCell ⟨gm, 3 + p * 5, none⟩ (.int .i64 sv.inc)).setCell ⟨gm, 3 + p * 5 + 1, none⟩ (.int .i64 sv.req)).setCell ⟨gm, 3 + p * 5 + 2, none⟩ (.int .i64 sv.code)).setCell ⟨gm, 3 + p * 5 + 3, none⟩ (.string ⟨sv.val.toArray⟩)).setCell ⟨gm, 3 + p * 5 + 4, none⟩ (.int .i64 sv.n)).drew ⟨st, last, X.ss.set p sv⟩ := by
  have hpk := ((((((Keep.refl W.heap.size (· = gm) W).own (3 + p * 5) (.int .i64 sv.inc)).own (3 + p * 5 + 1) (.int .i64 sv.req)).own (3 + p * 5 + 2) (.int .i64 sv.code)).own (3 + p * 5 + 3) (.string ⟨sv.val.toArray⟩)).own (3 + p * 5 + 4) (.int .i64 sv.n)).drew
  exact ⟨hMw.keepT hpk (Nat.le_refl _) (fun e => h1 e.symm) (by omega), (hMB.put p sv hp).drew, (hkr.trans (hkw.mono hkr.size (fun k _ h => Or.inl h))).and hpk (Nat.le_trans hkr.size hkw.size) (fun k _ h => Or.inr h)⟩

/-- The end of a round over the locks. -/
theorem RInv.fin {w0 wo v3 W : World} {gm g bp bl n : Nat} {tok : Int} {bs : Bytes} {E : List (Bytes × LkH)} {X : SSt} {left left' : List (Bytes × LkH)} {B : Bool} {nm : Bytes} {hb : Nat} {v : Value} {ho : Int} {tk : Int} {que l : List Int}
    (hkp3 : Keep wo.heap.size (fun k => k = g) wo v3) (hs : wo.heap.size ≤ v3.heap.size)
    (hcov : ∀ x ∈ left, x = (nm, ⟨hb, v, ⟨ho, tk, que⟩⟩) ∨ x ∈ left')
    (hall : ∀ p ∈ E, p ∉ left → lacks X.ss (p.2.lk.holder :: p.2.lk.queue) = true → B = true)
    (hyes : B = true → lacksL X.ss (plainL E) = true) (hsub : ∀ x ∈ left, x ∈ E) (hsb : ∀ x ∈ left', x ∈ left)
    (hlk : Hid (lacks X.ss l = true → lacksL X.ss (plainL E) = true)) (hl0 : ho :: que = l)
    (hMj : MRd W g (· < n) bs ⟨X.st.p, X.st.bad || (B || lacks X.ss l)⟩) (hKj : Keep v3.heap.size (fun k => k = g) v3 W)
    (hrg3 : Rng kS evL v3 wo.heap.size bl E left') (hmb3 : MachB v3 gm bp bl tok X.ss) (hblf : bl ≠ g ∧ bl ≠ gm) (h1 : gm ≠ g) (hg : g < wo.heap.size) :
    RInv w0 wo gm g bp bl n tok bs E X W left' (B || lacks X.ss l) := by
  refine ⟨hrg3.keep hKj ⟨hrg3.lt.1, by omega⟩ ⟨hrg3.lt.2, hblf.1⟩, fun x hx => hsub x (hsb x hx), hMj, hmb3.keep hKj (Nat.le_refl _) h1, hkp3.and hKj hs (fun k _ h => h), ?_, ?_⟩
  · intro h
    rcases Bool.or_eq_true_iff.1 h with h | h
    · exact hyes h
    · exact hlk.out h
  · intro p hp hn hl
    by_cases hin : p ∈ left
    · rcases hcov p hin with rfl | hin
      · simp only [] at hl
        rw [hl0] at hl
        rw [hl, Bool.or_true]
      · exact absurd hin hn
    · rw [hall p hp hin hl]; rfl

set_option maxRecDepth 100000 in
set_option maxHeartbeats 8000000 in
theorem creadSessions (gm g bp bl n : Nat) (tok : Int) (bs : Bytes) (s : St) (ss : List Ses) (E : List (Bytes × LkH)) (w : World) (h1 : gm ≠ g) (hgn : n ≤ gm) (hM : MRd w g (· < n) bs s) (hB : MachB w gm bp bl tok ss)
    (hL : Locks w bl E) (hok : ∀ p ∈ E, LkOk p.2.lk) (hf : ∀ k, footL bl E k → k ≠ g ∧ k ≠ gm) :
    Calls Tryd.prog 38 #[.pointer (some ⟨gm, 0, none⟩), .pointer (some ⟨g, 0, none⟩)] w fun e w' =>
      e = .returned (.tuple #[]) ∧ MRd w' g (· < n) bs ⟨(sRun bs s ss).st.p, (sRun bs s ss).st.bad || lacksL (sRun bs s ss).ss (plainL E)⟩ ∧ MachB w' gm bp bl tok (sRun bs s ss).ss ∧ Keep w.heap.size (fun k => k = g ∨ k = gm) w w' := by
  have HC := Lib.hid (mcount g (· < n) bs s 16 w hM (by omega) (by omega))
  have hN := mCount_le bs 16 s
  unfold sRun
  rw [show (16 : Int).toNat = 16 from rfl] at HC
  generalize mCount bs 16 s = r at HC hN ⊢
  obtain ⟨N, s1⟩ := r
  simp only [] at hN ⊢
  go_enter Tryd.func38, Tryd.ntmps38
  go_wp2_with fail
  refine HC.out.mono ?_
  rintro e w1 ⟨rfl, hM1, hk1⟩
  have hgl := hM.lt
  have hgml := hB.1.lt
  have hI : SInv w gm g bp bl n tok bs w1 ⟨s1, -1, ss⟩ := ⟨hM1, hB.keep hk1 (Nat.le_refl _) h1, hk1.mono (Nat.le_refl _) (fun _ _ h => Or.inl h)⟩
  clear hM1 hk1 HC
  go_wp2_with fail
  go_loopw [4, 13] (fun x i wr => ∃ q : Nat, q ≤ N ∧ i = .int .i64 q ∧ x = .int .i64 (sIter bs q ⟨s1, -1, ss⟩).last ∧ SInv w gm g bp bl n tok bs wr (sIter bs q ⟨s1, -1, ss⟩)) (fun _ i _ => N - (intOf i).toNat)
  case atStart => exact ⟨0, by omega, rfl, rfl, hI⟩
  case round =>
    obtain ⟨q, hq, rfl, rfl, hIr⟩ := hrel
    clear hI
    by_cases hl : q < N
    · have hps : Hid (sIter bs (q + 1) ⟨s1, -1, ss⟩ = sStep bs (sIter bs q ⟨s1, -1, ss⟩)) := rfl
      generalize sIter bs q ⟨s1, -1, ss⟩ = X at *
      have HP := Lib.hid fun W h => (show Calls Tryd.prog 35 #[.pointer (some ⟨g, 0, none⟩), .int .i64 15] W fun e w' => e = .returned (.int .i64 (sP bs X).1) ∧ MRd w' g (· < n) bs (sP bs X).2 ∧ Keep W.heap.size (· = g) W w' from mcount g (· < n) bs X.st 15 W h (by omega) (by omega))
      have HI := Lib.hid fun W h => (show Calls Tryd.prog 35 #[.pointer (some ⟨g, 0, none⟩), .int .i64 4611686018427387904] W fun e w' => e = .returned (.int .i64 (sI bs X).1) ∧ MRd w' g (· < n) bs (sI bs X).2 ∧ Keep W.heap.size (· = g) W w' from mcount g (· < n) bs (sP bs X).2 4611686018427387904 W h (by omega) (by omega))
      have HR := Lib.hid fun W h => (show Calls Tryd.prog 35 #[.pointer (some ⟨g, 0, none⟩), .int .i64 4611686018427387904] W fun e w' => e = .returned (.int .i64 (sR bs X).1) ∧ MRd w' g (· < n) bs (sR bs X).2 ∧ Keep W.heap.size (· = g) W w' from mcount g (· < n) bs (sI bs X).2 4611686018427387904 W h (by omega) (by omega))
      have HCd := Lib.hid fun W h => (show Calls Tryd.prog 35 #[.pointer (some ⟨g, 0, none⟩), .int .i64 11] W fun e w' => e = .returned (.int .i64 (sC bs X).1) ∧ MRd w' g (· < n) bs (sC bs X).2 ∧ Keep W.heap.size (· = g) W w' from mcount g (· < n) bs (sR bs X).2 11 W h (by omega) (by omega))
      have HV := Lib.hid fun W h => (show Calls Tryd.prog 45 #[.pointer (some ⟨g, 0, none⟩), .int .i64 8] W fun e w' => e = .returned (str (sV bs X).1) ∧ MRd w' g (· < n) bs (sV bs X).2 ∧ Keep W.heap.size (· = g) W w' from mtext g (· < n) bs (sC bs X).2 8 W h (by omega) (by omega))
      have HNn := Lib.hid fun W h => (show Calls Tryd.prog 35 #[.pointer (some ⟨g, 0, none⟩), .int .i64 99999999] W fun e w' => e = .returned (.int .i64 (sN bs X).1) ∧ MRd w' g (· < n) bs (sN bs X).2 ∧ Keep W.heap.size (· = g) W w' from mcount g (· < n) bs (sV bs X).2 99999999 W h (by omega) (by omega))
      obtain ⟨hMr, hBr, hKr⟩ := hIr
      have hgr := hMr.lt
      have hgmr := hBr.1.lt
      go_wp2_with fail
      refine (HP.out _ hMr).mono ?_
      rintro e w2 ⟨rfl, hM2, hk2⟩
      go_wp2_with fail
      refine (HI.out _ hM2).mono ?_
      rintro e w3 ⟨rfl, hM3, hk3⟩
      go_wp2_with fail
      refine (HR.out _ hM3).mono ?_
      rintro e w4 ⟨rfl, hM4, hk4⟩
      have hk24 := (hk2.and hk3 hk2.size (fun _ _ h => h)).and hk4 (Nat.le_trans hk2.size hk3.size) (fun _ _ h => h)
      clear hM2 hk2 hM3 hk3 hk4 HP HI HR
      go_wp2_with fail
      have hs4 : wr.heap.size ≤ w4.heap.size := hk24.size
      have hB5 := Blk.new w4 92 #[.int .i64 (sI bs X).1, .int .i64 (sR bs X).1, .int .i64 0, .string ⟨#[]⟩, .int .i64 0]
      have hM5 : MRd (w4.alloc (.cells #[.int .i64 (sI bs X).1, .int .i64 (sR bs X).1, .int .i64 0, .string ⟨#[]⟩, .int .i64 0] 92)) g (· < n) bs (sR bs X).2 := hM4.keepT (S := fun _ => False) ((Keep.refl _ _ _).alloc (Nat.le_refl _) _) (Nat.le_refl _) (fun h => h) (fun _ _ h => h)
      have hk25 := hk24.alloc hs4 (.cells #[.int .i64 (sI bs X).1, .int .i64 (sR bs X).1, .int .i64 0, .string ⟨#[]⟩, .int .i64 0] 92)
      clear hM4 hk24
      generalize w4.alloc (.cells #[.int .i64 (sI bs X).1, .int .i64 (sR bs X).1, .int .i64 0, .string ⟨#[]⟩, .int .i64 0] 92) = w5 at hB5 hM5 hk25 ⊢
      generalize w4.heap.size = sb at hs4 hB5 ⊢
      refine (HCd.out _ hM5).mono ?_
      rintro e w6 ⟨rfl, hM6, hk6⟩
      have hB6 := hB5.keep hk6 hB5.lt (by omega)
      have hk26 := hk25.and hk6 hk25.size (fun _ _ h => h)
      clear hB5 hM5 hk25 hk6 HCd
      go_wp2_with fail
      refine (HV.out _ hM6).mono ?_
      rintro e w7 ⟨rfl, hM7, hk7⟩
      have hB7 := hB6.keep hk7 hB6.lt (by omega)
      have hk27 := hk26.and hk7 hk26.size (fun _ _ h => h)
      clear hB6 hM6 hk26 hk7 HV
      have d2 : w7.cell? ⟨sb, 2, none⟩ = some (.int .i64 0) := hB7.cell 2
      have d3 : w7.cell? ⟨sb, 3, none⟩ = some (.string ⟨#[]⟩) := hB7.cell 3
      have d4 : w7.cell? ⟨sb, 4, none⟩ = some (.int .i64 0) := hB7.cell 4
      have f2 := hB7.frozen 2
      have f3 := hB7.frozen 3
      have f4 := hB7.frozen 4
      have hB8 := ((hB7.set_ 2 (.int .i64 (sC bs X).1)).set_ 3 (str (sV bs X).1)).set_ 4 (.int .i64 0)
      have hsg : sb ≠ g := by omega
      have hM8 := ((hM7.far (p := ⟨sb, 2, none⟩) (by simp; have := hKr.size; omega) hsg.symm (.int .i64 (sC bs X).1)).far (p := ⟨sb, 3, none⟩) (by simp; have := hKr.size; omega) hsg.symm (str (sV bs X).1)).far (p := ⟨sb, 4, none⟩) (by simp; have := hKr.size; omega) hsg.symm (.int .i64 0)
      have hk28 := ((hk27.new (g := sb) hs4 2 (.int .i64 (sC bs X).1)).new (g := sb) hs4 3 (str (sV bs X).1)).new (g := sb) hs4 4 (.int .i64 0)
      unfold str at hB8 hM8 hk28 ⊢
      go_wp2_with fail
      clear d2 d3 d4 f2 f3 f4 hB7 hM7 hk27
      generalize ((w7.setCell ⟨sb, 2, none⟩ (.int .i64 (sC bs X).1)).setCell ⟨sb, 3, none⟩ (.string ⟨(sV bs X).1.toArray⟩)).setCell ⟨sb, 4, none⟩ (.int .i64 0) = w8 at hB8 hM8 hk28 ⊢
      refine (HNn.out _ hM8).mono ?_
      rintro e w9 ⟨rfl, hM9, hk9⟩
      have hB9 := hB8.keep hk9 hB8.lt (by omega)
      have hk29 := hk28.and hk9 hk28.size (fun _ _ h => h)
      clear hB8 hM8 hk28 hk9 HNn
      have k0 : w9.cell? ⟨sb, 0, none⟩ = some (.int .i64 (sI bs X).1) := hB9.cell 0
      have k1 : w9.cell? ⟨sb, 1, none⟩ = some (.int .i64 (sR bs X).1) := hB9.cell 1
      have k2 : w9.cell? ⟨sb, 2, none⟩ = some (.int .i64 (sC bs X).1) := hB9.cell 2
      have k3 : w9.cell? ⟨sb, 3, none⟩ = some (.string ⟨(sV bs X).1.toArray⟩) := hB9.cell 3
      have k4 : w9.cell? ⟨sb, 4, none⟩ = some (.int .i64 0) := hB9.cell 4
      have f4 := hB9.frozen 4
      obtain ⟨z1, z2, z3, A, c, hcap, hb, hr⟩ := hM9
      have r2 : (w9.setCell ⟨sb, 4, none⟩ (.int .i64 (sN bs X).1)).cell? ⟨g, 2, none⟩ = some (.bool (sN bs X).2.bad) := (World.cell?_setCell_other w9 ⟨sb, 4, none⟩ ⟨g, 2, none⟩ _ (fun e => hsg (congrArg Addr.block e))).trans (hb.cell 2)
      have fr2 := hb.frozen 2
      by_cases q1 : ((sP bs X).1 : Int) ≤ X.last
      · have hBad := Lib.hid (show sBad bs X = true by unfold sBad; rw [decide_eq_true q1]; simp)
        go_wp2_with fail
        have hBw : Blk ((w9.setCell ⟨sb, 4, none⟩ (.int .i64 (sN bs X).1)).setCell ⟨g, 2, none⟩ (.bool true)) sb 92 #[.int .i64 (sI bs X).1, .int .i64 (sR bs X).1, .int .i64 (sC bs X).1, .string ⟨(sV bs X).1.toArray⟩, .int .i64 (sN bs X).1] := (hB9.set_ 4 _).far (p := ⟨g, 2, none⟩) hsg _
        have hkw : Keep wr.heap.size (fun k => k = g) wr ((w9.setCell ⟨sb, 4, none⟩ (.int .i64 (sN bs X).1)).setCell ⟨g, 2, none⟩ (.bool true)) := (hk29.new (g := sb) hs4 4 _).setCell (p := ⟨g, 2, none⟩) (Or.inr rfl) _
        have hMw : MRd ((w9.setCell ⟨sb, 4, none⟩ (.int .i64 (sN bs X).1)).setCell ⟨g, 2, none⟩ (.bool true)) g (· < n) bs ⟨(sN bs X).2.p, true⟩ := ⟨z1, z2, z3, A, c, hcap, (hb.far (p := ⟨sb, 4, none⟩) hsg.symm _).set_ 2 _, (hr.setCell (p := ⟨sb, 4, none⟩) (fun _ e => by have := hKr.size; simp at e; omega) _).setCell (fun _ e => z1 e) _⟩
        generalize (w9.setCell ⟨sb, 4, none⟩ (.int .i64 (sN bs X).1)).setCell ⟨g, 2, none⟩ (.bool true) = W at hBw hkw hMw ⊢
        have hp15 : (sP bs X).1 ≤ 15 := mCount_le bs 15 _
        have hMBw := hBr.keep hkw (Nat.le_refl _) h1
        have hss : (sP bs X).1 < X.ss.length := by rw [hBr.2]; omega
        obtain ⟨so, hold⟩ : ∃ so, X.ss[(sP bs X).1]? = some so := ⟨_, List.getElem?_eq_getElem hss⟩
        have m0 : W.cell? ⟨gm, 3 + (sP bs X).1 * 5, none⟩ = some (.int .i64 so.inc) := hMBw.cell hold (j := 0) (by omega)
        have m1 : W.cell? ⟨gm, 3 + (sP bs X).1 * 5 + 1, none⟩ = some (.int .i64 so.req) := hMBw.cell hold (j := 1) (by omega)
        have m2 : W.cell? ⟨gm, 3 + (sP bs X).1 * 5 + 2, none⟩ = some (.int .i64 so.code) := hMBw.cell hold (j := 2) (by omega)
        have m3 : W.cell? ⟨gm, 3 + (sP bs X).1 * 5 + 3, none⟩ = some (str so.val) := hMBw.cell hold (j := 3) (by omega)
        have m4 : W.cell? ⟨gm, 3 + (sP bs X).1 * 5 + 4, none⟩ = some (.int .i64 so.n) := hMBw.cell hold (j := 4) (by omega)
        have u0 := hMBw.1.frozen (3 + (sP bs X).1 * 5)
        have u1 := hMBw.1.frozen (3 + (sP bs X).1 * 5 + 1)
        have u2 := hMBw.1.frozen (3 + (sP bs X).1 * 5 + 2)
        have u3 := hMBw.1.frozen (3 + (sP bs X).1 * 5 + 3)
        have u4 := hMBw.1.frozen (3 + (sP bs X).1 * 5 + 4)
        have s0 : W.cell? ⟨sb, 0, none⟩ = some (.int .i64 (sI bs X).1) := hBw.cell 0
        have s1 : W.cell? ⟨sb, 1, none⟩ = some (.int .i64 (sR bs X).1) := hBw.cell 1
        have s2 : W.cell? ⟨sb, 2, none⟩ = some (.int .i64 (sC bs X).1) := hBw.cell 2
        have s3 : W.cell? ⟨sb, 3, none⟩ = some (.string ⟨(sV bs X).1.toArray⟩) := hBw.cell 3
        have s4 : W.cell? ⟨sb, 4, none⟩ = some (.int .i64 (sN bs X).1) := hBw.cell 4
        clear hold hss hBw
        go_region
        go_wp2
        refine ⟨⟨q + 1, by omega, by go_num, ?_, ?_⟩, by simp [intOf]; omega⟩
        · rw [hps.out]; rfl
        · rw [hps.out]
          unfold sStep
          rw [hBad.out]
          rw [Bool.or_true]
          exact SInv.fin (X := X) (sv := sSes bs X) h1 hgn (by omega) hMw hMBw hKr hkw
      · have QQ1 := Lib.hid q1
        by_cases q2 : (sI bs X).1 = 0
        · have hBad := Lib.hid (show sBad bs X = true by unfold sBad; rw [decide_eq_true q2]; simp)
          have t2 : (((sI bs X).1 : Int) == 0) = true := by rw [q2]; rfl
          clear q2
          go_wp2_with fail
          have hBw : Blk ((w9.setCell ⟨sb, 4, none⟩ (.int .i64 (sN bs X).1)).setCell ⟨g, 2, none⟩ (.bool true)) sb 92 #[.int .i64 (sI bs X).1, .int .i64 (sR bs X).1, .int .i64 (sC bs X).1, .string ⟨(sV bs X).1.toArray⟩, .int .i64 (sN bs X).1] := (hB9.set_ 4 _).far (p := ⟨g, 2, none⟩) hsg _
          have hkw : Keep wr.heap.size (fun k => k = g) wr ((w9.setCell ⟨sb, 4, none⟩ (.int .i64 (sN bs X).1)).setCell ⟨g, 2, none⟩ (.bool true)) := (hk29.new (g := sb) hs4 4 _).setCell (p := ⟨g, 2, none⟩) (Or.inr rfl) _
          have hMw : MRd ((w9.setCell ⟨sb, 4, none⟩ (.int .i64 (sN bs X).1)).setCell ⟨g, 2, none⟩ (.bool true)) g (· < n) bs ⟨(sN bs X).2.p, true⟩ := ⟨z1, z2, z3, A, c, hcap, (hb.far (p := ⟨sb, 4, none⟩) hsg.symm _).set_ 2 _, (hr.setCell (p := ⟨sb, 4, none⟩) (fun _ e => by have := hKr.size; simp at e; omega) _).setCell (fun _ e => z1 e) _⟩
          generalize (w9.setCell ⟨sb, 4, none⟩ (.int .i64 (sN bs X).1)).setCell ⟨g, 2, none⟩ (.bool true) = W at hBw hkw hMw ⊢
          have hp15 : (sP bs X).1 ≤ 15 := mCount_le bs 15 _
          have hMBw := hBr.keep hkw (Nat.le_refl _) h1
          have hss : (sP bs X).1 < X.ss.length := by rw [hBr.2]; omega
          obtain ⟨so, hold⟩ : ∃ so, X.ss[(sP bs X).1]? = some so := ⟨_, List.getElem?_eq_getElem hss⟩
          have m0 : W.cell? ⟨gm, 3 + (sP bs X).1 * 5, none⟩ = some (.int .i64 so.inc) := hMBw.cell hold (j := 0) (by omega)
          have m1 : W.cell? ⟨gm, 3 + (sP bs X).1 * 5 + 1, none⟩ = some (.int .i64 so.req) := hMBw.cell hold (j := 1) (by omega)
          have m2 : W.cell? ⟨gm, 3 + (sP bs X).1 * 5 + 2, none⟩ = some (.int .i64 so.code) := hMBw.cell hold (j := 2) (by omega)
          have m3 : W.cell? ⟨gm, 3 + (sP bs X).1 * 5 + 3, none⟩ = some (str so.val) := hMBw.cell hold (j := 3) (by omega)
          have m4 : W.cell? ⟨gm, 3 + (sP bs X).1 * 5 + 4, none⟩ = some (.int .i64 so.n) := hMBw.cell hold (j := 4) (by omega)
          have u0 := hMBw.1.frozen (3 + (sP bs X).1 * 5)
          have u1 := hMBw.1.frozen (3 + (sP bs X).1 * 5 + 1)
          have u2 := hMBw.1.frozen (3 + (sP bs X).1 * 5 + 2)
          have u3 := hMBw.1.frozen (3 + (sP bs X).1 * 5 + 3)
          have u4 := hMBw.1.frozen (3 + (sP bs X).1 * 5 + 4)
          have s0 : W.cell? ⟨sb, 0, none⟩ = some (.int .i64 (sI bs X).1) := hBw.cell 0
          have s1 : W.cell? ⟨sb, 1, none⟩ = some (.int .i64 (sR bs X).1) := hBw.cell 1
          have s2 : W.cell? ⟨sb, 2, none⟩ = some (.int .i64 (sC bs X).1) := hBw.cell 2
          have s3 : W.cell? ⟨sb, 3, none⟩ = some (.string ⟨(sV bs X).1.toArray⟩) := hBw.cell 3
          have s4 : W.cell? ⟨sb, 4, none⟩ = some (.int .i64 (sN bs X).1) := hBw.cell 4
          clear hold hss hBw
          go_region
          go_wp2
          refine ⟨⟨q + 1, by omega, by go_num, ?_, ?_⟩, by simp [intOf]; omega⟩
          · rw [hps.out]; rfl
          · rw [hps.out]
            unfold sStep
            rw [hBad.out]
            rw [Bool.or_true]
            exact SInv.fin (X := X) (sv := sSes bs X) h1 hgn (by omega) hMw hMBw hKr hkw
        · have t2 : (((sI bs X).1 : Int) == 0) = false := by simp; omega
          have QQ2 := Lib.hid q2
          clear q2
          by_cases q3 : (sR bs X).1 = 0
          · have hBad := Lib.hid (show sBad bs X = true by unfold sBad; rw [decide_eq_true q3]; simp)
            have t3 : (((sR bs X).1 : Int) == 0) = true := by rw [q3]; rfl
            clear q3
            go_wp2_with fail
            have hBw : Blk ((w9.setCell ⟨sb, 4, none⟩ (.int .i64 (sN bs X).1)).setCell ⟨g, 2, none⟩ (.bool true)) sb 92 #[.int .i64 (sI bs X).1, .int .i64 (sR bs X).1, .int .i64 (sC bs X).1, .string ⟨(sV bs X).1.toArray⟩, .int .i64 (sN bs X).1] := (hB9.set_ 4 _).far (p := ⟨g, 2, none⟩) hsg _
            have hkw : Keep wr.heap.size (fun k => k = g) wr ((w9.setCell ⟨sb, 4, none⟩ (.int .i64 (sN bs X).1)).setCell ⟨g, 2, none⟩ (.bool true)) := (hk29.new (g := sb) hs4 4 _).setCell (p := ⟨g, 2, none⟩) (Or.inr rfl) _
            have hMw : MRd ((w9.setCell ⟨sb, 4, none⟩ (.int .i64 (sN bs X).1)).setCell ⟨g, 2, none⟩ (.bool true)) g (· < n) bs ⟨(sN bs X).2.p, true⟩ := ⟨z1, z2, z3, A, c, hcap, (hb.far (p := ⟨sb, 4, none⟩) hsg.symm _).set_ 2 _, (hr.setCell (p := ⟨sb, 4, none⟩) (fun _ e => by have := hKr.size; simp at e; omega) _).setCell (fun _ e => z1 e) _⟩
            generalize (w9.setCell ⟨sb, 4, none⟩ (.int .i64 (sN bs X).1)).setCell ⟨g, 2, none⟩ (.bool true) = W at hBw hkw hMw ⊢
            have hp15 : (sP bs X).1 ≤ 15 := mCount_le bs 15 _
            have hMBw := hBr.keep hkw (Nat.le_refl _) h1
            have hss : (sP bs X).1 < X.ss.length := by rw [hBr.2]; omega
            obtain ⟨so, hold⟩ : ∃ so, X.ss[(sP bs X).1]? = some so := ⟨_, List.getElem?_eq_getElem hss⟩
            have m0 : W.cell? ⟨gm, 3 + (sP bs X).1 * 5, none⟩ = some (.int .i64 so.inc) := hMBw.cell hold (j := 0) (by omega)
            have m1 : W.cell? ⟨gm, 3 + (sP bs X).1 * 5 + 1, none⟩ = some (.int .i64 so.req) := hMBw.cell hold (j := 1) (by omega)
            have m2 : W.cell? ⟨gm, 3 + (sP bs X).1 * 5 + 2, none⟩ = some (.int .i64 so.code) := hMBw.cell hold (j := 2) (by omega)
            have m3 : W.cell? ⟨gm, 3 + (sP bs X).1 * 5 + 3, none⟩ = some (str so.val) := hMBw.cell hold (j := 3) (by omega)
            have m4 : W.cell? ⟨gm, 3 + (sP bs X).1 * 5 + 4, none⟩ = some (.int .i64 so.n) := hMBw.cell hold (j := 4) (by omega)
            have u0 := hMBw.1.frozen (3 + (sP bs X).1 * 5)
            have u1 := hMBw.1.frozen (3 + (sP bs X).1 * 5 + 1)
            have u2 := hMBw.1.frozen (3 + (sP bs X).1 * 5 + 2)
            have u3 := hMBw.1.frozen (3 + (sP bs X).1 * 5 + 3)
            have u4 := hMBw.1.frozen (3 + (sP bs X).1 * 5 + 4)
            have s0 : W.cell? ⟨sb, 0, none⟩ = some (.int .i64 (sI bs X).1) := hBw.cell 0
            have s1 : W.cell? ⟨sb, 1, none⟩ = some (.int .i64 (sR bs X).1) := hBw.cell 1
            have s2 : W.cell? ⟨sb, 2, none⟩ = some (.int .i64 (sC bs X).1) := hBw.cell 2
            have s3 : W.cell? ⟨sb, 3, none⟩ = some (.string ⟨(sV bs X).1.toArray⟩) := hBw.cell 3
            have s4 : W.cell? ⟨sb, 4, none⟩ = some (.int .i64 (sN bs X).1) := hBw.cell 4
            clear hold hss hBw
            go_region
            go_wp2
            refine ⟨⟨q + 1, by omega, by go_num, ?_, ?_⟩, by simp [intOf]; omega⟩
            · rw [hps.out]; rfl
            · rw [hps.out]
              unfold sStep
              rw [hBad.out]
              rw [Bool.or_true]
              exact SInv.fin (X := X) (sv := sSes bs X) h1 hgn (by omega) hMw hMBw hKr hkw
          · have t3 : (((sR bs X).1 : Int) == 0) = false := by simp; omega
            have QQ3 := Lib.hid q3
            clear q3
            by_cases q4 : (sC bs X).1 = 0
            · have hBad := Lib.hid (show sBad bs X = true by unfold sBad; rw [decide_eq_true q4]; simp)
              have t4 : (((sC bs X).1 : Int) == 0) = true := by rw [q4]; rfl
              clear q4
              go_wp2_with fail
              have hBw : Blk ((w9.setCell ⟨sb, 4, none⟩ (.int .i64 (sN bs X).1)).setCell ⟨g, 2, none⟩ (.bool true)) sb 92 #[.int .i64 (sI bs X).1, .int .i64 (sR bs X).1, .int .i64 (sC bs X).1, .string ⟨(sV bs X).1.toArray⟩, .int .i64 (sN bs X).1] := (hB9.set_ 4 _).far (p := ⟨g, 2, none⟩) hsg _
              have hkw : Keep wr.heap.size (fun k => k = g) wr ((w9.setCell ⟨sb, 4, none⟩ (.int .i64 (sN bs X).1)).setCell ⟨g, 2, none⟩ (.bool true)) := (hk29.new (g := sb) hs4 4 _).setCell (p := ⟨g, 2, none⟩) (Or.inr rfl) _
              have hMw : MRd ((w9.setCell ⟨sb, 4, none⟩ (.int .i64 (sN bs X).1)).setCell ⟨g, 2, none⟩ (.bool true)) g (· < n) bs ⟨(sN bs X).2.p, true⟩ := ⟨z1, z2, z3, A, c, hcap, (hb.far (p := ⟨sb, 4, none⟩) hsg.symm _).set_ 2 _, (hr.setCell (p := ⟨sb, 4, none⟩) (fun _ e => by have := hKr.size; simp at e; omega) _).setCell (fun _ e => z1 e) _⟩
              generalize (w9.setCell ⟨sb, 4, none⟩ (.int .i64 (sN bs X).1)).setCell ⟨g, 2, none⟩ (.bool true) = W at hBw hkw hMw ⊢
              have hp15 : (sP bs X).1 ≤ 15 := mCount_le bs 15 _
              have hMBw := hBr.keep hkw (Nat.le_refl _) h1
              have hss : (sP bs X).1 < X.ss.length := by rw [hBr.2]; omega
              obtain ⟨so, hold⟩ : ∃ so, X.ss[(sP bs X).1]? = some so := ⟨_, List.getElem?_eq_getElem hss⟩
              have m0 : W.cell? ⟨gm, 3 + (sP bs X).1 * 5, none⟩ = some (.int .i64 so.inc) := hMBw.cell hold (j := 0) (by omega)
              have m1 : W.cell? ⟨gm, 3 + (sP bs X).1 * 5 + 1, none⟩ = some (.int .i64 so.req) := hMBw.cell hold (j := 1) (by omega)
              have m2 : W.cell? ⟨gm, 3 + (sP bs X).1 * 5 + 2, none⟩ = some (.int .i64 so.code) := hMBw.cell hold (j := 2) (by omega)
              have m3 : W.cell? ⟨gm, 3 + (sP bs X).1 * 5 + 3, none⟩ = some (str so.val) := hMBw.cell hold (j := 3) (by omega)
              have m4 : W.cell? ⟨gm, 3 + (sP bs X).1 * 5 + 4, none⟩ = some (.int .i64 so.n) := hMBw.cell hold (j := 4) (by omega)
              have u0 := hMBw.1.frozen (3 + (sP bs X).1 * 5)
              have u1 := hMBw.1.frozen (3 + (sP bs X).1 * 5 + 1)
              have u2 := hMBw.1.frozen (3 + (sP bs X).1 * 5 + 2)
              have u3 := hMBw.1.frozen (3 + (sP bs X).1 * 5 + 3)
              have u4 := hMBw.1.frozen (3 + (sP bs X).1 * 5 + 4)
              have s0 : W.cell? ⟨sb, 0, none⟩ = some (.int .i64 (sI bs X).1) := hBw.cell 0
              have s1 : W.cell? ⟨sb, 1, none⟩ = some (.int .i64 (sR bs X).1) := hBw.cell 1
              have s2 : W.cell? ⟨sb, 2, none⟩ = some (.int .i64 (sC bs X).1) := hBw.cell 2
              have s3 : W.cell? ⟨sb, 3, none⟩ = some (.string ⟨(sV bs X).1.toArray⟩) := hBw.cell 3
              have s4 : W.cell? ⟨sb, 4, none⟩ = some (.int .i64 (sN bs X).1) := hBw.cell 4
              clear hold hss hBw
              go_region
              go_wp2
              refine ⟨⟨q + 1, by omega, by go_num, ?_, ?_⟩, by simp [intOf]; omega⟩
              · rw [hps.out]; rfl
              · rw [hps.out]
                unfold sStep
                rw [hBad.out]
                rw [Bool.or_true]
                exact SInv.fin (X := X) (sv := sSes bs X) h1 hgn (by omega) hMw hMBw hKr hkw
            · have t4 : (((sC bs X).1 : Int) == 0) = false := by simp; omega
              have QQ4 := Lib.hid q4
              clear q4
              by_cases q5 : (sC bs X).1 = 10
              · have hBad := Lib.hid (show sBad bs X = true by unfold sBad; rw [decide_eq_true q5]; simp)
                have t5 : (((sC bs X).1 : Int) == 10) = true := by rw [q5]; rfl
                clear q5
                go_wp2_with fail
                have hBw : Blk ((w9.setCell ⟨sb, 4, none⟩ (.int .i64 (sN bs X).1)).setCell ⟨g, 2, none⟩ (.bool true)) sb 92 #[.int .i64 (sI bs X).1, .int .i64 (sR bs X).1, .int .i64 (sC bs X).1, .string ⟨(sV bs X).1.toArray⟩, .int .i64 (sN bs X).1] := (hB9.set_ 4 _).far (p := ⟨g, 2, none⟩) hsg _
                have hkw : Keep wr.heap.size (fun k => k = g) wr ((w9.setCell ⟨sb, 4, none⟩ (.int .i64 (sN bs X).1)).setCell ⟨g, 2, none⟩ (.bool true)) := (hk29.new (g := sb) hs4 4 _).setCell (p := ⟨g, 2, none⟩) (Or.inr rfl) _
                have hMw : MRd ((w9.setCell ⟨sb, 4, none⟩ (.int .i64 (sN bs X).1)).setCell ⟨g, 2, none⟩ (.bool true)) g (· < n) bs ⟨(sN bs X).2.p, true⟩ := ⟨z1, z2, z3, A, c, hcap, (hb.far (p := ⟨sb, 4, none⟩) hsg.symm _).set_ 2 _, (hr.setCell (p := ⟨sb, 4, none⟩) (fun _ e => by have := hKr.size; simp at e; omega) _).setCell (fun _ e => z1 e) _⟩
                generalize (w9.setCell ⟨sb, 4, none⟩ (.int .i64 (sN bs X).1)).setCell ⟨g, 2, none⟩ (.bool true) = W at hBw hkw hMw ⊢
                have hp15 : (sP bs X).1 ≤ 15 := mCount_le bs 15 _
                have hMBw := hBr.keep hkw (Nat.le_refl _) h1
                have hss : (sP bs X).1 < X.ss.length := by rw [hBr.2]; omega
                obtain ⟨so, hold⟩ : ∃ so, X.ss[(sP bs X).1]? = some so := ⟨_, List.getElem?_eq_getElem hss⟩
                have m0 : W.cell? ⟨gm, 3 + (sP bs X).1 * 5, none⟩ = some (.int .i64 so.inc) := hMBw.cell hold (j := 0) (by omega)
                have m1 : W.cell? ⟨gm, 3 + (sP bs X).1 * 5 + 1, none⟩ = some (.int .i64 so.req) := hMBw.cell hold (j := 1) (by omega)
                have m2 : W.cell? ⟨gm, 3 + (sP bs X).1 * 5 + 2, none⟩ = some (.int .i64 so.code) := hMBw.cell hold (j := 2) (by omega)
                have m3 : W.cell? ⟨gm, 3 + (sP bs X).1 * 5 + 3, none⟩ = some (str so.val) := hMBw.cell hold (j := 3) (by omega)
                have m4 : W.cell? ⟨gm, 3 + (sP bs X).1 * 5 + 4, none⟩ = some (.int .i64 so.n) := hMBw.cell hold (j := 4) (by omega)
                have u0 := hMBw.1.frozen (3 + (sP bs X).1 * 5)
                have u1 := hMBw.1.frozen (3 + (sP bs X).1 * 5 + 1)
                have u2 := hMBw.1.frozen (3 + (sP bs X).1 * 5 + 2)
                have u3 := hMBw.1.frozen (3 + (sP bs X).1 * 5 + 3)
                have u4 := hMBw.1.frozen (3 + (sP bs X).1 * 5 + 4)
                have s0 : W.cell? ⟨sb, 0, none⟩ = some (.int .i64 (sI bs X).1) := hBw.cell 0
                have s1 : W.cell? ⟨sb, 1, none⟩ = some (.int .i64 (sR bs X).1) := hBw.cell 1
                have s2 : W.cell? ⟨sb, 2, none⟩ = some (.int .i64 (sC bs X).1) := hBw.cell 2
                have s3 : W.cell? ⟨sb, 3, none⟩ = some (.string ⟨(sV bs X).1.toArray⟩) := hBw.cell 3
                have s4 : W.cell? ⟨sb, 4, none⟩ = some (.int .i64 (sN bs X).1) := hBw.cell 4
                clear hold hss hBw
                go_region
                go_wp2
                refine ⟨⟨q + 1, by omega, by go_num, ?_, ?_⟩, by simp [intOf]; omega⟩
                · rw [hps.out]; rfl
                · rw [hps.out]
                  unfold sStep
                  rw [hBad.out]
                  rw [Bool.or_true]
                  exact SInv.fin (X := X) (sv := sSes bs X) h1 hgn (by omega) hMw hMBw hKr hkw
              · have t5 : (((sC bs X).1 : Int) == 10) = false := by simp; omega
                have QQ5 := Lib.hid q5
                clear q5
                have hBad := Lib.hid (show sBad bs X = false by unfold sBad; rw [decide_eq_false QQ1.out, decide_eq_false QQ2.out, decide_eq_false QQ3.out, decide_eq_false QQ4.out, decide_eq_false QQ5.out]; rfl)
                go_wp2_with fail
                have hBw : Blk (w9.setCell ⟨sb, 4, none⟩ (.int .i64 (sN bs X).1)) sb 92 #[.int .i64 (sI bs X).1, .int .i64 (sR bs X).1, .int .i64 (sC bs X).1, .string ⟨(sV bs X).1.toArray⟩, .int .i64 (sN bs X).1] := hB9.set_ 4 _
                have hkw : Keep wr.heap.size (fun k => k = g) wr (w9.setCell ⟨sb, 4, none⟩ (.int .i64 (sN bs X).1)) := hk29.new (g := sb) hs4 4 _
                have hMw : MRd (w9.setCell ⟨sb, 4, none⟩ (.int .i64 (sN bs X).1)) g (· < n) bs (sN bs X).2 := ⟨z1, z2, z3, A, c, hcap, hb.far (p := ⟨sb, 4, none⟩) hsg.symm _, hr.setCell (p := ⟨sb, 4, none⟩) (fun _ e => by have := hKr.size; simp at e; omega) _⟩
                generalize w9.setCell ⟨sb, 4, none⟩ (.int .i64 (sN bs X).1) = W at hBw hkw hMw ⊢
                have hp15 : (sP bs X).1 ≤ 15 := mCount_le bs 15 _
                have hMBw := hBr.keep hkw (Nat.le_refl _) h1
                have hss : (sP bs X).1 < X.ss.length := by rw [hBr.2]; omega
                obtain ⟨so, hold⟩ : ∃ so, X.ss[(sP bs X).1]? = some so := ⟨_, List.getElem?_eq_getElem hss⟩
                have m0 : W.cell? ⟨gm, 3 + (sP bs X).1 * 5, none⟩ = some (.int .i64 so.inc) := hMBw.cell hold (j := 0) (by omega)
                have m1 : W.cell? ⟨gm, 3 + (sP bs X).1 * 5 + 1, none⟩ = some (.int .i64 so.req) := hMBw.cell hold (j := 1) (by omega)
                have m2 : W.cell? ⟨gm, 3 + (sP bs X).1 * 5 + 2, none⟩ = some (.int .i64 so.code) := hMBw.cell hold (j := 2) (by omega)
                have m3 : W.cell? ⟨gm, 3 + (sP bs X).1 * 5 + 3, none⟩ = some (str so.val) := hMBw.cell hold (j := 3) (by omega)
                have m4 : W.cell? ⟨gm, 3 + (sP bs X).1 * 5 + 4, none⟩ = some (.int .i64 so.n) := hMBw.cell hold (j := 4) (by omega)
                have u0 := hMBw.1.frozen (3 + (sP bs X).1 * 5)
                have u1 := hMBw.1.frozen (3 + (sP bs X).1 * 5 + 1)
                have u2 := hMBw.1.frozen (3 + (sP bs X).1 * 5 + 2)
                have u3 := hMBw.1.frozen (3 + (sP bs X).1 * 5 + 3)
                have u4 := hMBw.1.frozen (3 + (sP bs X).1 * 5 + 4)
                have s0 : W.cell? ⟨sb, 0, none⟩ = some (.int .i64 (sI bs X).1) := hBw.cell 0
                have s1 : W.cell? ⟨sb, 1, none⟩ = some (.int .i64 (sR bs X).1) := hBw.cell 1
                have s2 : W.cell? ⟨sb, 2, none⟩ = some (.int .i64 (sC bs X).1) := hBw.cell 2
                have s3 : W.cell? ⟨sb, 3, none⟩ = some (.string ⟨(sV bs X).1.toArray⟩) := hBw.cell 3
                have s4 : W.cell? ⟨sb, 4, none⟩ = some (.int .i64 (sN bs X).1) := hBw.cell 4
                clear hold hss hBw
                go_region
                go_wp2
                refine ⟨⟨q + 1, by omega, by go_num, ?_, ?_⟩, by simp [intOf]; omega⟩
                · rw [hps.out]; rfl
                · rw [hps.out]
                  unfold sStep
                  rw [hBad.out]
                  rw [Bool.or_false]
                  exact SInv.fin (X := X) (sv := sSes bs X) h1 hgn (by omega) hMw hMBw hKr hkw
    · obtain rfl : q = N := by omega
      have hXss : (sIter bs q ⟨s1, -1, ss⟩).ss.length = 16 := by rw [sIter_len]; exact hB.2
      generalize hX : sIter bs q ⟨s1, -1, ss⟩ = X at *
      have HX := Lib.hid hX
      clear hX
      obtain ⟨hMr, hBr, hKr⟩ := hIr
      have hgr := hMr.lt
      have hgmr := hBr.1.lt
      have hmc := hBr.c1
      have hLr := hL.keep hKr (Nat.le_refl _) (fun k hk e => by have := hf k hk; omega)
      have hblf := hf bl (Or.inl rfl)
      have hEk := hLr.1.keys
      have HLK := Lib.hid hLr
      have hblr : bl < wr.heap.size := hLr.1.lt
      clear hLr
      go_wp2_with (at_range; refine wpList_rng rfl (.tmp 71) _ rfl Tryd.underlying88 rfl HLK.out.1 ?_; intro v1 hrg hsz1 hbw)
      have hkv : Keep wr.heap.size (fun _ => False) wr v1 := Keep.of_below hbw
      have hI2 : RInv w wr gm g bp bl n tok bs E X v1 E false := by
        refine ⟨hrg, fun _ h => h, ?_, hBr.keep hkv (Nat.le_refl _) (fun h => h), (hkv.mono (Nat.le_refl _) (fun _ _ h => h.elim)), ?_, ?_⟩
        · rw [Bool.or_false]; exact hMr.keepT hkv (Nat.le_refl _) (fun h => h) (fun _ _ h => h)
        · intro h; cases h
        · intro p hp hn; exact absurd hp hn
      clear hrg hbw hkv hsz1 hMr
      obtain ⟨wo, rfl⟩ : ∃ wo : World, wo = wr := ⟨_, rfl⟩
      go_frame
      go_loopg [] E.length (fun k wv => ∃ left B, left.length ≤ k ∧ RInv w wo gm g bp bl n tok bs E X wv left B)
      case atStart => exact ⟨E, false, Nat.le_refl _, hI2⟩
      case round =>
        obtain ⟨left, B, hle, hR⟩ := hrel
        have hwo2 := hR.kp.size
        have hrr := hR.rg.lt
        cases left with
        | nil =>
          go_wp2_with (at_next; refine wpList_nxt rfl (.tmp 72) rfl rfl hR.rg (by omega) hEk (fun _ => ?_) (fun p _ _ hp => by cases hp))
          go_end0
          have hB' : B = lacksL X.ss (plainL E) := by
            cases hb : lacksL X.ss (plainL E) with
            | true =>
              unfold lacksL plainL at hb
              rw [List.any_map, List.any_eq_true] at hb
              obtain ⟨p, hp, hlp⟩ := hb
              exact hR.all p hp (by simp) hlp
            | false =>
              cases hB2 : B with
              | false => rfl
              | true => rw [← hb]; exact (hR.yes hB2).symm
          rw [hB'] at hR
          refine ⟨rfl, ?_, ?_, hKr.and hR.kp hKr.size (fun k _ h => Or.inl h)⟩
          · rw [HX.out]; exact hR.rd
          · rw [HX.out]; exact hR.mb
        | cons l0 ls =>
          go_wp2_with (at_next; refine wpList_nxt rfl (.tmp 72) rfl rfl hR.rg (by omega) hEk (fun h => by cases h) ?_; intro p v2 left' hp hrg2 hlt2 hsub2 hcov2 hent hg2; have hent' : (Instr.entry (.pointer (some ⟨wo.heap.size, 0, none⟩))).run Tryd.prog v2 = .ok (.tuple #[str p.1, .pointer (some ⟨p.2.hb, 0, none⟩)]) v2 := hent; clear hent)
          have hkg2 := Keep.of_grown hg2
          have hM2 := hR.rd.keepT hkg2 (Nat.le_refl _) (by omega) (by omega)
          have hmb2 := hR.mb.keep hkg2 (Nat.le_refl _) (by omega)
          have hkp2 := hR.kp.and hkg2 hwo2 (fun k hk e => by omega)
          have hpE := hR.sub p hp
          have hHd := (HLK.out.2.1 p hpE).keep hkp2 (Nat.le_refl _) (hf _ (Or.inr ⟨p, hpE, Or.inl rfl⟩)).1 (fun k e => (hf _ (Or.inr ⟨p, hpE, Or.inr e⟩)).1)
          have hpok := hok p hpE
          have hall := hR.all
          have hyes := hR.yes
          have hsub := hR.sub
          clear hR hkg2 hg2 hent'
          obtain ⟨nm, hb, v, ⟨ho, tk, que⟩⟩ := p
          obtain ⟨hBh, hQ⟩ := hHd
          simp only [] at hBh hQ
          obtain ⟨A, cq, rfl, hlc, hcm, hrd⟩ := hQ.rd
          obtain ⟨hho, hque, hql⟩ := hpok
          simp only [] at hho hque hql
          have e0 : v2.cell? ⟨hb, 0, none⟩ = some (.int .i64 ho) := hBh.cell 0
          have e2 : v2.cell? ⟨hb, 2, none⟩ = some (.slice A que.length cq) := hBh.cell 2
          have hv2s : wo.heap.size ≤ v2.heap.size := hkp2.size
          have HC2 := Lib.hid hcov2
          have HP2 := Lib.hid hp
          have HSB := Lib.hid hsub2
          clear hcov2 hp hsub2
          go_region_held3 (fun w' => w'.cell? ⟨hb, 0, none⟩ = some (.int .i64 ho) ∧ w'.cell? ⟨hb, 2, none⟩ = some (.slice A que.length cq))
            (first | exact ⟨e0, e2⟩ | exact ⟨cell_alloc (by assumption) _, cell_alloc (by assumption) _⟩ | exact ⟨by assumption, by assumption⟩)
            (first
              | (refine step_append_q (by rfl) (.tmp 81) (.tmp 85) (by rfl) v2.heap.size (.slice (some ⟨v2.heap.size, 0, none⟩) 1 1) 1 [.int .i64 ho] (by rfl) ((own_new v2 v2.heap.size (Nat.le_refl _) ho).drew) _ A que.length cq que (by rfl) ((hrd.alloc _).drew) (by omega) (by simp) ?_
                 intro v' v3 hown3 hg3
                 obtain ⟨g', cap', rfl, hgb, hgl3⟩ := hown3.form (by omega)
                 have hkg3 := Keep.of_row hg3
                 have j0 := (hkg3.cell (p := ⟨hb, 0, none⟩) (by have := hBh.lt; simp; omega) (by have := hBh.lt; simp [Value.ownBlock]; omega)).trans (cell_alloc e0 (.cells #[.int .i64 ho] 3))
                 have j2 := (hkg3.cell (p := ⟨hb, 2, none⟩) (by have := hBh.lt; simp; omega) (by have := hBh.lt; simp [Value.ownBlock]; omega)).trans (cell_alloc e2 (.cells #[.int .i64 ho] 3))))
          have hkr3 : Keep v2.heap.size (fun _ => False) v2 v3 := (((Keep.refl v2.heap.size (fun _ => False) v2).alloc (Nat.le_refl _) (.cells #[.int .i64 ho] 3)).drew).and hkg3 (by simp) (fun k hk e => by simp [Value.ownBlock] at e; omega)
          have hM3 := hM2.keepT hkr3 (Nat.le_refl _) (fun h => h) (fun _ _ h => h)
          have hmb3 := hmb2.keep hkr3 (Nat.le_refl _) (fun h => h)
          have hrg3 := hrg2.keep hkr3 ⟨hrg2.lt.1, fun h => h⟩ ⟨hrg2.lt.2, fun h => h⟩
          have hkp3 := hkp2.and hkr3 hv2s (fun _ _ h => h.elim)
          have hv3s : wo.heap.size ≤ v3.heap.size := hkp3.size
          have hcl := hown3.cells (g := g') rfl
          clear hkg3 j0 j2 hg3 hM2 hmb2 hrg2 hkp2 hBh hQ hrd e0 e2 hkr3
          have hLL : [Value.int .i64 ho] ++ ints que = ints (ho :: que) := rfl
          rw [hLL] at hcl
          clear hLL hown3
          have hlen : (ho :: que).length = 1 + que.length := by simp; omega
          have hall15 : ∀ x ∈ ho :: que, (0 : Int) ≤ x ∧ x ≤ 15 := fun x hx => by
            rcases List.mem_cons.1 hx with rfl | hx
            · exact hho
            · exact hque x hx
          have hlk : Hid (lacks X.ss (ho :: que) = true → lacksL X.ss (plainL E) = true) := fun h => by
            unfold lacksL plainL
            rw [List.any_map, List.any_eq_true]
            exact ⟨_, hpE, h⟩
          have HALL := Lib.hid hall
          have HYES := Lib.hid hyes
          have HSUB := Lib.hid hsub
          clear hall hyes hsub hho hque
          generalize hl0 : ho :: que = l at *
          have HL0 := Lib.hid hl0
          clear hl0
          go_wp2_with fail
          obtain ⟨va, rfl⟩ : ∃ va : World, va = wr := ⟨_, rfl⟩
          go_loopw [88] (fun i wv => ∃ j : Nat, j ≤ l.length ∧ i = .int .i64 j ∧ MRd wv g (· < n) bs ⟨X.st.p, X.st.bad || (B || lacks X.ss (l.take j))⟩ ∧ Keep v3.heap.size (fun k => k = g) v3 wv) (fun i _ => l.length - (intOf i).toNat)
          case atStart => exact ⟨0, by omega, rfl, by simpa [lacks] using hM3, Keep.refl _ _ _⟩
          case round =>
            obtain ⟨j, hj, rfl, hMj, hKj⟩ := hrel
            by_cases hlj : j < l.length
            · have hgj := hMj.lt
              obtain ⟨x, hx⟩ : ∃ x : Nat, l[j] = (x : Int) := ⟨(l[j]).toNat, by have := hall15 _ (List.getElem_mem hlj); omega⟩
              have hx15 : x ≤ 15 := by have := hall15 _ (List.getElem_mem hlj); omega
              have ce : wr.cell? ((⟨g', 0, none⟩ : Addr).add j) = some (.int .i64 x) := (hKj.cell (by rw [block_add]; simp; omega) (by rw [block_add]; simp; omega)).trans (hcl j _ (by unfold ints; rw [List.getElem?_map, List.getElem?_eq_getElem hlj, hx]; rfl))
              obtain ⟨so, hso⟩ : ∃ so, X.ss[x]? = some so := ⟨_, List.getElem?_eq_getElem (by rw [hXss]; omega)⟩
              have hmj := hmb3.keep hKj (Nat.le_refl _) (by omega)
              have cm : wr.cell? ⟨gm, 3 + x * 5, none⟩ = some (.int .i64 so.inc) := hmj.cell hso (j := 0) (by omega)
              have hnext : lacks X.ss (l.take (j + 1)) = (lacks X.ss (l.take j) || decide (so.inc = 0)) := by
                rw [lacks_succ _ _ _ hlj, hx]
                simp [List.getD, hso]
              have HNX := Lib.hid hnext
              have hadd : (⟨g', 0, none⟩ : Addr).add j = ⟨g', j, none⟩ := by unfold Addr.add; split <;> simp_all
              rw [hadd] at ce
              clear hnext hso hmj hadd hx
              obtain ⟨z1, z2, z3, A3, c3, hcap3, hb3, hr3⟩ := hMj
              have r2 : wr.cell? ⟨g, 2, none⟩ = some (.bool (X.st.bad || (B || lacks X.ss (l.take j)))) := hb3.cell 2
              have fr2 := hb3.frozen 2
              by_cases hz : so.inc = 0
              · have hz1 : (so.inc == 0) = true := by rw [hz]; rfl
                have HZ := Lib.hid hz
                clear hz
                go_wp2
                refine ⟨⟨j + 1, by omega, by go_num, ⟨z1, z2, z3, A3, c3, hcap3, ?_, hr3.setCell (fun _ e => z1 e) _⟩, hKj.own 2 _⟩, by simp [intOf]; omega⟩
                have hbb : (X.st.bad || (B || lacks X.ss (l.take (j + 1)))) = true := by rw [HNX.out, decide_eq_true HZ.out]; simp
                rw [hbb]
                exact hb3.set_ 2 _
              · have hz1 : (so.inc == 0) = false := by simpa using hz
                have HZ := Lib.hid hz
                clear hz
                go_wp2
                refine ⟨⟨j + 1, by omega, by go_num, ⟨z1, z2, z3, A3, c3, hcap3, ?_, hr3⟩, hKj⟩, by simp [intOf]; omega⟩
                rw [HNX.out, decide_eq_false HZ.out, Bool.or_false]
                exact hb3
            · obtain rfl : j = l.length := by omega
              rw [List.take_length] at hMj
              go_wp2
              go_roundg left'.length
              case measure => omega
              case rel => exact ⟨left', B || lacks X.ss l, Nat.le_refl _, RInv.fin hkp3 hv3s HC2.out HALL.out HYES.out HSUB.out HSB.out hlk HL0.out hMj hKj hrg3 hmb3 hblf h1 hgr⟩
end Go.Proofs.YtjdageiphebfpaaDoor
