/- The walk of readLocks. -/
import Derived.Test.YtjdageiphebfpaaDoorMLockWords
import Derived.Deep.RegionHeld3
import Derived.Deep.AppendLies
namespace Go.Proofs.YtjdageiphebfpaaDoor
open Go.RowKit
open Pl Mem

theorem MRd.drew {w : World} {g : Nat} {T : Nat → Prop} {bs : Bytes} {s : St} (h : MRd w g T bs s) : MRd w.drew g T bs s := h
theorem cell_alloc {w : World} {a : Addr} {v : Value} (h : w.cell? a = some v) (o : Obj) : (w.alloc o).cell? a = some v := (World.cell?_alloc_lt w o a (World.block_lt_of_cell? w a h)).trans h
theorem int_info : (Tryd.prog.info? 3).map (fun i => (i.zero, i.size, i.bytes)) = some (some (.int .i64 0), 1, 8) := by kernel_rfl

/-- What holds at the head of each round of the locks' loop. -/
structure LInv (w0 : World) (gm g bl n tok : Nat) (bs : Bytes) (wr : World) (X : LSt) : Prop where
  rd : MRd wr g (· < n) bs X.st
  tal : Tally wr w0.heap.size X.toks
  lks : ∃ E, Locks wr bl E ∧ plainL E = X.L ∧ ∀ k, footL bl E k → k = bl ∨ w0.heap.size < k
  c1 : wr.cell? ⟨gm, 1, none⟩ = some (.map (some bl))
  c2 : wr.cell? ⟨gm, 2, none⟩ = some (.int .i64 tok)
  kp : Keep w0.heap.size (fun k => k = g ∨ k = bl) w0 wr

/-- The end of a round: the lock is laid into the map. -/
theorem LInv.fin {w0 W w9 : World} {gm g bl n tok : Nat} {bs : Bytes} {st : St} {toks : List Int} {E : List (Bytes × LkH)} {nm : Bytes} {x : LkH} (h2 : gm ≠ bl) (h3 : g ≠ bl) (hbl : n ≤ bl) (hbl0 : bl < w0.heap.size) (hgm : gm < w0.heap.size)
    (hM : MRd W g (· < n) bs st) (hT : Tally W w0.heap.size toks) (hL : Locks W bl E) (hfoot : ∀ k, footL bl E k → k = bl ∨ w0.heap.size < k) (hx : HeldIs W x) (hx1 : w0.heap.size < x.hb) (hx2 : ∀ k, x.v.ownBlock = some k → w0.heap.size < k)
    (hap : ∀ p ∈ E, apartL p.2 x) (c1 : W.cell? ⟨gm, 1, none⟩ = some (.map (some bl))) (c2 : W.cell? ⟨gm, 2, none⟩ = some (.int .i64 tok)) (kp : Keep w0.heap.size (fun k => k = g ∨ k = bl) w0 W)
    (hP : MapIs kS evL w9 bl (aput E nm x)) (hg : W.grownBy w9 (some bl)) : LInv w0 gm g bl n tok bs w9 ⟨st, nm, toks, aput (plainL E) nm x.lk⟩ := by
  have hk := Keep.of_grown hg
  have hfoot' : ∀ p ∈ E, p.2.hb ≠ bl ∧ p.2.v.ownBlock ≠ some bl := by
    intro p hp
    have hmap := hL.1
    refine ⟨fun e => ?_, fun e => ?_⟩
    · exact hmap.ne_blk (e ▸ (hL.2.1 p hp).1) rfl
    · rcases (hL.2.1 p hp).2 with ⟨h, _⟩ | ⟨g', off, cap, cur, hv, hgg, _⟩
      · rw [h] at e; cases e
      · rw [hv] at e
        simp [Value.ownBlock] at e
        subst e
        exact hmap.ne_blk (g := g') hgg rfl
  refine ⟨hM.keepT hk (Nat.le_refl _) h3 (by omega), hT.keep hk hT.lt (by omega), ⟨aput E nm x, hL.put hP hk (hx.keep hk (Nat.le_refl _) (by omega) (fun k e he => by have := hx2 k e; omega)) hfoot' hap, plainL_put E nm x, ?_⟩, ?_, ?_, kp.and hk kp.size (fun k _ h => Or.inr h)⟩
  · intro k hk2
    rcases hk2 with hk2 | ⟨p, hp, hk2⟩
    · exact Or.inl hk2
    · rcases aput_mem hp with rfl | ⟨hp, _⟩
      · rcases hk2 with rfl | hk2
        · exact Or.inr hx1
        · exact Or.inr (hx2 k hk2)
      · exact hfoot k (Or.inr ⟨p, hp, hk2⟩)
  · exact (hk.cell (p := ⟨gm, 1, none⟩) (Nat.lt_of_lt_of_le hgm kp.size) h2).trans c1
  · exact (hk.cell (p := ⟨gm, 2, none⟩) (Nat.lt_of_lt_of_le hgm kp.size) h2).trans c2

/-- What holds at the head of each round of a queue's loop. -/
structure QInv (wi : World) (hh mb g n : Nat) (bs : Bytes) (h t : Int) (wr : World) (X : QSt) : Prop where
  rd : MRd wr g (· < n) bs X.st
  there : Tally wr mb ([h] ++ X.q)
  held : ∃ v, Blk wr hh 117 #[.int .i64 h, .int .i64 t, v] ∧ wr.ownsRow wi.heap.size 3 1 v X.q.length (ints X.q)
  kp : Keep wi.heap.size (fun k => k = g ∨ k = hh ∨ k = mb) wi wr

set_option maxRecDepth 100000 in
set_option maxHeartbeats 2000000 in
theorem creadLocks (gm g bl n tok : Nat) (bs : Bytes) (s : St) (w : World) (htok : tok ≤ 99999999) (hm1 : w.cell? ⟨gm, 1, none⟩ = some (.map (some bl))) (hm2 : w.cell? ⟨gm, 2, none⟩ = some (.int .i64 tok)) (hgm : gm < w.heap.size)
    (h1 : gm ≠ g) (h2 : gm ≠ bl) (h3 : g ≠ bl) (hbl : n ≤ bl) (hM : MRd w g (· < n) bs s) (hP : MapIs kS evL w bl []) :
    Calls Tryd.prog 37 #[.pointer (some ⟨gm, 0, none⟩), .pointer (some ⟨g, 0, none⟩)] w fun e w' =>
      e = .returned (.tuple #[]) ∧ MRd w' g (· < n) bs (lRun bs tok s).st ∧ (∃ E, Locks w' bl E ∧ plainL E = (lRun bs tok s).L ∧ ∀ k, footL bl E k → k = bl ∨ w.heap.size ≤ k) ∧ Keep w.heap.size (fun k => k = g ∨ k = bl) w w' := by
  have HC := Lib.hid fun W h => mcount g (· < n) bs s 8 W h (by omega) (by omega)
  have hN := mCount_le bs 8 s
  unfold lRun
  rw [show (8 : Int).toNat = 8 from rfl] at HC
  generalize mCount bs 8 s = r at HC hN ⊢
  obtain ⟨N, s1⟩ := r
  simp only [] at hN ⊢
  go_enter Tryd.func37, Tryd.ntmps37
  have hmm := @run_makeMap Tryd.prog
  go_wp2_with fail
  refine (HC.out _ (hM.keepT (S := fun _ => False) ((Keep.refl _ _ _).alloc (Nat.le_refl _) _) (Nat.le_refl _) (fun h => h) (fun _ _ h => h))).mono ?_
  rintro e w1 ⟨rfl, hM1, hk1⟩
  have hK1 : Keep w.heap.size (fun k => k = g ∨ k = bl) w w1 := ((Keep.refl _ _ _).alloc (Nat.le_refl _) _).trans (hk1.mono (by simp) (fun k _ h => Or.inl h))
  have hgl := hM.lt
  have hbll := hP.lt
  have hI : LInv w gm g bl n tok bs w1 ⟨s1, [], [], []⟩ := by
    refine ⟨hM1, Tally.nil ((MapIs.new kI iV w).keep hk1 (by simp) (by omega)), ⟨[], ⟨?_, (fun p hp => by cases hp), List.Pairwise.nil⟩, rfl, fun k hk => ?_⟩, ?_, ?_, hK1⟩
    · exact (hP.alloc _).keep hk1 (by simp; omega) (fun e => h3 e.symm)
    · rcases hk with hk | ⟨p, hp, _⟩
      · exact Or.inl hk
      · cases hp
    · exact (hk1.cell (p := ⟨gm, 1, none⟩) (by simp; omega) h1).trans ((World.cell?_alloc_lt w _ ⟨gm, 1, none⟩ hgm).trans hm1)
    · exact (hk1.cell (p := ⟨gm, 2, none⟩) (by simp; omega) h1).trans ((World.cell?_alloc_lt w _ ⟨gm, 2, none⟩ hgm).trans hm2)
  clear hM1 hk1 hK1 HC
  go_wp2_with fail
  go_loopw [4, 13] (fun x i wr => ∃ q : Nat, q ≤ N ∧ i = .int .i64 q ∧ x = str (lIter bs tok q ⟨s1, [], [], []⟩).last ∧ LInv w gm g bl n tok bs wr (lIter bs tok q ⟨s1, [], [], []⟩)) (fun _ i _ => N - (intOf i).toNat)
  case atStart => exact ⟨0, by omega, rfl, rfl, hI⟩
  case round =>
    obtain ⟨q, hq, rfl, rfl, hIr⟩ := hrel
    clear hI
    by_cases hl : q < N
    · have hps : Hid (lIter bs tok (q + 1) ⟨s1, [], [], []⟩ = lStep bs tok (lIter bs tok q ⟨s1, [], [], []⟩)) := rfl
      have htl : (lIter bs tok q ⟨s1, [], [], []⟩).toks.length = q := by rw [lIter_toks]; simp
      generalize lIter bs tok q ⟨s1, [], [], []⟩ = X at *
      have H1 := Lib.hid fun W h => (show Calls Tryd.prog 45 #[.pointer (some ⟨g, 0, none⟩), .int .i64 8] W fun e w' => e = .returned (str (lName bs X).1) ∧ MRd w' g (· < n) bs (lName bs X).2 ∧ Keep W.heap.size (· = g) W w' from mtext g (· < n) bs X.st 8 W h (by omega) (by omega))
      have H2 := Lib.hid fun W h => (show Calls Tryd.prog 35 #[.pointer (some ⟨g, 0, none⟩), .int .i64 15] W fun e w' => e = .returned (.int .i64 (lHold bs X).1) ∧ MRd w' g (· < n) bs (lHold bs X).2 ∧ Keep W.heap.size (· = g) W w' from mcount g (· < n) bs (lName bs X).2 15 W h (by omega) (by omega))
      have H3 := Lib.hid fun W h => (show Calls Tryd.prog 35 #[.pointer (some ⟨g, 0, none⟩), .int .i64 tok] W fun e w' => e = .returned (.int .i64 (lTok bs tok X).1) ∧ MRd w' g (· < n) bs (lTok bs tok X).2 ∧ Keep W.heap.size (· = g) W w' from mcount g (· < n) bs (lHold bs X).2 tok W h (by omega) (by omega))
      have H4 := Lib.hid fun W h => (show Calls Tryd.prog 35 #[.pointer (some ⟨g, 0, none⟩), .int .i64 15] W fun e w' => e = .returned (.int .i64 (lCnt bs tok X).1) ∧ MRd w' g (· < n) bs (lCnt bs tok X).2 ∧ Keep W.heap.size (· = g) W w' from mcount g (· < n) bs (lTok bs tok X).2 15 W h (by omega) (by omega))
      obtain ⟨hMr, hTr, ⟨E, hLr, hEX, hfoot⟩, hcr1, hcr2, hKr⟩ := hIr
      have hgr := hMr.lt
      have hgmr := Nat.lt_of_lt_of_le hgm hKr.size
      go_wp2_with fail
      refine (H1.out _ hMr).mono ?_
      rintro e w2 ⟨rfl, hM2, hk2⟩
      have hk2' : Keep wr.heap.size (fun k => k = g) wr w2 := hk2
      have hc2 := (hk2.cell (p := ⟨gm, 2, none⟩) hgmr h1).trans hcr2
      clear hMr H1
      go_wp2_with fail
      have hs2 : Hid (wr.heap.size ≤ w2.heap.size) := hk2.size
      go_region_held3 (fun w' => w'.cell? ⟨gm, 2, none⟩ = some (.int .i64 tok)) (first | exact hc2 | assumption | exact cell_alloc (by assumption) _)
        (first
          | (go_at_call 35; (with_reducible refine (H2.out _ ?_).mono ?_); exact hM2; rintro e w3 ⟨rfl, hM3, hk3⟩; have hc3 := (hk3.cell (p := ⟨gm, 2, none⟩) (Nat.lt_of_lt_of_le hgmr hs2.out) h1).trans hc2)
          | (go_at_call 35; (with_reducible refine (H3.out _ ?_).mono ?_); exact hM3; rintro e w4 ⟨rfl, hM4, hk4⟩; have hc4 := (hk4.cell (p := ⟨gm, 2, none⟩) (Nat.lt_of_lt_of_le (Nat.lt_of_lt_of_le hgmr hs2.out) hk3.size) h1).trans hc3))
      have hk25 := ((hk2.drew.and hk3 hk2'.size (fun _ _ h => h)).and hk4 (Nat.le_trans hk2'.size hk3.size) (fun _ _ h => h)).alloc (Nat.le_trans (Nat.le_trans hk2'.size hk3.size) hk4.size) (.cells #[.int .i64 (lHold bs X).1, .int .i64 (lTok bs tok X).1, .slice none 0 0] 117)
      have hh5 : wr.heap.size ≤ w4.heap.size := Nat.le_trans (Nat.le_trans hk2'.size hk3.size) hk4.size
      have hM5 : MRd (w4.alloc (.cells #[.int .i64 (lHold bs X).1, .int .i64 (lTok bs tok X).1, .slice none 0 0] 117)) g (· < n) bs (lTok bs tok X).2 := hM4.keepT (S := fun _ => False) ((Keep.refl _ _ _).alloc (Nat.le_refl _) _) (Nat.le_refl _) (fun h => h) (fun _ _ h => h)
      have hB5 := Blk.new w4 117 #[.int .i64 (lHold bs X).1, .int .i64 (lTok bs tok X).1, .slice none 0 0]
      have hs5 : (w4.alloc (.cells #[.int .i64 (lHold bs X).1, .int .i64 (lTok bs tok X).1, .slice none 0 0] 117)).heap.size = w4.heap.size + 1 := by simp
      clear hM2 hk2 hk2' hc2 hs2 hM3 hk3 hc3 hM4 hk4 hc4 H2 H3
      generalize w4.alloc (.cells #[.int .i64 (lHold bs X).1, .int .i64 (lTok bs tok X).1, .slice none 0 0] 117) = w5 at hk25 hM5 hB5 hs5 ⊢
      generalize w4.heap.size = hh at hh5 hB5 hs5 ⊢
      have hT5 := hTr.keep hk25 hTr.lt (by have := hKr.size; omega)
      have d0 : w5.cell? ⟨hh, 0, none⟩ = some (.int .i64 (lHold bs X).1) := hB5.cell 0
      have d1 : w5.cell? ⟨hh, 1, none⟩ = some (.int .i64 (lTok bs tok X).1) := hB5.cell 1
      obtain ⟨ct, hct⟩ : ∃ ct, X.toks.count ((lTok bs tok X).1 : Int) = ct := ⟨_, rfl⟩
      have hcnt : ct ≤ 8 := by have := List.count_le_length (a := ((lTok bs tok X).1 : Int)) (l := X.toks); omega
      have HCT := Lib.hid hct
      clear hct
      go_wp2_with (first
        | (at_lookup; refine wpList_tally rfl (.tmp 27) (.tmp 31) rfl rfl hT5 (lTok bs tok X).1 rfl ct HCT.out ?_)
        | (at_mapUpdate; refine wpList_tput rfl (.tmp 27) (.tmp 31) (.tmp 33) (Or.inl rfl) rfl hT5 (lTok bs tok X).1 _ rfl rfl ct HCT.out rfl ?_; intro w6 hT6 hg6
           have hk6 := Keep.of_grown hg6
           have htb := hTr.lt
           have hB6 := hB5.keep hk6 hB5.lt (by omega)
           have hM6 := hM5.keepT hk6 (Nat.le_refl _) (by omega) (by omega)
           have e0 := fun o => (World.cell?_alloc_lt w6 o ⟨hh, 0, none⟩ hB6.lt).trans (hB6.cell 0)
           simp only [List.getElem?_toArray, List.getElem?_cons_zero] at e0)
        | (refine wpList_tput rfl (.tmp 34) (.tmp 38) (.const (.int .i64 1)) (Or.inr rfl) rfl (Tally.nil (MapIs.new kI iV w6)) (lHold bs X).1 1 rfl rfl 0 (by simp) (by simp) ?_; intro w7 hT7 hg7))
      have hk7 := Keep.of_grown hg7
      have hM7 : MRd w7 g (· < n) bs (lTok bs tok X).2 := (hM6.keepT (S := fun _ => False) ((Keep.refl _ _ _).alloc (Nat.le_refl _) _) (Nat.le_refl _) (fun h => h) (fun _ _ h => h)).keepT hk7 (Nat.le_refl _) (by have := hM6.lt; omega) (by have := hM6.lt; have := hk6.size; have := hKr.size; omega)
      have hB7 := (hB6.alloc (.map #[] 0)).keep hk7 (by have := hB6.lt; simp; omega) (by have := hB6.lt; omega)
      have hT6' := (hT6.keep (S := fun _ => False) ((Keep.refl _ _ _).alloc (Nat.le_refl _) (.map #[] 0)) hT6.lt (fun h => h)).keep hk7 (by have := hT6.lt; simp; omega) (by have := hT6.lt; omega)
      have hk27 : Keep wr.heap.size (fun k => k = g ∨ k = w.heap.size) wr w7 :=
        (((hk25.mono (Nat.le_refl _) (fun _ _ h => Or.inl h)).and hk6 (by omega) (fun _ _ h => Or.inr h)).alloc (by have := hk6.size; omega) (.map #[] 0)).and hk7 (by have := hk6.size; simp; omega) (fun k hk e => by have := hk6.size; omega)
      have hmb : hh < w6.heap.size := hB6.lt
      have hs7 : w6.heap.size < w7.heap.size := hT7.lt
      have hgne : g ≠ w.heap.size := by omega
      clear hM5 hB5 hT5 hk25 hg6 hk6 hB6 hM6 e0 hg7 hk7 hT6 d0 d1
      generalize w6.heap.size = mb at hT7 hmb hs7
      refine (H4.out _ hM7).mono ?_
      rintro e w8 ⟨rfl, hM8, hk8⟩
      have hB8 := hB7.keep hk8 hB7.lt (by omega)
      have hT8 := hT7.keep hk8 hT7.lt (by omega)
      have hTT := hT6'.keep hk8 hT6'.lt (by omega)
      have hk28 := hk27.and hk8 hk27.size (fun _ _ h => Or.inl h)
      have hs8 : mb < w8.heap.size := Nat.lt_of_lt_of_le hs7 hk8.size
      clear hM7 hB7 hT7 hT6' hk27 hk8 hs7 H4
      obtain ⟨wo, hwo⟩ : ∃ wo : World, wo = wr := ⟨_, rfl⟩
      rw [← hwo] at *
      clear hwo
      have hJ : QInv w8 hh mb g n bs (lHold bs X).1 (lTok bs tok X).1 w8 ⟨(lCnt bs tok X).2, []⟩ := ⟨hM8, by simpa using hT8, ⟨_, hB8, World.ownsRow_nil _ _ _ _⟩, Keep.refl _ _ _⟩
      clear hM8 hB8 hT8
      have hC15 : (lCnt bs tok X).1 ≤ 15 := mCount_le bs 15 _
      go_wp2_with fail
      go_loopw [42] (fun i wr => ∃ j : Nat, j ≤ (lCnt bs tok X).1 ∧ i = .int .i64 j ∧ QInv w8 hh mb g n bs (lHold bs X).1 (lTok bs tok X).1 wr (qIter bs (lHold bs X).1 j ⟨(lCnt bs tok X).2, []⟩)) (fun i _ => (lCnt bs tok X).1 - (intOf i).toNat)
      case atStart => exact ⟨0, by omega, rfl, hJ⟩
      case round =>
        obtain ⟨j, hj, rfl, hJr⟩ := hrel
        clear hJ
        by_cases hl2 : j < (lCnt bs tok X).1
        · have hps2 : Hid (qIter bs (lHold bs X).1 (j + 1) ⟨(lCnt bs tok X).2, []⟩ = qStep bs (lHold bs X).1 (qIter bs (lHold bs X).1 j ⟨(lCnt bs tok X).2, []⟩)) := rfl
          have hql : (qIter bs (lHold bs X).1 j ⟨(lCnt bs tok X).2, []⟩).q.length = j := by rw [qIter_len]; simp
          generalize qIter bs (lHold bs X).1 j ⟨(lCnt bs tok X).2, []⟩ = Y at *
          have H5 := Lib.hid fun W h => mcount g (· < n) bs Y.st 15 W h (by omega) (by omega)
          unfold qStep at hps2
          rw [show (15 : Int).toNat = 15 from rfl] at H5
          generalize mCount bs 15 Y.st = P at *
          obtain ⟨hMj, hTj, ⟨v, hBj, hoj⟩, hKj⟩ := hJr
          obtain ⟨c1, hc1⟩ : ∃ c1, ([((lHold bs X).1 : Int)] ++ Y.q).count (P.1 : Int) = c1 := ⟨_, rfl⟩
          have hc1b : c1 ≤ 16 := by have := List.count_le_length (a := (P.1 : Int)) (l := [((lHold bs X).1 : Int)] ++ Y.q); simp only [List.length_append, List.length_singleton] at this; omega
          have hc2 : ([((lHold bs X).1 : Int)] ++ Y.q ++ [(P.1 : Int)]).count (P.1 : Int) = c1 + 1 := by rw [List.count_append, hc1]; simp
          have hmem : (((P.1 : Int)) ∈ ((lHold bs X).1 : Int) :: Y.q) ↔ 0 < c1 := by rw [← hc1, List.count_pos_iff]; simp
          have HC1 := Lib.hid hc1
          have HC2 := Lib.hid hc2
          have HME := Lib.hid hmem
          have HQL := Lib.hid hql
          have hqb : Y.q.length ≤ 15 := by omega
          clear hc1 hc2 hmem hql
          have hgj := hMj.lt
          go_wp2_with fail
          refine (H5.out _ hMj).mono ?_
          rintro e v1 ⟨rfl, hMv, hkv⟩
          have hTv := hTj.keep hkv hTj.lt (by omega)
          have hBv := hBj.keep hkv hBj.lt (by omega)
          have hov := ownsRow_keep hoj hkv (Nat.le_refl _) (by have := hKj.size; omega)
          have hKv := hKj.and hkv hKj.size (fun _ _ h => Or.inl h)
          clear hMj hTj hBj hoj hKj hkv H5
          obtain ⟨i0, hi0, hz0, hz1, hz2⟩ := info_parts int_info
          by_cases hpos : 0 < c1
          · have hnin := HME.out.2 hpos
            have HN := Lib.hid hnin
            clear hnin
            go_wp2_with (first
              | (at_lookup; refine wpList_tally rfl (.tmp 46) (.tmp 47) rfl rfl hTv P.1 rfl c1 HC1.out ?_)
              | (at_mapUpdate; refine wpList_tput rfl (.tmp 46) (.tmp 47) (.tmp 49) (Or.inl rfl) rfl hTv P.1 _ rfl rfl c1 HC1.out rfl ?_; intro v2 hT2 hg2
                 have hk2 := Keep.of_grown hg2
                 have hB2 := hBv.keep hk2 hBv.lt (by omega)
                 have hM2 := hMv.keepT hk2 (Nat.le_refl _) (by omega) (by have := hKr.size; omega)
                 have ho2 := ownsRow_keep hov hk2 (Nat.le_refl _) (by omega)
                 have hK2 := hKv.and hk2 hKv.size (fun _ _ h => Or.inr (Or.inr h))
                 have e2 : v2.cell? ⟨hh, 2, none⟩ = some v := hB2.cell 2
                 have hown2 := ho2.lt
                 clear hTv hBv hMv hov hKv hg2 hk2)
              | (at_builtin; refine wpList_append_lies _ (by rfl) (.tmp 54) (.tmp 56) _ (by rfl) w8.heap.size 3 i0 (.int .i64 0) 1 8 Tryd.underlying39 hi0 hz0 hz1 hz2 (by rfl) (by omega) v Y.q.length (ints Y.q) (by rfl) (ho2.alloc _) ⟨v2.heap.size, 0, none⟩ 1 1 [.int .i64 P.1] (by rfl) (by rfl) (cell_one_new _ _ _) (by simp [Value.oneCell']) (by omega) (by unfold maxLen; omega) (by omega) (by have := hK2.size; simp; omega) (v2.heap.size + 1) (by simp) ?_
                 intro g' cap v3 hown3 hg3 hat3 hlt3
                 have hk3 := Keep.of_row hg3
                 have hB3 := (hB2.alloc (.cells #[.int .i64 P.1] 3)).keep hk3 (by have := hB2.lt; simp; omega) (fun e => by have := hown2 _ e; omega)
                 have hT3 := (hT2.alloc (.cells #[.int .i64 P.1] 3)).keep hk3 (by have := hT2.lt; simp; omega) (fun e => by have := hown2 _ e; omega)
                 have hM3 := (hM2.keepT (S := fun _ => False) ((Keep.refl _ _ _).alloc (Nat.le_refl _) (.cells #[.int .i64 P.1] 3)) (Nat.le_refl _) (fun h => h) (fun _ _ h => h)).keepT hk3 (Nat.le_refl _) (fun e => by have := hown2 _ e; omega) (fun k hk e => by have := hown2 _ e; have := hKr.size; omega)
                 have hK3 := (hK2.alloc hK2.size (.cells #[.int .i64 P.1] 3)).and hk3 (by have := hK2.size; simp; omega) (fun k hk e => by have := hown2 _ e; omega)
                 have e3 : v3.cell? ⟨hh, 2, none⟩ = some v := hB3.cell 2
                 have f3 := hB3.frozen 2
                 obtain ⟨m1, m2, m3, A3, cap3, hcap3, hb3, hr3⟩ := hM3
                 have hhg : hh ≠ g := by omega
                 have r2 : (v3.setCell ⟨hh, 2, none⟩ (.slice (some ⟨g', 0, none⟩) (Y.q.length + 1) cap)).cell? ⟨g, 2, none⟩ = some (.bool P.2.bad) := (World.cell?_setCell_other v3 ⟨hh, 2, none⟩ ⟨g, 2, none⟩ _ (fun e => hhg (congrArg Addr.block e))).trans (hb3.cell 2)
                 have fr2 := hb3.frozen 2
                 clear hB2 hT2 hM2 hK2 e2 ho2 hown2 hg3 hk3)
              | (at_lookup; refine wpList_tally rfl (.tmp 60) (.tmp 61) rfl rfl (hT3.far (p := ⟨hh, 2, none⟩) (by simp; omega) _) P.1 rfl (c1 + 1) HC2.out ?_))
            have hBf := hB3.set_ 2 (.slice (some ⟨g', 0, none⟩) (Y.q.length + 1) cap)
            have hkf : Keep w8.heap.size (fun k => k = g ∨ k = hh ∨ k = mb) w8 (v3.setCell ⟨hh, 2, none⟩ (.slice (some ⟨g', 0, none⟩) (Y.q.length + 1) cap)) := hK3.setCell (p := ⟨hh, 2, none⟩) (Or.inr (Or.inr (Or.inl rfl))) _
            have hTf := hT3.far (p := ⟨hh, 2, none⟩) (by simp; omega) (.slice (some ⟨g', 0, none⟩) (Y.q.length + 1) cap)
            have hgs : g' ≠ hh ∧ g' ≠ g := by have := (hown3.lt g' rfl).1; omega
            have hof : (v3.setCell ⟨hh, 2, none⟩ (.slice (some ⟨g', 0, none⟩) (Y.q.length + 1) cap)).ownsRow w8.heap.size 3 1 (.slice (some ⟨g', 0, none⟩) (Y.q.length + 1) cap) (Y.q.length + 1) (ints Y.q ++ [.int .i64 P.1]) := ownsRow_keep hown3 ((Keep.refl v3.heap.size (fun k => k = hh) v3).setCell (p := ⟨hh, 2, none⟩) (Or.inr rfl) _) (Nat.le_refl _) (fun k hk e => by omega)
            have hif : ints Y.q ++ [.int .i64 P.1] = ints (Y.q ++ [(P.1 : Int)]) := by simp [ints]
            rw [hif] at hof
            have hlf : Y.q.length + 1 = (Y.q ++ [(P.1 : Int)]).length := by simp
            refine ⟨⟨j + 1, by omega, by go_num, ?_⟩, by simp [intOf]; omega⟩
            rw [hps2.out]
            refine ⟨⟨m1, m2, m3, A3, cap3, hcap3, ?_, ?_⟩, ?_, ⟨.slice (some ⟨g', 0, none⟩) (Y.q.length + 1) cap, ?_, ?_⟩, ?_⟩
            · rw [decide_eq_true HN.out, Bool.or_true]
              exact (hb3.far (p := ⟨hh, 2, none⟩) (fun e => hhg e.symm) _).set_ 2 _
            · exact (hr3.setCell (p := ⟨hh, 2, none⟩) (fun _ e => by have := hKr.size; simp at e; omega) _).setCell (p := ⟨g, 2, none⟩) (fun _ e => m1 e) _
            · rw [← List.append_assoc]; exact hTf.far (p := ⟨g, 2, none⟩) (by simp; omega) _
            · exact hBf.far (p := ⟨g, 2, none⟩) hhg _
            · show World.ownsRow _ _ _ _ _ (Y.q ++ [(P.1 : Int)]).length (ints (Y.q ++ [(P.1 : Int)]))
              rw [← hlf]
              exact ownsRow_keep hof ((Keep.refl _ (fun k => k = g) _).setCell (p := ⟨g, 2, none⟩) (Or.inr rfl) _) (Nat.le_refl _) (fun k hk e => by omega)
            · exact hkf.setCell (p := ⟨g, 2, none⟩) (Or.inr (Or.inl rfl)) _
          · have hnin := fun h => hpos (HME.out.1 h)
            have HN := Lib.hid hnin
            clear hnin
            go_wp2_with (first
              | (at_lookup; refine wpList_tally rfl (.tmp 46) (.tmp 47) rfl rfl hTv P.1 rfl c1 HC1.out ?_)
              | (at_mapUpdate; refine wpList_tput rfl (.tmp 46) (.tmp 47) (.tmp 49) (Or.inl rfl) rfl hTv P.1 _ rfl rfl c1 HC1.out rfl ?_; intro v2 hT2 hg2
                 have hk2 := Keep.of_grown hg2
                 have hB2 := hBv.keep hk2 hBv.lt (by omega)
                 have hM2 := hMv.keepT hk2 (Nat.le_refl _) (by omega) (by have := hKr.size; omega)
                 have ho2 := ownsRow_keep hov hk2 (Nat.le_refl _) (by omega)
                 have hK2 := hKv.and hk2 hKv.size (fun _ _ h => Or.inr (Or.inr h))
                 have e2 : v2.cell? ⟨hh, 2, none⟩ = some v := hB2.cell 2
                 have hown2 := ho2.lt
                 clear hTv hBv hMv hov hKv hg2 hk2)
              | (at_builtin; refine wpList_append_lies _ (by rfl) (.tmp 54) (.tmp 56) _ (by rfl) w8.heap.size 3 i0 (.int .i64 0) 1 8 Tryd.underlying39 hi0 hz0 hz1 hz2 (by rfl) (by omega) v Y.q.length (ints Y.q) (by rfl) (ho2.alloc _) ⟨v2.heap.size, 0, none⟩ 1 1 [.int .i64 P.1] (by rfl) (by rfl) (cell_one_new _ _ _) (by simp [Value.oneCell']) (by omega) (by unfold maxLen; omega) (by omega) (by have := hK2.size; simp; omega) (v2.heap.size + 1) (by simp) ?_
                 intro g' cap v3 hown3 hg3 hat3 hlt3
                 have hk3 := Keep.of_row hg3
                 have hB3 := (hB2.alloc (.cells #[.int .i64 P.1] 3)).keep hk3 (by have := hB2.lt; simp; omega) (fun e => by have := hown2 _ e; omega)
                 have hT3 := (hT2.alloc (.cells #[.int .i64 P.1] 3)).keep hk3 (by have := hT2.lt; simp; omega) (fun e => by have := hown2 _ e; omega)
                 have hM3 := (hM2.keepT (S := fun _ => False) ((Keep.refl _ _ _).alloc (Nat.le_refl _) (.cells #[.int .i64 P.1] 3)) (Nat.le_refl _) (fun h => h) (fun _ _ h => h)).keepT hk3 (Nat.le_refl _) (fun e => by have := hown2 _ e; omega) (fun k hk e => by have := hown2 _ e; have := hKr.size; omega)
                 have hK3 := (hK2.alloc hK2.size (.cells #[.int .i64 P.1] 3)).and hk3 (by have := hK2.size; simp; omega) (fun k hk e => by have := hown2 _ e; omega)
                 have e3 : v3.cell? ⟨hh, 2, none⟩ = some v := hB3.cell 2
                 have f3 := hB3.frozen 2
                 obtain ⟨m1, m2, m3, A3, cap3, hcap3, hb3, hr3⟩ := hM3
                 have hhg : hh ≠ g := by omega
                 have r2 : (v3.setCell ⟨hh, 2, none⟩ (.slice (some ⟨g', 0, none⟩) (Y.q.length + 1) cap)).cell? ⟨g, 2, none⟩ = some (.bool P.2.bad) := (World.cell?_setCell_other v3 ⟨hh, 2, none⟩ ⟨g, 2, none⟩ _ (fun e => hhg (congrArg Addr.block e))).trans (hb3.cell 2)
                 have fr2 := hb3.frozen 2
                 clear hB2 hT2 hM2 hK2 e2 ho2 hown2 hg3 hk3)
              | (at_lookup; refine wpList_tally rfl (.tmp 60) (.tmp 61) rfl rfl (hT3.far (p := ⟨hh, 2, none⟩) (by simp; omega) _) P.1 rfl (c1 + 1) HC2.out ?_))
            have hBf := hB3.set_ 2 (.slice (some ⟨g', 0, none⟩) (Y.q.length + 1) cap)
            have hkf : Keep w8.heap.size (fun k => k = g ∨ k = hh ∨ k = mb) w8 (v3.setCell ⟨hh, 2, none⟩ (.slice (some ⟨g', 0, none⟩) (Y.q.length + 1) cap)) := hK3.setCell (p := ⟨hh, 2, none⟩) (Or.inr (Or.inr (Or.inl rfl))) _
            have hTf := hT3.far (p := ⟨hh, 2, none⟩) (by simp; omega) (.slice (some ⟨g', 0, none⟩) (Y.q.length + 1) cap)
            have hgs : g' ≠ hh ∧ g' ≠ g := by have := (hown3.lt g' rfl).1; omega
            have hof : (v3.setCell ⟨hh, 2, none⟩ (.slice (some ⟨g', 0, none⟩) (Y.q.length + 1) cap)).ownsRow w8.heap.size 3 1 (.slice (some ⟨g', 0, none⟩) (Y.q.length + 1) cap) (Y.q.length + 1) (ints Y.q ++ [.int .i64 P.1]) := ownsRow_keep hown3 ((Keep.refl v3.heap.size (fun k => k = hh) v3).setCell (p := ⟨hh, 2, none⟩) (Or.inr rfl) _) (Nat.le_refl _) (fun k hk e => by omega)
            have hif : ints Y.q ++ [.int .i64 P.1] = ints (Y.q ++ [(P.1 : Int)]) := by simp [ints]
            rw [hif] at hof
            have hlf : Y.q.length + 1 = (Y.q ++ [(P.1 : Int)]).length := by simp
            refine ⟨⟨j + 1, by omega, by go_num, ?_⟩, by simp [intOf]; omega⟩
            rw [hps2.out]
            refine ⟨⟨m1, m2, m3, A3, cap3, hcap3, ?_, ?_⟩, ?_, ⟨.slice (some ⟨g', 0, none⟩) (Y.q.length + 1) cap, ?_, ?_⟩, ?_⟩
            · rw [decide_eq_false HN.out, Bool.or_false]
              exact hb3.far (p := ⟨hh, 2, none⟩) (fun e => hhg e.symm) _
            · exact hr3.setCell (p := ⟨hh, 2, none⟩) (fun _ e => by have := hKr.size; simp at e; omega) _
            · rw [← List.append_assoc]; exact hTf
            · exact hBf
            · show World.ownsRow _ _ _ _ _ (Y.q ++ [(P.1 : Int)]).length (ints (Y.q ++ [(P.1 : Int)]))
              rw [← hlf]
              exact hof
            · exact hkf
        · obtain rfl : j = (lCnt bs tok X).1 := by omega
          have hJz : QInv w8 hh mb g n bs (lHold bs X).1 (lTok bs tok X).1 wr (lQ bs tok X) := hJr
          clear hJr
          obtain ⟨hMz, _, ⟨v, hBz, hoz⟩, hKz⟩ := hJz
          have hkZ := hk28.and hKz hk28.size (fun k hk e => by omega)
          have hTz := hTT.keep hKz hTT.lt (by omega)
          have hgw := hMz.1
          have hLz := hLr.keep hkZ (Nat.le_refl _) (fun k hk e => by
            have := hLr.lt k hk
            rcases hfoot k hk with h | h
            · omega
            · omega)
          have hcz1 := (hkZ.cell (p := ⟨gm, 1, none⟩) hgmr (by simp; omega)).trans hcr1
          have hcz2 := (hkZ.cell (p := ⟨gm, 2, none⟩) hgmr (by simp; omega)).trans hcr2
          have hKw := hKr.trans (hkZ.mono hKr.size (fun k hk e => by rcases e with e | e; exact Or.inl e; omega))
          have hxz : HeldIs wr ⟨hh, v, ⟨(lHold bs X).1, (lTok bs tok X).1, (lQ bs tok X).q⟩⟩ := ⟨hBz, QOwn.of_own hoz⟩
          have hown := hoz.lt
          have hapz : ∀ p ∈ E, apartL p.2 ⟨hh, v, ⟨(lHold bs X).1, (lTok bs tok X).1, (lQ bs tok X).q⟩⟩ := fun p hp => by
            have l1 := hLr.lt _ (Or.inr ⟨p, hp, Or.inl rfl⟩)
            refine ⟨by simp; omega, fun k hk e => ?_⟩
            have l2 := hLr.lt _ (Or.inr ⟨p, hp, Or.inr hk⟩)
            have := hown k e
            have := hk28.size
            omega
          have hx2 : ∀ k, v.ownBlock = some k → w.heap.size < k := fun k e => by have := hown k e; have := hk28.size; have := hKr.size; omega
          have hx1 : w.heap.size < hh := by have := hTr.lt; omega
          obtain ⟨z1, z2, z3, A, c, hcap, hb, hr⟩ := hMz
          have r2 : wr.cell? ⟨g, 2, none⟩ = some (.bool (lQ bs tok X).st.bad) := hb.cell 2
          have f2 := hb.frozen 2
          have e1 : wr.cell? ⟨hh, 1, none⟩ = some (.int .i64 (lTok bs tok X).1) := hBz.cell 1
          have hct2 : (X.toks ++ [((lTok bs tok X).1 : Int)]).count ((lTok bs tok X).1 : Int) = ct + 1 := by rw [List.count_append, HCT.out]; simp
          have hlook := run_tally hTz (lTok bs tok X).1
          rw [hct2] at hlook
          have hmemt : ((lTok bs tok X).1 : Int) ∈ X.toks ↔ 0 < ct := by rw [← HCT.out, List.count_pos_iff]
          have HME := Lib.hid hmemt
          have HB := Lib.hid (show lBad bs tok X = (ble (lName bs X).1 X.last || decide (((lTok bs tok X).1 : Int) = 0) || decide (((lTok bs tok X).1 : Int) ∈ X.toks)) from rfl)
          clear hct2 hmemt hKz hTT hLr hkZ hk28 hoz hBz hTr HCT
          have hFb : lBad bs tok X = true → MRd (wr.setCell ⟨g, 2, none⟩ (.bool true)) g (· < n) bs ⟨(lQ bs tok X).st.p, (lQ bs tok X).st.bad || lBad bs tok X⟩ := fun hbad => by
            rw [hbad, Bool.or_true]
            exact ⟨z1, z2, z3, A, c, hcap, hb.set_ 2 _, hr.setCell (fun _ e => z1 e) _⟩
          have hFg : lBad bs tok X = false → MRd wr g (· < n) bs ⟨(lQ bs tok X).st.p, (lQ bs tok X).st.bad || lBad bs tok X⟩ := fun hbad => by
            rw [hbad, Bool.or_false]
            exact ⟨z1, z2, z3, A, c, hcap, hb, hr⟩
          have hks : Keep wr.heap.size (fun k => k = g) wr (wr.setCell ⟨g, 2, none⟩ (.bool true)) := (Keep.refl _ (fun k => k = g) wr).setCell (p := ⟨g, 2, none⟩) (Or.inr rfl) _
          have hgl2 : g < w.heap.size := hgl
          have hLs := hLz.keep hks (Nat.le_refl _) (fun k hk e => by rcases hfoot k hk with h | h <;> omega)
          have hTs := hTz.keep hks hTz.lt (by omega)
          have hxs := hxz.keep hks (Nat.le_refl _) (by simp; omega) (fun k e he => by have := hx2 k e; omega)
          have hcs1 := (hks.cell (p := ⟨gm, 1, none⟩) (Nat.lt_of_lt_of_le hgm hKw.size) h1).trans hcz1
          have hcs2 := (hks.cell (p := ⟨gm, 2, none⟩) (Nat.lt_of_lt_of_le hgm hKw.size) h1).trans hcz2
          have hKs := hKw.and hks hKw.size (fun k _ h => Or.inl h)
          clear hks hb hr z1 z2 z3
          unfold str
          cases hb1 : ble (lName bs X).1 X.last with
          | true =>
            have hBad := Lib.hid (show lBad bs tok X = true by rw [HB.out, hb1]; rfl)
            unfold ble at hb1
            have c1 := hcs1
            go_wp2_with (at_mapUpdate; refine wpList_put rfl (.tmp 93) (.tmp 94) (.tmp 95) _ rfl Tryd.underlying88 Tryd.underlying9 rfl hLs.1 (lName bs X).1 ⟨hh, v, ⟨(lHold bs X).1, (lTok bs tok X).1, (lQ bs tok X).q⟩⟩ rfl rfl ?_; intro w9 hP9 hg9)
            have hF := LInv.fin h2 h3 hbl hbll hgm (hFb hBad.out) hTs hLs hfoot hxs hx1 hx2 hapz hcs1 hcs2 hKs hP9 hg9
            refine ⟨⟨q + 1, by omega, by go_num, ?_, ?_⟩, by simp [intOf]; omega⟩
            · rw [hps.out]; rfl
            · rw [hps.out]
              unfold lStep
              rw [← hEX]
              exact hF
          | false =>
            by_cases ht0 : (lTok bs tok X).1 = 0
            · have hBad := Lib.hid (show lBad bs tok X = true by rw [HB.out, hb1, ht0]; rfl)
              have ht1 : (((lTok bs tok X).1 : Int) == 0) = true := by rw [ht0]; rfl
              clear ht0
              unfold ble at hb1
              have c1 := hcs1
              go_wp2_with (at_mapUpdate; refine wpList_put rfl (.tmp 93) (.tmp 94) (.tmp 95) _ rfl Tryd.underlying88 Tryd.underlying9 rfl hLs.1 (lName bs X).1 ⟨hh, v, ⟨(lHold bs X).1, (lTok bs tok X).1, (lQ bs tok X).q⟩⟩ rfl rfl ?_; intro w9 hP9 hg9)
              have hF := LInv.fin h2 h3 hbl hbll hgm (hFb hBad.out) hTs hLs hfoot hxs hx1 hx2 hapz hcs1 hcs2 hKs hP9 hg9
              refine ⟨⟨q + 1, by omega, by go_num, ?_, ?_⟩, by simp [intOf]; omega⟩
              · rw [hps.out]; rfl
              · rw [hps.out]
                unfold lStep
                rw [← hEX]
                exact hF
            · have ht1 : (((lTok bs tok X).1 : Int) == 0) = false := by simp; omega
              by_cases hc0 : 0 < ct
              · have hBad := Lib.hid (show lBad bs tok X = true by rw [HB.out, hb1, decide_eq_true (HME.out.2 hc0)]; simp)
                clear ht0
                unfold ble at hb1
                have c1 := hcs1
                go_wp2_with (at_mapUpdate; refine wpList_put rfl (.tmp 93) (.tmp 94) (.tmp 95) _ rfl Tryd.underlying88 Tryd.underlying9 rfl hLs.1 (lName bs X).1 ⟨hh, v, ⟨(lHold bs X).1, (lTok bs tok X).1, (lQ bs tok X).q⟩⟩ rfl rfl ?_; intro w9 hP9 hg9)
                have hF := LInv.fin h2 h3 hbl hbll hgm (hFb hBad.out) hTs hLs hfoot hxs hx1 hx2 hapz hcs1 hcs2 hKs hP9 hg9
                refine ⟨⟨q + 1, by omega, by go_num, ?_, ?_⟩, by simp [intOf]; omega⟩
                · rw [hps.out]; rfl
                · rw [hps.out]
                  unfold lStep
                  rw [← hEX]
                  exact hF
              · have hBad := Lib.hid (show lBad bs tok X = false by rw [HB.out, hb1, decide_eq_false (fun h => hc0 (HME.out.1 h)), decide_eq_false (by omega)]; rfl)
                clear ht0
                unfold ble at hb1
                have c1 := hcz1
                go_wp2_with (at_mapUpdate; refine wpList_put rfl (.tmp 93) (.tmp 94) (.tmp 95) _ rfl Tryd.underlying88 Tryd.underlying9 rfl hLz.1 (lName bs X).1 ⟨hh, v, ⟨(lHold bs X).1, (lTok bs tok X).1, (lQ bs tok X).q⟩⟩ rfl rfl ?_; intro w9 hP9 hg9)
                have hF := LInv.fin h2 h3 hbl hbll hgm (hFg hBad.out) hTz hLz hfoot hxz hx1 hx2 hapz hcz1 hcz2 hKw hP9 hg9
                refine ⟨⟨q + 1, by omega, by go_num, ?_, ?_⟩, by simp [intOf]; omega⟩
                · rw [hps.out]; rfl
                · rw [hps.out]
                  unfold lStep
                  rw [← hEX]
                  exact hF
    · obtain rfl : q = N := by omega
      go_wp2_with fail
      go_end0
      exact ⟨rfl, hIr.rd, by obtain ⟨E, h1, h2, h3⟩ := hIr.lks; exact ⟨E, h1, h2, fun k hk => (h3 k hk).imp id (fun h => by omega)⟩, hIr.kp⟩
end Go.Proofs.YtjdageiphebfpaaDoor
