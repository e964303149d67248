/- The reference's TakeState. -/
import Derived.Test.YtjdageiphebfpaaDoorMRf14
namespace Go.Proofs.YtjdageiphebfpaaDoor
open Go.RowKit
open Pl Mem

theorem results_tmp4 {fn : Func} {t u v x : Tmp} (h : fn.results = #[.tmp t, .tmp u, .tmp v, .tmp x]) (tmps : Array Value) (P : Program) (w : World) :
    (results fn tmps).run P w = .ok (.tuple #[tmps.getD t undef, tmps.getD u undef, tmps.getD v undef, tmps.getD x undef]) w := by
  simp [results, h]
theorem TsRet.no {bs : Bytes} {n : Nat} {w w' : World} (h : ¬ tsOk bs n) (hb : Below w.heap.size w w') : TsRet bs n w (.returned (.tuple #[.slice none 0 0, .slice none 0 0, .slice none 0 0, .bool false])) w' :=
  ⟨_, _, _, false, rfl, ⟨fun e => (by cases e), fun e => absurd e h⟩, hb, ⟨_, _, _, _, _, _, _, _, _, rfl, rfl, rfl⟩, fun e => (by cases e)⟩

theorem TkI.drewN_ {w W : World} {bs : Bytes} {s : St} {cv sv tv : Value} {cs : List Nat} {sh : Bytes} {tl : List Cmd} (h : TkI w W bs s cv cs sv sh tv tl) (n : Nat) : TkI w (W.drewN n) bs s cv cs sv sh tv tl := ⟨h.rd, h.oc, h.os, h.ot, h.keep.drewN n, h.size⟩
theorem TsRet.of {bs : Bytes} {n : Nat} {w W : World} {s s0 : St} {cv sv tv : Value} {tl : List Cmd} (hI : TkI w W bs s cv (tC bs n).l sv (tShot bs n).1 tv tl) (hl : (tC bs n).l.length = n) (hT : tT bs n = some (s0, tl)) {b : Bool} (hb : b = true ↔ tsOk bs n) : TsRet bs n w (.returned (.tuple #[cv, sv, tv, .bool b])) W := by
  obtain ⟨A1, c1, e1, _⟩ := own_slice_ hI.oc
  obtain ⟨A2, c2, e2, _⟩ := own_slice_ hI.os
  obtain ⟨A3, c3, e3, _⟩ := own_slice_ hI.ot
  have h1 := own_lower_ hI.oc (Nat.le_succ w.heap.size)
  rw [hl] at h1
  exact ⟨cv, sv, tv, b, rfl, hb, hI.keep.to_below (fun _ _ h => h), ⟨_, _, _, _, _, _, _, _, _, e1, e2, e3⟩, fun _ => ⟨s0, tl, hT, h1, own_lower_ hI.os (Nat.le_succ _), own_lower_ hI.ot (Nat.le_succ _)⟩⟩

set_option maxRecDepth 100000 in
set_option maxHeartbeats 4000000 in
theorem ntake (A : Option Addr) (c : Nat) (bs : Bytes) (n : Nat) (T : Nat → Prop) (w : World) (hr : Rd w T 1 A bs.length (u8s bs)) (hn : bs.length ≤ 1099511627776) (hc : bs.length ≤ c) (hn1 : 1 ≤ n) (hn3 : n ≤ 3) :
    Calls Tryd.prog 10 #[.slice A bs.length c, .int .i64 n] w (TsRet bs n w) := by
  have hI0 : TkI w (w.alloc (.cells #[.slice A bs.length c, .int .i64 0, .int .i64 0] 53)) bs ⟨0, false⟩ (.slice none 0 0) [] (.slice none 0 0) [] (.slice none 0 0) [] :=
    ⟨none_made hr hn hc, ⟨rfl, Or.inl ⟨rfl, rfl⟩⟩, ⟨rfl, Or.inl ⟨rfl, rfl⟩⟩, ⟨rfl, Or.inl ⟨rfl, rfl⟩⟩, (Keep.refl _ _ _).alloc (Nat.le_refl _) _, by simp⟩
  have hn3' : (n : Int) ≤ 3 := by omega
  go_enter Tryd.func10, Tryd.ntmps10
  go_wp2_with fail
  generalize w.alloc (.cells #[.slice A bs.length c, .int .i64 0, .int .i64 0] 53) = W0 at hI0 ⊢
  have HtC : Hid (tC bs n = tcIter bs n ⟨⟨0, false⟩, []⟩) := rfl
  generalize hx0 : (⟨⟨0, false⟩, []⟩ : TC) = X0 at HtC
  have hI0' : TkI w W0 bs X0.st (.slice none 0 0) X0.l (.slice none 0 0) [] (.slice none 0 0) [] := by rw [← hx0]; exact hI0
  have HX0 := Lib.hid (show X0.l.length = 0 by rw [← hx0]; rfl)
  clear hx0 hI0
  go_loopw [9, 10] (fun c9 i wr => ∃ (q : Nat) (cv : Value), q ≤ n ∧ i = .int .i64 q ∧ cv = c9 ∧ TkI w wr bs (tcIter bs q X0).st cv (tcIter bs q X0).l (.slice none 0 0) [] (.slice none 0 0) []) (fun _ i _ => n - (intOf i).toNat)
  case atStart => exact ⟨0, _, by omega, rfl, rfl, hI0'⟩
  case round =>
    obtain ⟨q, cv, hq, rfl, rfl, hIr⟩ := hrel
    clear hI0'
    by_cases hl : q < n
    · have hlen : (tcIter bs q X0).l.length ≤ 3 := by rw [tcIter_len, HX0.out]; omega
      have HST : Hid (tcIter bs (q + 1) X0 = tcStep bs (tcIter bs q X0)) := rfl
      generalize tcIter bs q X0 = X at *
      have HN := Lib.hid fun W h => nnum w.heap.size (· < w.heap.size) bs X.st 0 4611686018427387904 W h
      have HZ : Hid (tcStep bs X = ⟨(nNum bs 0 4611686018427387904 X.st).2, X.l ++ [(nNum bs 0 4611686018427387904 X.st).1]⟩) := rfl
      generalize nNum bs 0 4611686018427387904 X.st = rz at HN HZ
      go_wp2_with fail
      refine (HN.out _ hIr.rd).mono ?_
      rintro e w1 ⟨rfl, hN, hk⟩
      have hI1 := hIr.call hN hk
      clear hIr hN hk HN
      obtain ⟨A1, c1, hv1, hl1⟩ := own_slice_ hI1.oc
      subst hv1
      have hIa := hI1.alloc (.cells #[.int .i64 rz.1] 3)
      obtain ⟨ii, hii, hy1, hy2, hy3⟩ := info_parts int_info
      go_wp2_with (
        at_builtin
        refine wpList_append_rd (by rfl) (.tmp 32) (.tmp 34) (w.heap.size + 1) 39 3 ii (.int .i64 0) 1 8 (by rfl) Tryd.underlying39 hii hy1 hy2 hy3 (by rfl) (by omega) (.slice A1 X.l.length c1) X.l.length (ints (X.l.map fun (x : Nat) => (x : Int))) (by rfl) hIa.oc (fun _ => True) (some ⟨w1.heap.size, 0, none⟩) 1 1 [.int .i64 rz.1] (by rfl) (rd_new w1 _ _ _ _ _ rfl trivial) (by simp [Value.oneCell']) (by unfold maxLen; omega) (by omega) (by have := hI1.size; simp; omega) ?_
        intro v' w9 hown9 hg9 hob9
        obtain ⟨A9, c9, rfl, hl9⟩ := own_slice_ hown9)
      have hF := hIa.addC rz.1 hown9 hg9
      have HF := Lib.hid hF
      clear hF hown9 hg9 hob9 hIa hI1 hii hy1 hy2 hy3
      go_roundw
      case rel => exact ⟨q + 1, _, by omega, by go_num, rfl, by rw [HST.out, HZ.out]; exact HF.out⟩
      case measure => simp [intOf]; omega
    · obtain rfl : q = n := by omega
      rw [← HtC.out] at hIr
      have HCL := Lib.hid (show (tC bs q).l.length = q by rw [HtC.out, tcIter_len, HX0.out]; omega)
      clear HtC HX0 hq hl
      have HS := Lib.hid fun W h => (show Calls Tryd.prog 17 #[.pointer (some ⟨w.heap.size, 0, none⟩), .int .i64 0, .int .i64 bs.length] W fun e w' => ∃ A' c', e = .returned (.slice A' (tShot bs q).1.length c') ∧ w'.ownsRow W.heap.size 5 1 (.slice A' (tShot bs q).1.length c') (tShot bs q).1.length (u8s (tShot bs q).1) ∧ NRd w' w.heap.size (· < w.heap.size) bs (tShot bs q).2 ∧ Keep W.heap.size (· = w.heap.size) W w' from nbytes w.heap.size (· < w.heap.size) bs (tC bs q).st 0 bs.length W hn h)
      have HK := Lib.hid fun W h => (show Calls Tryd.prog 16 #[.pointer (some ⟨w.heap.size, 0, none⟩), .int .i64 0, .int .i64 16] W fun e w' => e = .returned (.int .i64 (tK bs q).1) ∧ NRd w' w.heap.size (· < w.heap.size) bs (tK bs q).2 ∧ Keep W.heap.size (· = w.heap.size) W w' from nnum w.heap.size (· < w.heap.size) bs (tShot bs q).2 0 16 W h)
      have hk16 : ((tK bs q).1 : Int) ≤ 16 := nNum_hi bs 0 16 (tShot bs q).2 (by omega)
      have hsl := nBytes_len bs 0 bs.length (tC bs q).st
      go_wp2_with fail
      refine (HS.out _ hIr.rd).mono ?_
      rintro e w1 ⟨As, cs, rfl, hown, hN, hk⟩
      have hI1 : TkI w w1 bs (tShot bs q).2 cv (tC bs q).l (.slice As (tShot bs q).1.length cs) (tShot bs q).1 (.slice none 0 0) [] := by
        have h1 := hIr.call hN hk
        exact ⟨h1.rd, h1.oc, own_lower_ hown hIr.size, h1.ot, h1.keep, h1.size⟩
      clear hIr hown hN hk HS
      go_wp2_with fail
      refine (HK.out _ hI1.rd).mono ?_
      rintro e w2 ⟨rfl, hN, hk⟩
      have hI2 := hI1.call hN hk
      clear hI1 hN hk HK
      have HT : Hid (tT bs q = tIter bs (tK bs q).1 (tK bs q).2 []) := rfl
      generalize (tK bs q).1 = K at hk16 HT ⊢
      generalize (tK bs q).2 = s0 at hI2 HT ⊢
      go_wp2_with fail
      go_loopw [14, 15] (fun c14 i wr => ∃ (p : Nat) (s : St) (tl : List Cmd) (tv : Value), p ≤ K ∧ tl.length ≤ p ∧ i = .int .i64 p ∧ tv = c14 ∧ Hid (tT bs q = tIter bs (K - p) s tl) ∧ TkI w wr bs s cv (tC bs q).l (.slice As (tShot bs q).1.length cs) (tShot bs q).1 tv tl) (fun _ i _ => K - (intOf i).toNat)
      case atStart => exact ⟨0, s0, [], _, by omega, by simp, rfl, rfl, HT.out, hI2⟩
      case round =>
        obtain ⟨p, s, tl, tv, hp, htl, rfl, rfl, HR, hIr⟩ := hrel
        clear hI2 HT
        obtain ⟨_, _, _, A3, c3, E, _, hE, hbE, _⟩ := hIr.rd
        have cE : wr.cell? ⟨w.heap.size, 2, none⟩ = some (.int .i64 E) := hbE.cell 2
        clear hbE
        obtain ⟨At, ct, hvt, hlt⟩ := own_slice_ hIr.ot
        subst hvt
        by_cases hgo : p < K ∧ s.bad = false
        · obtain ⟨hpK, hsb⟩ := hgo
          obtain rfl : E = 0 := hE.1 hsb
          have HSB := Lib.hid hsb
          clear hE hsb
          have hpK' : (p : Int) < K := by omega
          have HR2 : Hid (tT bs q = if eOk (nBytes bs 0 bs.length s).1 = true then tIter bs (K - (p + 1)) (nBytes bs 0 bs.length s).2 (tl ++ [eCmd (nBytes bs 0 bs.length s).1]) else none) := by
            show tT bs q = _
            rw [HR.out, show K - p = (K - (p + 1)) + 1 by omega, tIter, if_neg (by rw [HSB.out]; simp)]
          have HB := Lib.hid fun W h => nbytes w.heap.size (· < w.heap.size) bs s 0 bs.length W hn h
          have htb := nBytes_len bs 0 bs.length s
          generalize nBytes bs 0 bs.length s = rb at HB HR2 htb
          clear HR
          go_wp2_with fail
          refine (HB.out _ hIr.rd).mono ?_
          rintro e w3 ⟨A4, c4, rfl, hown, hN, hk⟩
          have hI3 := hIr.call hN hk
          have hrd := Rd.of_own hown
          have hl4 : rb.1.length ≤ c4 := by
            obtain ⟨_, _, h, hle⟩ := own_slice_ hown
            injection h with _ _ h
            omega
          clear hIr hN hk hown HB cE
          have HD0 := ndecode A4 rb.1.length c4 rb.1 _ w3 hrd (by omega) hl4
          clear hrd hl4
          cases hok : eOk rb.1 with
          | false =>
            rw [show eV rb.1 = zeroCmd by unfold eV; rw [hok]; rfl, show eEr rb.1 = 130 by unfold eEr; rw [hok]; rfl] at HD0
            have HD := Lib.hid HD0
            clear HD0
            have HF : Hid (¬ tsOk bs q) := by
              rintro ⟨s1, l1, h1, _⟩
              rw [HR2.out, hok] at h1
              simp at h1
            clear hok
            unfold cmdV str zeroCmd at HD
            simp only [] at HD
            go_wp2_with fail
            refine HD.out.mono ?_
            rintro e w4 ⟨rfl, hb4⟩
            have hI4 := hI3.belowM hb4
            clear hI3 hb4 HD
            go_wp2_with fail
            (try simp only [Exit.inBlock, Exit.then])
            refine bodyPost_ret (results_tmp4 rfl _ _ _) rfl ?_
            exact TsRet.no HF.out ((hI4.alloc _).keep.to_below (fun _ _ h => h))
          | true =>
            rw [show eV rb.1 = eCmd rb.1 by unfold eV; rw [hok]; rfl, show eEr rb.1 = 0 by unfold eEr; rw [hok]; rfl] at HD0
            have HR3 : Hid (tT bs q = tIter bs (K - (p + 1)) rb.2 (tl ++ [eCmd rb.1])) := by show _ = _; rw [HR2.out, if_pos hok]
            clear hok HR2
            generalize eCmd rb.1 = cm at HD0 HR3
            have HD := Lib.hid HD0
            clear HD0
            unfold cmdV str at HD
            go_wp2_with fail
            refine HD.out.mono ?_
            rintro e w4 ⟨rfl, hb4⟩
            have hI4 := hI3.belowM hb4
            clear hI3 hb4 HD
            have hI5 := hI4.alloc (.cells #[.int .i64 cm.client, .int .i64 cm.inc, .int .i64 cm.req, .int .i64 cm.op, .string ⟨cm.key.toArray⟩, .string ⟨cm.val.toArray⟩, .string ⟨cm.old.toArray⟩] 57)
            have hI6 := hI5.alloc (.cells #[.int .i64 cm.client, .int .i64 cm.inc, .int .i64 cm.req, .int .i64 cm.op, .string ⟨cm.key.toArray⟩, .string ⟨cm.val.toArray⟩, .string ⟨cm.old.toArray⟩] 57)
            have hs6 := hI4.size
            have hrN : Hid (Rd ((w4.alloc (.cells #[.int .i64 cm.client, .int .i64 cm.inc, .int .i64 cm.req, .int .i64 cm.op, .string ⟨cm.key.toArray⟩, .string ⟨cm.val.toArray⟩, .string ⟨cm.old.toArray⟩] 57)).alloc (.cells #[.int .i64 cm.client, .int .i64 cm.inc, .int .i64 cm.req, .int .i64 cm.op, .string ⟨cm.key.toArray⟩, .string ⟨cm.val.toArray⟩, .string ⟨cm.old.toArray⟩] 57)) (fun _ => True) 7 (some ⟨w4.heap.size + 1, 0, none⟩) 1 (cmdCells cm)) := by
              have h7 := rd_new_cmd (w4.alloc (.cells #[.int .i64 cm.client, .int .i64 cm.inc, .int .i64 cm.req, .int .i64 cm.op, .string ⟨cm.key.toArray⟩, .string ⟨cm.val.toArray⟩, .string ⟨cm.old.toArray⟩] 57)) cm
              rw [show (w4.alloc (.cells #[.int .i64 cm.client, .int .i64 cm.inc, .int .i64 cm.req, .int .i64 cm.op, .string ⟨cm.key.toArray⟩, .string ⟨cm.val.toArray⟩, .string ⟨cm.old.toArray⟩] 57)).heap.size = w4.heap.size + 1 by simp] at h7
              exact h7
            obtain ⟨i2, hi2, hy1, hy2, hy3⟩ := info_parts cmd_info
            go_wp2_with (
              at_builtin
              refine wpList_append_rd (by rfl) (.tmp 65) (.tmp 67) (w.heap.size + 1) 30 57 i2 (.agg #[.int .i64 0, .int .i64 0, .int .i64 0, .int .i64 0, .string ⟨#[]⟩, .string ⟨#[]⟩, .string ⟨#[]⟩]) 7 80 (by rfl) Tryd.underlying30 hi2 hy1 hy2 hy3 (by rfl) (by omega) (.slice At tl.length ct) tl.length (cmdsCells tl) (by rfl) hI6.ot (fun _ => True) (some ⟨w4.heap.size + 1, 0, none⟩) 1 1 (cmdCells cm) (by rfl) hrN.out (one_cmd cm) (by unfold maxLen; omega) (by omega) (by simp; omega) ?_
              intro v' w9 hown9 hg9 hob9
              obtain ⟨A9, c9, rfl, hl9⟩ := own_slice_ hown9)
            have hF := hI6.addT cm hown9 hg9
            have HF := Lib.hid hF
            clear hF hown9 hg9 hob9 hI6 hI5 hI4 hi2 hy1 hy2 hy3
            go_roundw
            case rel => exact ⟨p + 1, rb.2, tl ++ [cm], _, by omega, by simp; omega, by go_num, rfl, HR3.out, HF.out⟩
            case measure => simp [intOf]; omega
        · have HD2 : Hid (tT bs q = some (s, tl)) := by
            show _ = _
            rw [HR.out]
            by_cases hb : s.bad = true
            · exact tIter_bad _ _ _ _ hb
            · rw [show K - p = 0 by have : ¬ p < K := fun h => hgo ⟨h, by simpa using hb⟩; omega]
              rfl
          by_cases hpK : p < K
          · have hpK' : (p : Int) < K := by omega
            have hsb : s.bad = true := by cases hb : s.bad with | true => rfl | false => exact absurd ⟨hpK, hb⟩ hgo
            have hE0 : E ≠ 0 := fun e => by have := hE.2 e; rw [hsb] at this; cases this
            have hE1 : ((E : Int) == 0) = false := by simp; omega
            have HR1 := Lib.hid hE
            clear hE hgo HR hsb hE0 hpK
            have HE := Lib.hid (nend w.heap.size (· < w.heap.size) bs s wr hIr.rd)
            go_wp2_with fail
            clear cE hE1
            refine HE.out.mono ?_
            rintro e W5 ⟨rfl, hN, hk⟩
            have hI5 := hIr.call hN hk
            clear hIr hN hk HE
            have hcs : (tShot bs q).1.length ≤ cs := by
              obtain ⟨_, _, h, hle⟩ := own_slice_ hI5.os
              injection h with _ _ h
              omega
            have HRS := Lib.hid (nrestore As (tShot bs q).1.length cs (tShot bs q).1 _ W5 (Rd.of_own hI5.os) (by unfold tShot; omega) hcs)
            go_wp2_with fail
            refine HRS.out.mono ?_
            rintro e W6 ⟨m, Er, rfl, her, hiff, _, hb6⟩
            have hI6 := hI5.belowM hb6
            have HIF := Lib.hid hiff
            clear hI5 hb6 HRS hiff hcs
            obtain ⟨_, _, _, A7, c7, E7, _, hE7, hbE7, _⟩ := hI6.rd
            have cE7 : W6.cell? ⟨w.heap.size, 2, none⟩ = some (.int .i64 E7) := hbE7.cell 2
            clear hbE7
            by_cases hbad : (nEnd bs s).bad = true
            · have hE0 : E7 ≠ 0 := fun e => by have := hE7.2 e; rw [hbad] at this; cases this
              have hE1 : ((E7 : Int) == 0) = false := by simp; omega
              have HF : Hid (¬ tsOk bs q) := by
                rintro ⟨s1, l1, h1, h2, _⟩
                rw [HD2.out] at h1
                injection h1 with h1
                injection h1 with h1 _
                rw [← h1, hbad] at h2
                cases h2
              have HI6 := Lib.hid hI6
              clear hbad hE7 hI6 hE0
              go_wp2_with fail
              go_quiet (fail)
              go_wp2_with fail
              (try simp only [Exit.inBlock, Exit.then])
              refine bodyPost_ret (results_tmp4 rfl _ _ _) rfl ?_
              exact TsRet.of (HI6.out.drewN_ nq) HCL.out HD2.out ⟨fun e => (by cases e), fun h => absurd h HF.out⟩
            · have hbad' : (nEnd bs s).bad = false := by simpa using hbad
              obtain rfl : E7 = 0 := hE7.1 hbad'
              have HBB := Lib.hid hbad'
              clear hE7 hbad hbad'
              rcases her with rfl | rfl
              · obtain ⟨gc, Ac, cc, hcv, hcc, hAc, hcc2⟩ := own_cells hI6.oc
                rw [HCL.out] at hcv hcc hAc
                obtain ⟨hAc, _, _⟩ := hAc (by omega)
                subst hAc
                have hCV := Lib.hid hcv
                have hgl : q - 1 < (tC bs q).l.length := by rw [HCL.out]; omega
                have kq := hcc2 (q - 1) (.int .i64 ((tC bs q).l.getD (q - 1) 0 : Nat)) (by unfold ints; simp [List.getD, hgl])
                clear hcc2 hgl
                have HOK : Hid (tsOk bs q ↔ (tC bs q).l.getD (q - 1) 0 + tl.length ≤ 4611686018427387904) := by
                  constructor
                  · rintro ⟨s1, l1, h1, h2, h3, h4⟩
                    rw [HD2.out] at h1
                    injection h1 with h1
                    injection h1 with _ h1
                    rw [h1]; exact h4
                  · intro h
                    exact ⟨s, tl, HD2.out, HBB.out, HIF.out.1 rfl, h⟩
                generalize (tC bs q).l.getD (q - 1) 0 = v at kq HOK
                have HI6 := Lib.hid hI6
                clear hI6
                subst hcv
                have hz1 : (0 : Int) ≤ (q : Int) - 1 := by omega
                have hz2 : (q : Int) - 1 < q := by omega
                have hz3 : ((q : Int) - 1).toNat = q - 1 := by omega
                have hz4 : IntKind.i64.wrap ((q : Int) - 1) = (q : Int) - 1 := IntWalk.i64_in _ (by omega)
                have hz5 : IntKind.i64.wrap (4611686018427387904 - (tl.length : Int)) = 4611686018427387904 - (tl.length : Int) := IntWalk.i64_in _ (by omega)
                by_cases hv : v + tl.length ≤ 4611686018427387904
                · have hv2 : (v : Int) ≤ 4611686018427387904 - (tl.length : Int) := by omega
                  have HF : Hid (tsOk bs q) := HOK.out.2 hv
                  clear hv
                  go_wp2_with fail
                  go_quiet (fail)
                  go_wp2_with fail
                  (try simp only [Exit.inBlock, Exit.then])
                  refine bodyPost_ret (results_tmp4 rfl _ _ _) rfl ?_
                  exact TsRet.of (HI6.out.drewN_ nq) HCL.out HD2.out ⟨fun _ => HF.out, fun _ => by simp⟩
                · have hv2 : decide ((v : Int) ≤ 4611686018427387904 - (tl.length : Int)) = false := by simp; omega
                  have HF : Hid (¬ tsOk bs q) := fun h => hv (HOK.out.1 h)
                  clear hv
                  go_wp2_with fail
                  go_quiet (fail)
                  go_wp2_with fail
                  (try simp only [Exit.inBlock, Exit.then])
                  refine bodyPost_ret (results_tmp4 rfl _ _ _) rfl ?_
                  exact TsRet.of (HI6.out.drewN_ nq) HCL.out HD2.out ⟨fun e => absurd e (by simp), fun h => absurd h HF.out⟩
              · have HF : Hid (¬ tsOk bs q) := by
                  rintro ⟨s1, l1, h1, h2, h3, _⟩
                  have := HIF.out.2 h3
                  cases this
                have HI6 := Lib.hid hI6
                clear hI6
                go_wp2_with fail
                go_quiet (fail)
                go_wp2_with fail
                (try simp only [Exit.inBlock, Exit.then])
                refine bodyPost_ret (results_tmp4 rfl _ _ _) rfl ?_
                exact TsRet.of (HI6.out.drewN_ nq) HCL.out HD2.out ⟨fun e => (by cases e), fun h => absurd h HF.out⟩
          · clear hE hgo HR
            have HE := Lib.hid (nend w.heap.size (· < w.heap.size) bs s wr hIr.rd)
            go_wp2_with fail
            clear cE
            refine HE.out.mono ?_
            rintro e W5 ⟨rfl, hN, hk⟩
            have hI5 := hIr.call hN hk
            clear hIr hN hk HE
            have hcs : (tShot bs q).1.length ≤ cs := by
              obtain ⟨_, _, h, hle⟩ := own_slice_ hI5.os
              injection h with _ _ h
              omega
            have HRS := Lib.hid (nrestore As (tShot bs q).1.length cs (tShot bs q).1 _ W5 (Rd.of_own hI5.os) (by unfold tShot; omega) hcs)
            go_wp2_with fail
            refine HRS.out.mono ?_
            rintro e W6 ⟨m, Er, rfl, her, hiff, _, hb6⟩
            have hI6 := hI5.belowM hb6
            have HIF := Lib.hid hiff
            clear hI5 hb6 HRS hiff hcs
            obtain ⟨_, _, _, A7, c7, E7, _, hE7, hbE7, _⟩ := hI6.rd
            have cE7 : W6.cell? ⟨w.heap.size, 2, none⟩ = some (.int .i64 E7) := hbE7.cell 2
            clear hbE7
            by_cases hbad : (nEnd bs s).bad = true
            · have hE0 : E7 ≠ 0 := fun e => by have := hE7.2 e; rw [hbad] at this; cases this
              have hE1 : ((E7 : Int) == 0) = false := by simp; omega
              have HF : Hid (¬ tsOk bs q) := by
                rintro ⟨s1, l1, h1, h2, _⟩
                rw [HD2.out] at h1
                injection h1 with h1
                injection h1 with h1 _
                rw [← h1, hbad] at h2
                cases h2
              have HI6 := Lib.hid hI6
              clear hbad hE7 hI6 hE0
              go_wp2_with fail
              go_quiet (fail)
              go_wp2_with fail
              (try simp only [Exit.inBlock, Exit.then])
              refine bodyPost_ret (results_tmp4 rfl _ _ _) rfl ?_
              exact TsRet.of (HI6.out.drewN_ nq) HCL.out HD2.out ⟨fun e => (by cases e), fun h => absurd h HF.out⟩
            · have hbad' : (nEnd bs s).bad = false := by simpa using hbad
              obtain rfl : E7 = 0 := hE7.1 hbad'
              have HBB := Lib.hid hbad'
              clear hE7 hbad hbad'
              rcases her with rfl | rfl
              · obtain ⟨gc, Ac, cc, hcv, hcc, hAc, hcc2⟩ := own_cells hI6.oc
                rw [HCL.out] at hcv hcc hAc
                obtain ⟨hAc, _, _⟩ := hAc (by omega)
                subst hAc
                have hCV := Lib.hid hcv
                have hgl : q - 1 < (tC bs q).l.length := by rw [HCL.out]; omega
                have kq := hcc2 (q - 1) (.int .i64 ((tC bs q).l.getD (q - 1) 0 : Nat)) (by unfold ints; simp [List.getD, hgl])
                clear hcc2 hgl
                have HOK : Hid (tsOk bs q ↔ (tC bs q).l.getD (q - 1) 0 + tl.length ≤ 4611686018427387904) := by
                  constructor
                  · rintro ⟨s1, l1, h1, h2, h3, h4⟩
                    rw [HD2.out] at h1
                    injection h1 with h1
                    injection h1 with _ h1
                    rw [h1]; exact h4
                  · intro h
                    exact ⟨s, tl, HD2.out, HBB.out, HIF.out.1 rfl, h⟩
                generalize (tC bs q).l.getD (q - 1) 0 = v at kq HOK
                have HI6 := Lib.hid hI6
                clear hI6
                subst hcv
                have hz1 : (0 : Int) ≤ (q : Int) - 1 := by omega
                have hz2 : (q : Int) - 1 < q := by omega
                have hz3 : ((q : Int) - 1).toNat = q - 1 := by omega
                have hz4 : IntKind.i64.wrap ((q : Int) - 1) = (q : Int) - 1 := IntWalk.i64_in _ (by omega)
                have hz5 : IntKind.i64.wrap (4611686018427387904 - (tl.length : Int)) = 4611686018427387904 - (tl.length : Int) := IntWalk.i64_in _ (by omega)
                by_cases hv : v + tl.length ≤ 4611686018427387904
                · have hv2 : (v : Int) ≤ 4611686018427387904 - (tl.length : Int) := by omega
                  have HF : Hid (tsOk bs q) := HOK.out.2 hv
                  clear hv
                  go_wp2_with fail
                  go_quiet (fail)
                  go_wp2_with fail
                  (try simp only [Exit.inBlock, Exit.then])
                  refine bodyPost_ret (results_tmp4 rfl _ _ _) rfl ?_
                  exact TsRet.of (HI6.out.drewN_ nq) HCL.out HD2.out ⟨fun _ => HF.out, fun _ => by simp⟩
                · have hv2 : decide ((v : Int) ≤ 4611686018427387904 - (tl.length : Int)) = false := by simp; omega
                  have HF : Hid (¬ tsOk bs q) := fun h => hv (HOK.out.1 h)
                  clear hv
                  go_wp2_with fail
                  go_quiet (fail)
                  go_wp2_with fail
                  (try simp only [Exit.inBlock, Exit.then])
                  refine bodyPost_ret (results_tmp4 rfl _ _ _) rfl ?_
                  exact TsRet.of (HI6.out.drewN_ nq) HCL.out HD2.out ⟨fun e => absurd e (by simp), fun h => absurd h HF.out⟩
              · have HF : Hid (¬ tsOk bs q) := by
                  rintro ⟨s1, l1, h1, h2, h3, _⟩
                  have := HIF.out.2 h3
                  cases this
                have HI6 := Lib.hid hI6
                clear hI6
                go_wp2_with fail
                go_quiet (fail)
                go_wp2_with fail
                (try simp only [Exit.inBlock, Exit.then])
                refine bodyPost_ret (results_tmp4 rfl _ _ _) rfl ?_
                exact TsRet.of (HI6.out.drewN_ nq) HCL.out HD2.out ⟨fun e => (by cases e), fun h => absurd h HF.out⟩
end Go.Proofs.YtjdageiphebfpaaDoor
