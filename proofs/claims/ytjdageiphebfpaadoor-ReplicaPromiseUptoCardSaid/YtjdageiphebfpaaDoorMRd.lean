/- The replica's reader: fail, count, bytes, end. -/
import Derived.Test.YtjdageiphebfpaaDoorMRest
import Derived.Test.YtjdageiphebfpaaDoorMDec
namespace Go.Proofs.YtjdageiphebfpaaDoor
open Go.RowKit
open Pl Mem

namespace Pl
def rCount (b : Bytes) (s : St) : Nat × St :=
  if s.bad = true then (0, s) else
  match takeInt b s.p with
  | .err _ => (0, ⟨s.p, true⟩)
  | .ok v n => (v, ⟨n, false⟩)
def rBytes (b : Bytes) (s : St) : Bytes × St :=
  if (rCount b s).2.bad = true then ([], (rCount b s).2) else
  if b.length - (rCount b s).2.p < (rCount b s).1 then ([], ⟨(rCount b s).2.p, true⟩) else
  ((b.drop (rCount b s).2.p).take (rCount b s).1, ⟨(rCount b s).2.p + (rCount b s).1, false⟩)
def rEnd (b : Bytes) (s : St) : Bool := s.bad || decide (s.p ≠ b.length)
end Pl

/-- What a reader keeps as its flaw: nothing, or a flaw whose reason is rs. -/
def FlawIs (w : World) (rs : Int) (bad : Bool) (ev : Value) : Prop :=
  (bad = false ∧ ev = .nilIface) ∨ (bad = true ∧ ∃ fb part, ev = .iface 79 (.pointer (some ⟨fb, 0, none⟩)) ∧ Blk w fb 81 #[.string part, .iface 45 (.int .i64 rs)])
/-- A replica's reader at block g: it reads bs, and stands at s; its flaws wrap rs. -/
def RRd (w : World) (g : Nat) (T : Nat → Prop) (bs : Bytes) (rs : Int) (s : St) : Prop :=
  ¬ T g ∧ s.p ≤ bs.length ∧ bs.length ≤ 281474976710656 ∧ ∃ A c ev, bs.length ≤ c ∧ Blk w g 47 #[.slice A bs.length c, .int .i64 s.p, .iface 45 (.int .i64 rs), ev] ∧ FlawIs w rs s.bad ev ∧ Rd w T 1 A bs.length (u8s bs)

theorem FlawIs.keep {w w' : World} {B : Nat} {S : Nat → Prop} {rs : Int} {bad : Bool} {ev : Value} (h : FlawIs w rs bad ev) (hk : Keep B S w w') (hB : w.heap.size ≤ B) (hF : ∀ fb cs, Blk w fb 81 cs → ¬ S fb) : FlawIs w' rs bad ev := by
  rcases h with h | ⟨h1, fb, part, h2, h3⟩
  · exact Or.inl h
  · exact Or.inr ⟨h1, fb, part, h2, h3.keep hk (Nat.lt_of_lt_of_le h3.lt hB) (hF _ _ h3)⟩
theorem RRd.keep {w w' : World} {g B : Nat} {T S : Nat → Prop} {bs : Bytes} {rs : Int} {s : St} (h : RRd w g T bs rs s) (hk : Keep B S w w') (hB : w.heap.size ≤ B) (hg : ¬ S g) (hS : ∀ k, k < w.heap.size → T k → ¬ S k) (hF : ∀ fb cs, Blk w fb 81 cs → ¬ S fb) : RRd w' g T bs rs s := by
  obtain ⟨h1, h2, h3, A, c, ev, hc, hb, hf, hr⟩ := h
  exact ⟨h1, h2, h3, A, c, ev, hc, hb.keep hk (Nat.lt_of_lt_of_le hb.lt hB) hg, hf.keep hk hB hF, hr.keep hk hB hS⟩
theorem RRd.lt {w : World} {g : Nat} {T : Nat → Prop} {bs : Bytes} {rs : Int} {s : St} (h : RRd w g T bs rs s) : g < w.heap.size := by
  obtain ⟨_, _, _, A, c, ev, _, hb, _⟩ := h
  exact hb.lt

theorem rfail (g : Nat) (T : Nat → Prop) (bs : Bytes) (rs : Int) (s : St) (part : ByteArray) (w : World) (h : RRd w g T bs rs s) :
    Calls Tryd.prog 22 #[.pointer (some ⟨g, 0, none⟩), .string part] w fun e w' =>
      e = .returned (.tuple #[]) ∧ RRd w' g T bs rs ⟨s.p, true⟩ ∧ Keep w.heap.size (· = g) w w' := by
  obtain ⟨h1, h2, h3, A, c, ev, hcap, hb, hf, hr⟩ := h
  obtain ⟨p, bad⟩ := s
  simp only [] at h2 hb hf
  have c0 : w.cell? ⟨g, 0, none⟩ = some (.slice A bs.length c) := hb.cell 0
  have c1 : w.cell? ⟨g, 1, none⟩ = some (.int .i64 p) := hb.cell 1
  have c2 : w.cell? ⟨g, 2, none⟩ = some (.iface 45 (.int .i64 rs)) := hb.cell 2
  have c3 : w.cell? ⟨g, 3, none⟩ = some ev := hb.cell 3
  have f3 := hb.frozen 3
  rcases hf with ⟨rfl, rfl⟩ | ⟨rfl, fb, pt, rfl, hfb⟩
  · have hba := hb.alloc (.cells #[.string part, .iface 45 (.int .i64 rs)] 81)
    have f3' := hba.frozen 3
    have c3' : (w.alloc (.cells #[.string part, .iface 45 (.int .i64 rs)] 81)).cell? ⟨g, 3, none⟩ = some .nilIface := hba.cell 3
    go_enter Tryd.func22, Tryd.ntmps22
    go_wp2
    all_goals go_end0
    all_goals exact ⟨rfl, ⟨h1, h2, h3, A, c, _, hcap, hba.set_ 3 _, Or.inr ⟨rfl, w.heap.size, part, rfl, (Blk.new w _ _).far (by have := hb.lt; simp; omega) _⟩, (hr.alloc _).setCell (fun _ e => h1 e) _⟩, ((Keep.refl _ _ w).alloc (Nat.le_refl _) _).own 3 _⟩
  · go_enter Tryd.func22, Tryd.ntmps22
    go_wp2
    all_goals go_end0
    all_goals exact ⟨rfl, ⟨h1, h2, h3, A, c, _, hcap, hb, Or.inr ⟨rfl, fb, pt, rfl, hfb⟩, hr⟩, Keep.refl _ _ _⟩

theorem rcount (g : Nat) (T : Nat → Prop) (bs : Bytes) (rs : Int) (s : St) (part : ByteArray) (w : World) (h : RRd w g T bs rs s) :
    Calls Tryd.prog 13 #[.pointer (some ⟨g, 0, none⟩), .string part] w fun e w' =>
      e = .returned (.int .i64 (rCount bs s).1) ∧ RRd w' g T bs rs (rCount bs s).2 ∧ Keep w.heap.size (· = g) w w' := by
  have HF := Lib.hid (fun W h => rfail g T bs rs s part W h)
  obtain ⟨h1, h2, h3, A, c, ev, hcap, hb, hf, hr⟩ := h
  obtain ⟨p, bad⟩ := s
  simp only [] at h2 hb hf
  have c0 : w.cell? ⟨g, 0, none⟩ = some (.slice A bs.length c) := hb.cell 0
  have c1 : w.cell? ⟨g, 1, none⟩ = some (.int .i64 p) := hb.cell 1
  have c3 : w.cell? ⟨g, 3, none⟩ = some ev := hb.cell 3
  have f1 := hb.frozen 1
  unfold rCount
  rcases hf with ⟨rfl, rfl⟩ | ⟨rfl, fb, pt, rfl, hfb⟩
  · rw [if_neg (by simp)]
    have HT := Lib.hid (fun (m : Nat) => tk A bs.length c bs T p (w.drewN m) hr h3 (by omega) (by omega))
    have hp := takeInt_good bs p
    simp only []
    cases ht : takeInt bs p with
    | err e =>
      simp only [Int.toNat_natCast, ht, Tk.v, Tk.n, Tk.e] at HT
      rw [ht] at hp
      have hp1 : 0 < e := hp.1
      clear ht hp
      have hE' : ((e : Int) != 0) = true := by simp; omega
      simp only []
      have hM : Hid (∀ k, RRd (w.drewN k) g T bs rs ⟨p, false⟩) := fun k => ⟨h1, h2, h3, A, c, _, hcap, hb.drewN k, Or.inl ⟨rfl, rfl⟩, hr.drewN k⟩
      go_enter Tryd.func13, Tryd.ntmps13
      go_wp2_with fail
      go_quiet ((go_at_call 21; exact quiet1 (HT.out _)))
      go_wp2_with fail
      refine (HF.out _ (hM.out _)).mono ?_
      rintro e2 w2 ⟨rfl, hM2, hk2⟩
      go_wp2
      go_ret
      exact ⟨rfl, hM2, ((Keep.refl w.heap.size (· = g) w).drewN nq).and hk2 (Nat.le_refl _) (fun _ _ h => h)⟩
    | ok v n =>
      simp only [Int.toNat_natCast, ht, Tk.v, Tk.n, Tk.e] at HT
      rw [ht] at hp
      obtain ⟨hv, hn1, hn2⟩ := hp
      clear ht
      simp only []
      go_enter Tryd.func13, Tryd.ntmps13
      go_wp2_with fail
      go_quiet ((go_at_call 21; exact quiet1 (HT.out _)))
      go_wp2
      go_ret
      exact ⟨rfl, ⟨h1, hn2, h3, A, c, _, hcap, (hb.drewN nq).set_ 1 _, Or.inl ⟨rfl, rfl⟩, (hr.drewN nq).setCell (fun _ e => h1 e) _⟩, ((Keep.refl _ _ _).drewN nq).own 1 _⟩
  · rw [if_pos rfl]
    go_enter Tryd.func13, Tryd.ntmps13
    go_wp2
    go_ret
    exact ⟨rfl, ⟨h1, h2, h3, A, c, _, hcap, hb, Or.inr ⟨rfl, fb, pt, rfl, hfb⟩, hr⟩, Keep.refl _ _ _⟩
end Go.Proofs.YtjdageiphebfpaaDoor

namespace Go.Proofs.YtjdageiphebfpaaDoor
open Go.RowKit
open Pl Mem

theorem rend (g : Nat) (T : Nat → Prop) (bs : Bytes) (rs : Int) (s : St) (w : World) (h : RRd w g T bs rs s) :
    Calls Tryd.prog 15 #[.pointer (some ⟨g, 0, none⟩)] w fun e w' => ∃ ev,
      e = .returned ev ∧ FlawIs w' rs (rEnd bs s) ev ∧ Keep w.heap.size (· = g) w w' := by
  have HF := Lib.hid (fun W part h => rfail g T bs rs s part W h)
  have hM := Lib.hid (fun k => show RRd (w.drewN k) g T bs rs s from h)
  obtain ⟨h1, h2, h3, A, c, ev, hcap, hb, hf, hr⟩ := h
  obtain ⟨p, bad⟩ := s
  simp only [] at h2 hb hf
  have c0 : w.cell? ⟨g, 0, none⟩ = some (.slice A bs.length c) := hb.cell 0
  have c1 : w.cell? ⟨g, 1, none⟩ = some (.int .i64 p) := hb.cell 1
  have c3 : w.cell? ⟨g, 3, none⟩ = some ev := hb.cell 3
  unfold rEnd
  by_cases hp : p = bs.length
  · have hd : ((p : Int) != bs.length) = false := by simp [hp]
    rw [decide_eq_false (by simp [hp]), Bool.or_false]
    clear hp
    have HE := Lib.hid hf
    clear hf
    go_enter Tryd.func15, Tryd.ntmps15
    go_wp2_with fail
    go_quiet (fail)
    go_wp2
    go_ret
    exact ⟨ev, rfl, HE.out, (Keep.refl _ _ _).drewN nq⟩
  · have hd : ((p : Int) != bs.length) = true := by simp; omega
    rw [decide_eq_true (by simp [hp]), Bool.or_true]
    clear hp hf
    go_enter Tryd.func15, Tryd.ntmps15
    go_wp2_with fail
    go_quiet (fail)
    go_wp2_with fail
    refine (HF.out _ _ (hM.out _)).mono ?_
    rintro e w1 ⟨rfl, ⟨_, _, _, A2, c2, ev2, _, hb2, hf2, _⟩, hk⟩
    have c32 : w1.cell? ⟨g, 3, none⟩ = some ev2 := hb2.cell 3
    have HE := Lib.hid hf2
    clear hf2
    go_wp2
    go_ret
    exact ⟨ev2, rfl, HE.out, ((Keep.refl w.heap.size (· = g) w).drewN nq).and hk (Nat.le_refl _) (fun _ _ h => h)⟩

theorem rBytes_p (b : Bytes) (s : St) (hs : s.p ≤ b.length) : (rBytes b s).2.p ≤ b.length := by
  have hc : (rCount b s).2.p ≤ b.length := by
    unfold rCount
    split
    · exact hs
    · split
      · exact hs
      · rename_i v n ht
        exact (takeInt_ok ht).2.2
  unfold rBytes
  split
  · exact hc
  · split
    · exact hc
    · simp only []; omega

theorem rbytes (g : Nat) (T : Nat → Prop) (bs : Bytes) (rs : Int) (s : St) (part : ByteArray) (w : World) (h : RRd w g T bs rs s) :
    Calls Tryd.prog 23 #[.pointer (some ⟨g, 0, none⟩), .string part] w fun e w' => ∃ A' c',
      e = .returned (.slice A' (rBytes bs s).1.length c') ∧ (rBytes bs s).1.length ≤ c' ∧ Rd w' T 1 A' (rBytes bs s).1.length (u8s (rBytes bs s).1) ∧ RRd w' g T bs rs (rBytes bs s).2 ∧ Keep w.heap.size (· = g) w w' := by
  have HC := Lib.hid (rcount g T bs rs s part w h)
  have HF := Lib.hid (fun s W h => rfail g T bs rs s part W h)
  have hlen := rBytes_p bs s h.2.1
  unfold rBytes at hlen ⊢
  generalize rCount bs s = r at HC hlen ⊢
  obtain ⟨x, p, bad⟩ := r
  simp only [] at HC hlen ⊢
  cases bad
  · rw [if_neg (by simp)] at hlen ⊢
    by_cases hx : bs.length - p < x
    · rw [if_pos hx]
      go_enter Tryd.func23, Tryd.ntmps23
      go_wp2_with fail
      refine HC.out.mono ?_
      rintro e w1 ⟨rfl, hM1, hk1⟩
      have HM := Lib.hid (fun k => show RRd (w1.drewN k) g T bs rs ⟨p, false⟩ from hM1)
      obtain ⟨h1, h2, h3, A, c, ev, hcap, hb, hf, hr⟩ := hM1
      simp only [] at h2 hb hf
      have hev : ev = .nilIface := by
        rcases hf with ⟨_, h⟩ | ⟨h, _⟩
        · exact h
        · cases h
      subst hev
      clear hf
      have c0 : w1.cell? ⟨g, 0, none⟩ = some (.slice A bs.length c) := hb.cell 0
      have c1 : w1.cell? ⟨g, 1, none⟩ = some (.int .i64 p) := hb.cell 1
      have c3 : w1.cell? ⟨g, 3, none⟩ = some .nilIface := hb.cell 3
      have hxI : (bs.length : Int) - p < x := by omega
      go_wp2_with fail
      go_quiet (fail)
      go_wp2_with fail
      refine (HF.out _ _ (HM.out _)).mono ?_
      rintro e w2 ⟨rfl, hM2, hk2⟩
      have HM2 := Lib.hid hM2
      obtain ⟨_, _, _, A2, c2, ev2, _, hb2, hf2, _⟩ := hM2
      have hev2 : ∃ fb, ev2 = .iface 79 (.pointer (some ⟨fb, 0, none⟩)) := by
        rcases hf2 with ⟨h, _⟩ | ⟨_, fb, _, h, _⟩
        · cases h
        · exact ⟨fb, h⟩
      obtain ⟨fb, rfl⟩ := hev2
      have c32 : w2.cell? ⟨g, 3, none⟩ = some (.iface 79 (.pointer (some ⟨fb, 0, none⟩))) := hb2.cell 3
      clear hf2
      go_wp2
      go_ret
      exact ⟨none, 0, rfl, Nat.le_refl _, Rd.nil_, HM2.out, (hk1.drewN nq).and hk2 hk1.size (fun _ _ h => h)⟩
    · rw [if_neg hx] at hlen ⊢
      simp only [] at hlen
      have hL : ((bs.drop p).take x).length = x := by rw [List.length_take, List.length_drop]; omega
      rw [hL]
      go_enter Tryd.func23, Tryd.ntmps23
      go_wp2_with fail
      refine HC.out.mono ?_
      rintro e w1 ⟨rfl, ⟨h1, h2, h3, A, c, ev, hcap, hb, hf, hr⟩, hk1⟩
      simp only [] at h2 hb hf
      have hev : ev = .nilIface := by
        rcases hf with ⟨_, h⟩ | ⟨h, _⟩
        · exact h
        · cases h
      subst hev
      clear hf
      have c0 : w1.cell? ⟨g, 0, none⟩ = some (.slice A bs.length c) := hb.cell 0
      have c1 : w1.cell? ⟨g, 1, none⟩ = some (.int .i64 p) := hb.cell 1
      have c3 : w1.cell? ⟨g, 3, none⟩ = some .nilIface := hb.cell 3
      have f1 := hb.frozen 1
      have hcut := hr.sub (p := p) (x := x) (c := c) (by omega) hcap
      have hxI : (x : Int) ≤ (bs.length : Int) - p := by omega
      go_wp2_with fail
      go_quiet (fail)
      have hw1 : IntKind.i64.wrap ((p : Int) + x) = (p : Int) + x := IntWalk.i64_in _ (by omega)
      have hw2 : (0 : Int) ≤ (p : Int) + x := by omega
      have hw3 : ((p : Int) + x).toNat = p + x := by omega
      have hw4 : (p : Int) + x ≤ (c : Int) := by omega
      go_wp2_with fail
      go_quiet (fail)
      clear hw1 hw3
      go_wp2
      · rename_i hcp
        go_ret
        have hcp' : c = p := by omega
        rw [if_pos hcp'] at hcut
        exact ⟨A, 0, rfl, by omega, ((hcut.drewN _).setCell (fun _ e => h1 e) _).drewN _, ⟨h1, hlen, h3, A, c, _, hcap, ((hb.drewN _).set_ 1 _).drewN _, Or.inl ⟨rfl, rfl⟩, ((hr.drewN _).setCell (fun _ e => h1 e) _).drewN _⟩, ((hk1.drewN _).own 1 _).drewN _⟩
      · rename_i hcp
        go_ret
        have hcp' : ¬ c = p := by omega
        rw [if_neg hcp'] at hcut
        exact ⟨_, c - p, rfl, by omega, ((hcut.drewN _).setCell (fun _ e => h1 e) _).drewN _, ⟨h1, hlen, h3, A, c, _, hcap, ((hb.drewN _).set_ 1 _).drewN _, Or.inl ⟨rfl, rfl⟩, ((hr.drewN _).setCell (fun _ e => h1 e) _).drewN _⟩, ((hk1.drewN _).own 1 _).drewN _⟩
  · rw [if_pos rfl]
    go_enter Tryd.func23, Tryd.ntmps23
    go_wp2_with fail
    refine HC.out.mono ?_
    rintro e w2 ⟨rfl, hM2, hk2⟩
    have HM2 := Lib.hid hM2
    obtain ⟨_, _, _, A2, c2, ev2, _, hb2, hf2, _⟩ := hM2
    have hev2 : ∃ fb, ev2 = .iface 79 (.pointer (some ⟨fb, 0, none⟩)) := by
      rcases hf2 with ⟨h, _⟩ | ⟨_, fb, _, h, _⟩
      · cases h
      · exact ⟨fb, h⟩
    obtain ⟨fb, rfl⟩ := hev2
    have c32 : w2.cell? ⟨g, 3, none⟩ = some (.iface 79 (.pointer (some ⟨fb, 0, none⟩))) := hb2.cell 3
    clear hf2
    go_wp2_with fail
    go_quiet (fail)
    go_wp2
    go_ret
    exact ⟨none, 0, rfl, Nat.le_refl _, Rd.nil_, HM2.out, hk2.drewN nq⟩
end Go.Proofs.YtjdageiphebfpaaDoor

namespace Go.Proofs.YtjdageiphebfpaaDoor
open Go.RowKit
open Pl Mem

namespace Pl
def rCmd (s : St) (b : Bytes) : Cmd × St := if s.bad = true then (zeroCmd, s) else (decV b, ⟨s.p, !decOk b⟩)
end Pl

theorem Blk.seven {w : World} {g : Nat} {t : TypeId} {a b c d e f k : Value} (h : Mem.Blk w g t #[a, b, c, d, e, f, k]) :
    (w.cell? ⟨g, 0, none⟩ = some a ∧ w.cell? ⟨g, 1, none⟩ = some b ∧ w.cell? ⟨g, 2, none⟩ = some c ∧ w.cell? ⟨g, 3, none⟩ = some d ∧ w.cell? ⟨g, 4, none⟩ = some e ∧ w.cell? ⟨g, 5, none⟩ = some f ∧ w.cell? ⟨g, 6, none⟩ = some k) ∧
    w.frozen? ⟨g, 0, none⟩ = false ∧ w.frozen? ⟨g, 1, none⟩ = false ∧ w.frozen? ⟨g, 2, none⟩ = false ∧ w.frozen? ⟨g, 3, none⟩ = false ∧ w.frozen? ⟨g, 4, none⟩ = false ∧ w.frozen? ⟨g, 5, none⟩ = false ∧ w.frozen? ⟨g, 6, none⟩ = false :=
  ⟨⟨h.cell 0, h.cell 1, h.cell 2, h.cell 3, h.cell 4, h.cell 5, h.cell 6⟩, h.frozen 0, h.frozen 1, h.frozen 2, h.frozen 3, h.frozen 4, h.frozen 5, h.frozen 6⟩
/-- A command is laid in its block. -/
def laidCmd (w : World) (g : Nat) (c : Cmd) : World :=
  ((((((w.setCell ⟨g, 0, none⟩ (.int .i64 c.client)).setCell ⟨g, 1, none⟩ (.int .i64 c.inc)).setCell ⟨g, 2, none⟩ (.int .i64 c.req)).setCell ⟨g, 3, none⟩ (.int .i64 c.op)).setCell ⟨g, 4, none⟩ (str c.key)).setCell ⟨g, 5, none⟩ (str c.val)).setCell ⟨g, 6, none⟩ (str c.old)
theorem laidCmd_blk {w : World} {g : Nat} {t : TypeId} {x0 x1 x2 x3 x4 x5 x6 : Value} (h : Mem.Blk w g t #[x0, x1, x2, x3, x4, x5, x6]) (c : Cmd) :
    Mem.Blk (laidCmd w g c) g t #[.int .i64 c.client, .int .i64 c.inc, .int .i64 c.req, .int .i64 c.op, str c.key, str c.val, str c.old] := by
  have h7 := ((((((h.set_ 0 (.int .i64 c.client)).set_ 1 (.int .i64 c.inc)).set_ 2 (.int .i64 c.req)).set_ 3 (.int .i64 c.op)).set_ 4 (str c.key)).set_ 5 (str c.val)).set_ 6 (str c.old)
  simpa [laidCmd] using h7
theorem laidCmd_keep {w0 w : World} {g B : Nat} {S : Nat → Prop} (h : Keep B S w0 w) (hg : B ≤ g) (c : Cmd) : Keep B S w0 (laidCmd w g c) :=
  ((((((h.new hg 0 _).new hg 1 _).new hg 2 _).new hg 3 _).new hg 4 _).new hg 5 _).new hg 6 _

theorem laidCmd_rrd {w : World} {g G : Nat} {T : Nat → Prop} {bs : Bytes} {rs : Int} {s : St} (h : RRd w g T bs rs s) (hT : G ≠ g) (hTG : G < w.heap.size → ¬ T G) (hF : ∀ cs, ¬ Mem.Blk w G 81 cs) (c : Cmd) : RRd (laidCmd w G c) g T bs rs s := by
  have hk : Keep w.heap.size (· = G) w (laidCmd w G c) := ((((((((Keep.refl w.heap.size (· = G) w).own 0 _).own 1 _).own 2 _).own 3 _).own 4 _).own 5 _).own 6 _)
  exact h.keep hk (Nat.le_refl _) (fun e => hT e.symm) (fun k hlt hT' e => by subst e; exact hTG hlt hT') (fun fb cs hb e => by subst e; exact hF _ hb)

theorem RRd.more {w : World} {g : Nat} {T T' : Nat → Prop} {bs : Bytes} {rs : Int} {s : St} (h : RRd w g T bs rs s) (hg : ¬ T' g) (hT : ∀ k, k < w.heap.size → T k → T' k) : RRd w g T' bs rs s := by
  obtain ⟨_, h2, h3, A, c, ev, hc, hb, hf, hr⟩ := h
  exact ⟨hg, h2, h3, A, c, ev, hc, hb, hf, hr.more hT⟩
theorem rcommand (g : Nat) (T : Nat → Prop) (bs : Bytes) (rs : Int) (s : St) (A : Option Addr) (n c : Nat) (b : Bytes) (T' : Nat → Prop) (w : World) (h : RRd w g T bs rs s) (e : Env w) (hr : Rd w T' 1 A n (u8s b)) (hn : n ≤ 281474976710656) (hc : n ≤ c) :
    Calls Tryd.prog 25 #[.pointer (some ⟨g, 0, none⟩), .slice A n c] w fun e w' =>
      e = .returned (cmdV (rCmd s b).1) ∧ RRd w' g T bs rs (rCmd s b).2 ∧ Keep w.heap.size (· = g) w w' := by
  have HF := Lib.hid (fun W part h => rfail g (fun k => T k ∧ k < w.heap.size) bs rs s part W h)
  have HD := Lib.hid (cdecode A n c b T' (w.alloc (.cells #[.int .i64 0, .int .i64 0, .int .i64 0, .int .i64 0, .string ⟨#[]⟩, .string ⟨#[]⟩, .string ⟨#[]⟩] 57)) (e.keep (S := fun _ => False) ((Keep.refl w.heap.size _ w).alloc (Nat.le_refl _) _) e.size (fun _ _ h => h)) (hr.alloc _) hn hc)
  have hM := Lib.hid (h.more (T' := fun k => T k ∧ k < w.heap.size) (fun e => h.1 e.1) (fun k hk hT => ⟨hT, hk⟩))
  have hTT : Hid (¬ T g) := h.1
  obtain ⟨h1, h2, h3, A0, c', ev, hcap, hb, hf, hr0⟩ := h
  have hE := Lib.hid e
  clear e hr
  obtain ⟨p, bad⟩ := s
  simp only [] at h2 hb hf
  have c3 : w.cell? ⟨g, 3, none⟩ = some ev := hb.cell 3
  have hba := hb.alloc (.cells #[.int .i64 0, .int .i64 0, .int .i64 0, .int .i64 0, .string ⟨#[]⟩, .string ⟨#[]⟩, .string ⟨#[]⟩] 57)
  have c3a : (w.alloc (.cells #[.int .i64 0, .int .i64 0, .int .i64 0, .int .i64 0, .string ⟨#[]⟩, .string ⟨#[]⟩, .string ⟨#[]⟩] 57)).cell? ⟨g, 3, none⟩ = some ev := hba.cell 3
  unfold rCmd
  rcases hf with ⟨rfl, rfl⟩ | ⟨rfl, fb, pt, rfl, hfb⟩
  · rw [if_neg (by simp)]
    have hg := hb.lt
    cases hd : decOk b with
    | true =>
      have he : ((decE b : Nat) : Int) = 0 := by unfold decE; rw [hd]; rfl
      rw [he] at HD
      clear he
      have hdd := Lib.hid hd
      clear hd
      unfold cmdV at HD
      go_enter Tryd.func25, Tryd.ntmps25
      go_wp2_with fail
      refine HD.out.mono ?_
      rintro e2 w2 ⟨rfl, hb2⟩
      have hbc : Blk w2 w.heap.size 57 #[.int .i64 0, .int .i64 0, .int .i64 0, .int .i64 0, .string ⟨#[]⟩, .string ⟨#[]⟩, .string ⟨#[]⟩] := (Blk.new w _ _).below hb2 (by simp)
      have hbg := hba.below hb2 hba.lt
      have hk2 : Keep w.heap.size (· = g) w w2 := ((Keep.refl w.heap.size (· = g) w).alloc (Nat.le_refl _) _).and (Keep.of_below (S := fun _ => False) hb2) (by simp) (fun _ _ h => h.elim)
      clear hba c3a
      have hbca := hbc.alloc (.cells #[.int .i64 (decV b).client, .int .i64 (decV b).inc, .int .i64 (decV b).req, .int .i64 (decV b).op, str (decV b).key, str (decV b).val, str (decV b).old] 57)
      have hbga := hbg.alloc (.cells #[.int .i64 (decV b).client, .int .i64 (decV b).inc, .int .i64 (decV b).req, .int .i64 (decV b).op, str (decV b).key, str (decV b).val, str (decV b).old] 57)
      have hL := laidCmd_blk hbca (decV b)
      obtain ⟨⟨z0, z1, z2, z3, z4, z5, z6⟩, y0, y1, y2, y3, y4, y5, y6⟩ := Blk.seven hbca
      simp only [str] at z0 z1 z2 z3 z4 z5 z6 y0 y1 y2 y3 y4 y5 y6 ⊢
      go_wp2
      have hkL := laidCmd_keep (((((Keep.refl w.heap.size (fun _ => False) w).alloc (Nat.le_refl _) _).and (Keep.of_below (S := fun _ => False) hb2) (by simp) (fun _ _ h => h))).alloc (by have := hb2.size; simp at this; omega) (.cells #[.int .i64 (decV b).client, .int .i64 (decV b).inc, .int .i64 (decV b).req, .int .i64 (decV b).op, str (decV b).key, str (decV b).val, str (decV b).old] 57)) (Nat.le_refl _) (decV b)
      change bodyPost _ _ _ _ _ (laidCmd (w2.alloc (.cells #[.int .i64 (decV b).client, .int .i64 (decV b).inc, .int .i64 (decV b).req, .int .i64 (decV b).op, str (decV b).key, str (decV b).val, str (decV b).old] 57)) w.heap.size (decV b))
      generalize laidCmd (w2.alloc (.cells #[.int .i64 (decV b).client, .int .i64 (decV b).inc, .int .i64 (decV b).req, .int .i64 (decV b).op, str (decV b).key, str (decV b).val, str (decV b).old] 57)) w.heap.size (decV b) = WF at hL hkL ⊢
      obtain ⟨⟨u0, u1, u2, u3, u4, u5, u6⟩, _⟩ := Blk.seven hL
      simp only [str] at u0 u1 u2 u3 u4 u5 u6
      refine bodyPost_ret (v := cmdV (decV b)) (by simp [results, Tryd.results25, go_sem, u0, u1, u2, u3, u4, u5, u6, cmdV, str]) rfl ⟨rfl, (hM.out.keep hkL (Nat.le_refl _) (fun h => h) (fun _ _ _ h => h) (fun _ _ _ h => h)).more hTT.out (fun _ _ h => h.1), hkL.mono (Nat.le_refl _) (fun _ _ h => h.elim)⟩
    | false =>
      have he : ((decE b : Nat) : Int) = 130 := by unfold decE; rw [hd]; rfl
      rw [he] at HD
      clear he
      have hdd := Lib.hid hd
      clear hd
      unfold cmdV at HD
      go_enter Tryd.func25, Tryd.ntmps25
      go_wp2_with fail
      refine HD.out.mono ?_
      rintro e2 w2 ⟨rfl, hb2⟩
      have hbc : Blk w2 w.heap.size 57 #[.int .i64 0, .int .i64 0, .int .i64 0, .int .i64 0, .string ⟨#[]⟩, .string ⟨#[]⟩, .string ⟨#[]⟩] := (Blk.new w _ _).below hb2 (by simp)
      have hk3 := (((((Keep.refl w.heap.size (fun _ => False) w).alloc (Nat.le_refl _) _).and (Keep.of_below (S := fun _ => False) hb2) (by simp) (fun _ _ h => h))).alloc (by have := hb2.size; simp at this; omega) (.cells #[.int .i64 (decV b).client, .int .i64 (decV b).inc, .int .i64 (decV b).req, .int .i64 (decV b).op, str (decV b).key, str (decV b).val, str (decV b).old] 57))
      have hbca := hbc.alloc (.cells #[.int .i64 (decV b).client, .int .i64 (decV b).inc, .int .i64 (decV b).req, .int .i64 (decV b).op, str (decV b).key, str (decV b).val, str (decV b).old] 57)
      have hcc := Blk.new w2 57 #[.int .i64 (decV b).client, .int .i64 (decV b).inc, .int .i64 (decV b).req, .int .i64 (decV b).op, str (decV b).key, str (decV b).val, str (decV b).old]
      have HR := Lib.hid (hM.out.keep hk3 (Nat.le_refl _) (fun h => h) (fun _ _ _ h => h) (fun _ _ _ h => h))
      have hsz2 := hb2.size
      simp at hsz2
      clear hba c3a
      obtain ⟨⟨z0, z1, z2, z3, z4, z5, z6⟩, y0, y1, y2, y3, y4, y5, y6⟩ := Blk.seven hbca
      obtain ⟨⟨v0, v1, v2, v3, v4, v5, v6⟩, _⟩ := Blk.seven hcc
      simp only [str] at z0 z1 z2 z3 z4 z5 z6 y0 y1 y2 y3 y4 y5 y6 v0 v1 v2 v3 v4 v5 v6 HR ⊢
      go_wp2_with fail
      refine (HF.out _ _ HR.out).mono ?_
      rintro e4 w4 ⟨rfl, hM4, hk4⟩
      have hb4 : Blk w4 w.heap.size 57 #[.int .i64 0, .int .i64 0, .int .i64 0, .int .i64 0, .string ⟨#[]⟩, .string ⟨#[]⟩, .string ⟨#[]⟩] := hbca.keep hk4 hbca.lt (by omega)
      have hc4 := hcc.keep hk4 hcc.lt (by omega)
      have hk04 : Keep w.heap.size (· = g) w w4 := (hk3.mono (S' := (· = g)) (Nat.le_refl _) (fun _ _ h => h.elim)).and hk4 (by simp; omega) (fun _ _ h => h)
      clear z0 z1 z2 z3 z4 z5 z6 y0 y1 y2 y3 y4 y5 y6 v0 v1 v2 v3 v4 v5 v6
      have hL := laidCmd_blk hb4 (decV b)
      have hkL := laidCmd_keep hk04 (Nat.le_refl _) (decV b)
      have hkR := laidCmd_keep (Keep.refl w.heap.size (fun _ => False) w4) (Nat.le_refl _) (decV b)
      have hRL := laidCmd_rrd (G := w.heap.size) hM4 (by omega) (fun _ hT => by omega) (fun cs hcs => hcs.ne_ hb4 (by decide) rfl) (decV b)
      have HM4 := Lib.hid hRL
      clear hM4 hRL hk4 hb2 hbc hbca hcc
      obtain ⟨⟨z0, z1, z2, z3, z4, z5, z6⟩, y0, y1, y2, y3, y4, y5, y6⟩ := Blk.seven hb4
      obtain ⟨⟨v0, v1, v2, v3, v4, v5, v6⟩, _⟩ := Blk.seven hc4
      simp only [str] at z0 z1 z2 z3 z4 z5 z6 y0 y1 y2 y3 y4 y5 y6 v0 v1 v2 v3 v4 v5 v6
      go_wp2
      change bodyPost _ _ _ _ _ (laidCmd w4 w.heap.size (decV b))
      generalize laidCmd w4 w.heap.size (decV b) = WF at hL hkL hkR HM4 ⊢
      obtain ⟨⟨u0, u1, u2, u3, u4, u5, u6⟩, _⟩ := Blk.seven hL
      simp only [str] at u0 u1 u2 u3 u4 u5 u6
      refine bodyPost_ret (v := cmdV (decV b)) (by simp [results, Tryd.results25, go_sem, u0, u1, u2, u3, u4, u5, u6, cmdV, str]) rfl ⟨rfl, HM4.out.more hTT.out (fun _ _ h => h.1), hkL⟩
  · rw [if_pos rfl]
    go_enter Tryd.func25, Tryd.ntmps25
    obtain ⟨⟨u0, u1, u2, u3, u4, u5, u6⟩, y0, y1, y2, y3, y4, y5, y6⟩ := Blk.seven (Blk.new w 57 #[.int .i64 0, .int .i64 0, .int .i64 0, .int .i64 0, .string ⟨#[]⟩, .string ⟨#[]⟩, .string ⟨#[]⟩])
    go_wp2
    have hkz := (Keep.refl w.heap.size (fun _ => False) w).alloc (Nat.le_refl _) (.cells #[.int .i64 0, .int .i64 0, .int .i64 0, .int .i64 0, .string ⟨#[]⟩, .string ⟨#[]⟩, .string ⟨#[]⟩] 57)
    refine bodyPost_ret (v := cmdV zeroCmd) (by simp [results, Tryd.results25, go_sem, u0, u1, u2, u3, u4, u5, u6, cmdV, str, zeroCmd]) rfl ⟨rfl, (hM.out.keep hkz (Nat.le_refl _) (fun h => h) (fun _ _ _ h => h) (fun _ _ _ h => h)).more hTT.out (fun _ _ h => h.1), hkz.mono (Nat.le_refl _) (fun _ _ h => h.elim)⟩
end Go.Proofs.YtjdageiphebfpaaDoor

namespace Go.Proofs.YtjdageiphebfpaaDoor
namespace Pl
open Go

structure GSt where
  st : St
  tail : List Cmd
def gStep (b : Bytes) (x : GSt) : GSt := ⟨(rCmd (rBytes b x.st).2 (rBytes b x.st).1).2, x.tail ++ [(rCmd (rBytes b x.st).2 (rBytes b x.st).1).1]⟩
/-- n entries; at a flaw it stops. -/
def gIter (b : Bytes) : Nat → GSt → GSt
  | 0, x => x
  | q + 1, x => if x.st.bad = true then x else gIter b q (gStep b x)
def gEp (b : Bytes) (s : St) : Nat × St := rCount b s
def gBase (b : Bytes) (s : St) : Nat × St := rCount b (gEp b s).2
def gSnap (b : Bytes) (s : St) : Bytes × St := rBytes b (gBase b s).2
def gSt4 (b : Bytes) (s : St) : St := if (gSnap b s).2.bad = true then (gSnap b s).2 else ⟨(gSnap b s).2.p, !resOk (gSnap b s).1⟩
def gN (b : Bytes) (s : St) : Nat × St := rCount b (gSt4 b s)
def gSt6 (b : Bytes) (s : St) : St := if 16 < (gN b s).1 then ⟨(gN b s).2.p, true⟩ else (gN b s).2
def gX (b : Bytes) (s : St) : GSt := gIter b (gN b s).1 ⟨gSt6 b s, []⟩
def gOut (b : Bytes) (s : St) : St := ⟨(gX b s).st.p, (gX b s).st.bad || decide (4611686018427387904 < (gBase b s).1 + (gX b s).tail.length)⟩

theorem rCount_p (b : Bytes) (s : St) (hs : s.p ≤ b.length) : (rCount b s).2.p ≤ b.length := by
  unfold rCount
  split
  · exact hs
  · split
    · exact hs
    · rename_i v n ht
      exact (takeInt_ok ht).2.2
theorem rCount_le (b : Bytes) (s : St) : (rCount b s).1 ≤ 4611686018427387904 := by
  unfold rCount
  split
  · omega
  · split
    · simp
    · rename_i v n ht
      exact (takeInt_ok ht).1
theorem rBytes_len (b : Bytes) (s : St) (hs : s.p ≤ b.length) : (rBytes b s).1.length ≤ b.length := by
  have hc := rCount_p b s hs
  unfold rBytes
  split
  · simp
  · split
    · simp
    · simp only [List.length_take, List.length_drop]; omega
theorem gIter_bad (b : Bytes) (n : Nat) (x : GSt) (h : x.st.bad = true) : gIter b n x = x := by
  cases n with
  | zero => rfl
  | succ n => simp only [gIter, h, if_true]
theorem gIter_tail (b : Bytes) (n : Nat) (x : GSt) : (gIter b n x).tail.length ≤ x.tail.length + n := by
  induction n generalizing x with
  | zero => exact Nat.le_refl _
  | succ n ih =>
    unfold gIter
    split
    · omega
    · have := ih (gStep b x)
      have h2 : (gStep b x).tail.length = x.tail.length + 1 := by simp [gStep]
      omega
end Pl
end Go.Proofs.YtjdageiphebfpaaDoor
