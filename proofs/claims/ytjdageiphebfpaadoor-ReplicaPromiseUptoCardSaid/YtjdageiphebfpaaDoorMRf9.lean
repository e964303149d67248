/- The reference's Sum and Seal. -/
import Derived.Test.YtjdageiphebfpaaDoorMRf
import Derived.Test.YtjdageiphebfpaaDoorMBase
import Derived.Test.YtjdageiphebfpaaDoorMMach
namespace Go.Proofs.YtjdageiphebfpaaDoor
open Go.RowKit
open Pl Mem

namespace Ar
theorem xor64 (a b : Nat) (ha : a < 9223372036854775808) (hb : b < 9223372036854775808) : bits .xor .i64 (a : Int) (b : Int) = ((a ^^^ b : Nat) : Int) := by
  have hx : a ^^^ b < 2 ^ 63 := Nat.xor_lt_two_pow (by omega) (by omega)
  show IntKind.i64.wrap ((BitVec.ofInt 64 (a : Int) ^^^ BitVec.ofInt 64 (b : Int)).toNat : Int) = _
  rw [BitVec.toNat_xor, ofInt64 a ha, ofInt64 b hb, IntKind.wrap_i64]
  omega
end Ar
namespace Pl
theorem rBit_lt {v : Nat} (h : v < 4294967296) : rBit v < 4294967296 := by
  unfold rBit
  split
  · exact Nat.xor_lt_two_pow (n := 32) (by omega) (by omega)
  · omega
theorem rByte_snoc (w : Nat) (l : Bytes) (k : Nat) (h : k < l.length) : crcR w (l.take (k + 1)) = rByte (crcR w (l.take k)) l[k] := by
  unfold crcR
  rw [List.take_succ_eq_append_getElem h, List.foldl_append]
  rfl
theorem crcR_lt (l : Bytes) : crcR 4294967295 l < 4294967296 := by
  have h1 : (BitVec.allOnes 32).toNat = 4294967295 := by decide
  have h2 := crcR_eq l (BitVec.allOnes 32)
  rw [h1] at h2
  rw [h2]
  exact (crcN (BitVec.allOnes 32) l).isLt
end Pl

set_option maxHeartbeats 1000000 in
set_option maxRecDepth 100000 in
theorem nsum (A : Option Addr) (n c : Nat) (bs : Bytes) (T : Nat → Prop) (w : World) (hr : Rd w T 1 A n (u8s bs)) (hn : n ≤ 281474976710656) :
    Calls Tryd.prog 42 #[.slice A n c] w fun e w' => e = .returned (.int .i64 (crc bs)) ∧ w' = w := by
  have hb := hr.len8
  subst hb
  have HC := Lib.hid (crc_eq bs)
  go_enter Tryd.func42, Tryd.ntmps42
  go_wp2
  go_loop [3, 4] (fun x i => ∃ k v : Nat, k ≤ bs.length ∧ v < 4294967296 ∧ i = .int .i64 k ∧ x = .int .i64 v ∧ Hid (crcR 4294967295 (bs.take k) = v)) (fun _ i => bs.length - (intOf i).toNat)
  case atStart => exact ⟨0, 4294967295, by omega, by omega, rfl, rfl, rfl⟩
  case round =>
    obtain ⟨k, v, hk, hv, rfl, rfl, H⟩ := hrel
    by_cases hl : k < bs.length
    · obtain ⟨ad, rfl, _, _, hc⟩ := hr.byte hl
      have HS := Lib.hid (rByte_snoc 4294967295 bs k hl)
      generalize bs[k] = y at hc HS
      have hx : y.toNat < 256 := y.toNat_lt
      have hxor := Ar.xor64 v y.toNat (by omega) (by omega)
      have hlt : v ^^^ y.toNat < 4294967296 := Nat.xor_lt_two_pow (n := 32) (by omega) (by omega)
      have HR : Hid (crcR 4294967295 (bs.take (k + 1)) = rBits 8 (v ^^^ y.toNat)) := by show _ = _; rw [HS.out, H.out]; rfl
      clear HS
      go_wp2
      clear hxor
      generalize v ^^^ y.toNat = u at *
      go_loop [3, 5] (fun x i => ∃ j z : Nat, j ≤ 8 ∧ z < 4294967296 ∧ i = .int .i64 j ∧ x = .int .i64 z ∧ Hid (rBits 8 u = rBits (8 - j) z)) (fun _ i => 8 - (intOf i).toNat)
      case atStart => exact ⟨0, u, by omega, hlt, rfl, rfl, rfl⟩
      case round =>
        obtain ⟨j, z, hj, hz, rfl, rfl, HJ⟩ := hrel
        by_cases h8 : j < 8
        · have HN : Hid (rBits 8 u = rBits (8 - (j + 1)) (rBit z)) := by show _ = _; rw [HJ.out, show 8 - j = (8 - (j + 1)) + 1 by omega]; rfl
          have hbl := rBit_lt hz
          by_cases ho : z % 2 = 1
          · have hB : Hid (rBit z = (z / 2) ^^^ 3988292384) := by show rBit z = _; unfold rBit; rw [if_pos ho]
            have hxor : bits .xor .i64 ((z : Int) / 2) 3988292384 = ((z / 2 ^^^ 3988292384 : Nat) : Int) := Ar.xor64 (z / 2) 3988292384 (by omega) (by omega)
            have hi : ((z : Int) % 2 == 1) = true := by simp; omega
            go_wp2
            go_round
            case rel => exact ⟨j + 1, rBit z, by omega, hbl, by go_num, by rw [hB.out], HN⟩
            case measure => simp [intOf]; omega
          · have hB : Hid (rBit z = z / 2) := by show rBit z = _; unfold rBit; rw [if_neg ho]
            have hi : ((z : Int) % 2 == 1) = false := by simp; omega
            go_wp2
            go_round
            case rel => exact ⟨j + 1, rBit z, by omega, hbl, by go_num, by rw [hB.out]; rfl, HN⟩
            case measure => simp [intOf]; omega
        · obtain rfl : j = 8 := by omega
          have HZ : Hid (rBits 8 u = z) := HJ.out
          clear HJ
          go_wp2
          go_round
          case rel => exact ⟨k + 1, z, by omega, hz, by go_num, rfl, by show _ = _; rw [HR.out, HZ.out]⟩
          case measure => simp [intOf]; omega
    · obtain rfl : k = bs.length := by omega
      have hE : Hid (v ^^^ 4294967295 = crc bs) := by
        have := H.out
        rw [List.take_length] at this
        show _ = _
        rw [← this]; exact HC.out
      have hxor : bits .xor .i64 (v : Int) 4294967295 = ((v ^^^ 4294967295 : Nat) : Int) := Ar.xor64 v 4294967295 (by omega) (by omega)
      go_wp2
      go_ret
      exact ⟨by rw [hE.out]; rfl, rfl⟩

namespace Pl
def sumR (b : Bytes) : Nat := (b.getD (b.length - 4) 0).toNat + 256 * (b.getD (b.length - 4 + 1) 0).toNat + 65536 * (b.getD (b.length - 4 + 2) 0).toNat + 16777216 * (b.getD (b.length - 4 + 3) 0).toNat
theorem seal_plain (s x0 x1 x2 x3 : Nat) (hlt : s < 4294967296) (h0 : x0 < 256) (h1 : x1 < 256) (h2 : x2 < 256) (h3 : x3 < 256) : s = x0 + 256 * x1 + 65536 * x2 + 16777216 * x3 ↔ x0 = s / 256 ^ 0 % 256 ∧ x1 = s / 256 ^ 1 % 256 ∧ x2 = s / 256 ^ 2 % 256 ∧ x3 = s / 256 ^ 3 % 256 := by
  constructor
  · intro h
    refine ⟨?_, ?_, ?_, ?_⟩ <;> omega
  · rintro ⟨a0, a1, a2, a3⟩
    omega
theorem sealR_eq (b : Bytes) : decide (crc (b.take (b.length - 4)) = sumR b) = decide (sealP b 4) := by
  rw [decide_eq_decide]
  unfold sumR
  rw [seal_plain _ _ _ _ _ (crc_lt _) (b.getD (b.length - 4) 0).toNat_lt (b.getD (b.length - 4 + 1) 0).toNat_lt (b.getD (b.length - 4 + 2) 0).toNat_lt (b.getD (b.length - 4 + 3) 0).toNat_lt]
  constructor
  · rintro ⟨a0, a1, a2, a3⟩ i hi
    have : i = 0 ∨ i = 1 ∨ i = 2 ∨ i = 3 := by omega
    rcases this with rfl | rfl | rfl | rfl
    · exact a0
    · exact a1
    · exact a2
    · exact a3
  · intro h
    exact ⟨h 0 (by omega), h 1 (by omega), h 2 (by omega), h 3 (by omega)⟩
end Pl

set_option maxRecDepth 100000 in
theorem nseal (A : Option Addr) (L c : Nat) (bs : Bytes) (T : Nat → Prop) (w : World) (hr : Rd w T 1 A L (u8s bs)) (hn : L ≤ 281474976710656) (hcap : L ≤ c) (h4 : 4 ≤ L) :
    Calls Tryd.prog 30 #[.slice A L c] w fun e w' => e = .returned (.bool (decide (sealP bs 4))) ∧ ∃ m, w' = w.drewN m := by
  have hl := hr.len8
  rw [← sealR_eq]
  unfold sumR
  rw [hl]
  obtain ⟨n, hL⟩ : ∃ n, n = L - 4 := ⟨_, rfl⟩
  rw [← hL]
  have hL4 : (L : Int) - 4 = n := by omega
  obtain ⟨ad, rfl, k0⟩ := Rd.byteD hr (k := n) (by omega)
  obtain ⟨ad', e', k1⟩ := Rd.byteD hr (k := n + 1) (by omega)
  cases e'
  rw [show ad.add (n + 1) = ⟨ad.block, ad.off + (n + 1), none⟩ from by simp [Addr.add]] at k1
  obtain ⟨ad', e', k2⟩ := Rd.byteD hr (k := n + 2) (by omega)
  cases e'
  rw [show ad.add (n + 2) = ⟨ad.block, ad.off + (n + 2), none⟩ from by simp [Addr.add]] at k2
  obtain ⟨ad', e', k3⟩ := Rd.byteD hr (k := n + 3) (by omega)
  cases e'
  rw [show ad.add (n + 3) = ⟨ad.block, ad.off + (n + 3), none⟩ from by simp [Addr.add]] at k3
  have HS := Lib.hid (nsum (some ad) n c (bs.take n) T w (hr.take8 (by omega)) (by omega))
  have b0 := (bs.getD n 0).toNat_lt
  have b1 := (bs.getD (n + 1) 0).toNat_lt
  have b2 := (bs.getD (n + 2) 0).toNat_lt
  have b3 := (bs.getD (n + 3) 0).toNat_lt
  generalize crc (bs.take n) = s at HS ⊢
  generalize (bs.getD n 0).toNat = x0 at k0 b0 ⊢
  generalize (bs.getD (n + 1) 0).toNat = x1 at k1 b1 ⊢
  generalize (bs.getD (n + 2) 0).toNat = x2 at k2 b2 ⊢
  generalize (bs.getD (n + 3) 0).toNat = x3 at k3 b3 ⊢
  obtain ⟨d, hd⟩ : ∃ d, d = decide (s = x0 + 256 * x1 + 65536 * x2 + 16777216 * x3) := ⟨_, rfl⟩
  rw [← hd]
  have HD := Lib.hid hd
  clear hd
  have hz : (0 : Int) ≤ n := by omega
  have hz1 : (0 : Int) ≤ (n : Int) + 1 := by omega
  have hz2 : (0 : Int) ≤ (n : Int) + 2 := by omega
  have hz3 : (0 : Int) ≤ (n : Int) + 3 := by omega
  have hl0 : (n : Int) < L := by omega
  have hl1 : (n : Int) + 1 < L := by omega
  have hl2 : (n : Int) + 2 < L := by omega
  have hl3 : (n : Int) + 3 < L := by omega
  have hs0 : (n : Int) ≤ c := by omega
  clear hl hr hL
  go_enter Tryd.func30, Tryd.ntmps30
  go_wp2_with fail
  refine HS.out.mono ?_
  rintro e w1 ⟨rfl, rfl⟩
  clear HS
  go_wp2_with fail
  have hw1 : IntKind.i64.wrap ((n : Int) + 1) = (n : Int) + 1 := IntWalk.i64_in _ (by omega)
  have hw2 : IntKind.i64.wrap ((n : Int) + 2) = (n : Int) + 2 := IntWalk.i64_in _ (by omega)
  have hw3 : IntKind.i64.wrap ((n : Int) + 3) = (n : Int) + 3 := IntWalk.i64_in _ (by omega)
  have ht1 : ((n : Int) + 1).toNat = n + 1 := by omega
  have ht2 : ((n : Int) + 2).toNat = n + 2 := by omega
  have ht3 : ((n : Int) + 3).toNat = n + 3 := by omega
  have hm1 : IntKind.i64.wrap (256 * (x1 : Int)) = 256 * (x1 : Int) := IntWalk.i64_in _ (by omega)
  have hm2 : IntKind.i64.wrap (65536 * (x2 : Int)) = 65536 * (x2 : Int) := IntWalk.i64_in _ (by omega)
  have hm3 : IntKind.i64.wrap (16777216 * (x3 : Int)) = 16777216 * (x3 : Int) := IntWalk.i64_in _ (by omega)
  have ha1 : IntKind.i64.wrap ((x0 : Int) + 256 * (x1 : Int)) = (x0 : Int) + 256 * (x1 : Int) := IntWalk.i64_in _ (by omega)
  have ha2 : IntKind.i64.wrap ((x0 : Int) + 256 * (x1 : Int) + 65536 * (x2 : Int)) = (x0 : Int) + 256 * (x1 : Int) + 65536 * (x2 : Int) := IntWalk.i64_in _ (by omega)
  have ha3 : IntKind.i64.wrap ((x0 : Int) + 256 * (x1 : Int) + 65536 * (x2 : Int) + 16777216 * (x3 : Int)) = (x0 : Int) + 256 * (x1 : Int) + 65536 * (x2 : Int) + 16777216 * (x3 : Int) := IntWalk.i64_in _ (by omega)
  have hi0 : IntKind.i64.wrap (x0 : Int) = x0 := IntWalk.i64_in _ (by omega)
  have hi1 : IntKind.i64.wrap (x1 : Int) = x1 := IntWalk.i64_in _ (by omega)
  have hi2 : IntKind.i64.wrap (x2 : Int) = x2 := IntWalk.i64_in _ (by omega)
  have hi3 : IntKind.i64.wrap (x3 : Int) = x3 := IntWalk.i64_in _ (by omega)
  clear hL4
  go_quiet (fail)
  clear hw1 hw2 hw3 ht1 ht2 ht3 hm1 hm2 hm3 ha1 ha2 ha3 hi0 hi1 hi2 hi3
  by_cases hq : s = x0 + 256 * x1 + 65536 * x2 + 16777216 * x3
  · have hE : ((s : Int) == (x0 : Int) + 256 * x1 + 65536 * x2 + 16777216 * x3) = true := by simp; omega
    have HF : Hid (d = true) := HD.out.trans (decide_eq_true hq)
    clear hq HD
    go_wp2
    go_ret
    exact ⟨by rw [HF.out]; rfl, _, rfl⟩
  · have hE : ((s : Int) == (x0 : Int) + 256 * x1 + 65536 * x2 + 16777216 * x3) = false := by simp; omega
    have HF : Hid (d = false) := HD.out.trans (decide_eq_false hq)
    clear hq HD
    go_wp2
    go_ret
    exact ⟨by rw [HF.out]; rfl, _, rfl⟩
end Go.Proofs.YtjdageiphebfpaaDoor
