/- What times (at a power of x) and Join (a size of 0 to 1000000) of package crc compute. -/
import Derived.Test.YtfpoefacdnddoaaCrcW
namespace Go.Proofs.Ytfpoefacdnddoaa
open Go.RowKit

theorem u32_eq {a b : Int} (h : a = b) : Value.int .u32 a = Value.int .u32 b := by rw [h]
theorem tm_zero (f b out : Nat) : Crc.tm f 0 b out = out := by cases f <;> simp [Crc.tm]

set_option maxRecDepth 100000 in
set_option maxHeartbeats 400000 in
theorem times_any (a k : Nat) (ha : a < 4294967296) (w : World) :
    Calls Try.prog 10 #[.int .u32 (a : Int), .int .u32 ((Crc.halfs k 2147483648 : Nat) : Int)] w fun e w' => e = .returned (.int .u32 ((Crc.halfs k a : Nat) : Int)) ∧ w = w' := by
  have hall := Crc.tm_all k a ha
  have HA := Lib.hid hall; clear hall
  go_enter Try.func10, Try.ntmps10
  go_wp2
  go_loopg [0, 1, 5] 32 (fun g x y z wr => w = wr ∧ ∃ (j a' o : Nat), g ≤ 32 ∧ a' < 4294967296 ∧ o < 4294967296 ∧ x = .int .u32 (a' : Int) ∧ y = .int .u32 ((Crc.halfs j 2147483648 : Nat) : Int) ∧ z = .int .u32 (o : Int) ∧
    Hid (a' % 2 ^ (32 - g) = 0) ∧ Hid (Crc.tm g a' (Crc.halfs j 2147483648) o = Crc.halfs k a))
  case atStart => exact ⟨rfl, k, a, 0, by omega, ha, by omega, rfl, rfl, rfl, Lib.hid (by simp [Nat.mod_one]), HA⟩
  case round =>
    obtain ⟨rfl, j, a', o, hg, ha', ho, rfl, rfl, rfl, hm, ht⟩ := hrel
    by_cases h0 : a' = 0
    · subst h0
      have hres : o = Crc.halfs k a := by rw [← ht.out, tm_zero]
      go_wp2
      go_ret
      exact ⟨ret_u32 (by rw [hres]), rfl⟩
    · obtain ⟨f, rfl⟩ : ∃ f, gk = f + 1 := by
        rcases Nat.eq_zero_or_pos gk with h | h
        · subst h
          have := hm.out
          rw [Nat.mod_eq_of_lt (by simpa using ha')] at this
          exact absurd this h0
        · exact ⟨gk - 1, by omega⟩
      have hb := Crc.halfs_lt j (a := 2147483648) (by omega)
      have hx := xor_u32 o (Crc.halfs j 2147483648) ho hb
      have hd0 : ((a' : Int) != 0) = true := by rw [bne_iff_ne]; omega
      have ht' := ht.out
      unfold Crc.tm at ht'
      rw [if_neg h0] at ht'
      have hm' : (a' * 2 % 4294967296) % 2 ^ (32 - f) = 0 := by
        obtain ⟨q, hq⟩ := Nat.dvd_of_mod_eq_zero hm.out
        have h1 : (2 ^ (32 - f)) ∣ a' * 2 := ⟨q, by rw [hq, show 32 - f = (32 - (f + 1)) + 1 from by omega, Nat.pow_succ, Nat.mul_right_comm]⟩
        have h2 : (2 ^ (32 - f)) ∣ 4294967296 := by rw [show (4294967296 : Nat) = 2 ^ 32 from rfl]; exact Nat.pow_dvd_pow 2 (by omega)
        exact Nat.mod_eq_zero_of_dvd ((Nat.dvd_mod_iff h2).2 h1)
      have HM := Lib.hid hm'; clear hm'
      have HT := Lib.hid ht'; clear ht'
      have hxl : o ^^^ Crc.halfs j 2147483648 < 4294967296 := Nat.xor_lt_two_pow (n := 32) ho hb
      by_cases htop : a' / 2147483648 ≠ 0
      · have hdt : ((a' : Int) / 2147483648 != 0) = true := by rw [bne_iff_ne]; omega
        rw [if_pos htop] at HT
        go_wp2_with (go_at_call 11; refine (half_any _ hb _).mono ?_; rintro e w' ⟨rfl, rfl⟩)
        go_roundg f
        case measure => omega
        case rel => exact ⟨rfl, j + 1, a' * 2 % 4294967296, o ^^^ Crc.halfs j 2147483648, by omega, Nat.mod_lt _ (by omega), hxl, u32_eq (by omega), by rw [Crc.halfs_succ], rfl, HM, by rw [Crc.halfs_succ]; exact HT⟩
      · have hdt : ((a' : Int) / 2147483648 != 0) = false := by rw [bne_eq_false_iff_eq]; omega
        rw [if_neg htop] at HT
        go_wp2_with (go_at_call 11; refine (half_any _ hb _).mono ?_; rintro e w' ⟨rfl, rfl⟩)
        go_roundg f
        case measure => omega
        case rel => exact ⟨rfl, j + 1, a' * 2 % 4294967296, o, by omega, Nat.mod_lt _ (by omega), ho, u32_eq (by omega), by rw [Crc.halfs_succ], rfl, HM, by rw [Crc.halfs_succ]; exact HT⟩

theorem wraps_i64 (n : Int) (h₀ : 0 ≤ n) (h₁ : n < 2 ^ 63) : IntKind.i64.wrap n = n := by rw [IntKind.wrap_i64]; omega
theorem and1_i64 (a : Nat) (ha : a ≤ 1000000) : bits .and .i64 (a : Int) 1 = ((a % 2 : Nat) : Int) := by
  have := (bits_nat .i64 63 (by decide) wraps_i64 a 1 (by omega) (by decide)).1
  rw [show ((1 : Nat) : Int) = 1 from rfl] at this
  rw [this, Nat.and_one_is_mod]

set_option maxRecDepth 100000 in
set_option maxHeartbeats 400000 in
theorem join_any (a b n : Nat) (ha : a < 4294967296) (hb : b < 4294967296) (hn : n ≤ 1000000) (w : World) :
    Calls Try.prog 8 #[.int .u32 (a : Int), .int .u32 (b : Int), .int .i64 (n : Int)] w fun e w' => e = .returned (.int .u32 ((Crc.join a b n : Nat) : Int)) ∧ w = w' := by
  go_enter Try.func8, Try.ntmps8
  go_wp2_with fail
  go_loopg [7, 8, 9] n (fun g x y z wr => w = wr ∧ ∃ (m s nn : Nat), g = nn ∧ nn ≤ 1000000 ∧ x = .int .u32 ((Crc.halfs m 2147483648 : Nat) : Int) ∧ y = .int .u32 ((Crc.halfs s 2147483648 : Nat) : Int) ∧ z = .int .i64 (nn : Int) ∧ Hid (nn * s + m = 8 * n))
  case atStart => exact ⟨rfl, 0, 8, n, rfl, hn, rfl, by rw [Crc.byteOn]; rfl, rfl, Lib.hid (by omega)⟩
  case round =>
    obtain ⟨rfl, m, s, nn, hgk, hnn, rfl, rfl, rfl, hsum⟩ := hrel
    subst hgk
    have hbm := Crc.halfs_lt m (a := 2147483648) (by omega)
    have hbs := Crc.halfs_lt s (a := 2147483648) (by omega)
    by_cases h0 : gk = 0
    · subst h0
      have hm := hsum.out
      rw [Nat.zero_mul, Nat.zero_add] at hm
      subst hm
      have hx := xor_u32 (Crc.halfs (8 * n) a) b (Crc.halfs_lt _ ha) hb
      go_wp2_with (go_at_call 10; refine (times_any a (8 * n) ha _).mono ?_; rintro e w' ⟨rfl, rfl⟩)
      go_ret
      exact ⟨rfl, rfl⟩
    · have hg : decide (0 < gk) = true := by simp; omega
      have hss : Crc.halfs s (Crc.halfs s 2147483648) = Crc.halfs (2 * s) 2147483648 := by rw [← Crc.halfs_add, show s + s = 2 * s from by omega]
      have hms : Crc.halfs s (Crc.halfs m 2147483648) = Crc.halfs (m + s) 2147483648 := by rw [← Crc.halfs_add]
      have HSS := Lib.hid hss; clear hss
      have HMS := Lib.hid hms; clear hms
      have h1 := and1_i64 gk hnn
      rcases Nat.mod_two_eq_zero_or_one gk with h | h
      · have hd : (bits .and .i64 (gk : Int) 1 != 0) = false := by rw [h1, h]; rfl
        clear h1
        go_wp2_with fail
        refine (times_any _ s hbs _).mono ?_
        rintro e w' ⟨rfl, rfl⟩
        rw [HSS.out]
        go_wp2
        go_roundg (gk / 2)
        case measure => omega
        case rel => exact ⟨rfl, m, 2 * s, gk / 2, rfl, by omega, rfl, rfl, by go_num, Lib.hid (by
          have := hsum.out
          have e : gk / 2 * (2 * s) = gk * s := by rw [← Nat.mul_assoc, show gk / 2 * 2 = gk from by omega]
          omega)⟩
      · have hd : (bits .and .i64 (gk : Int) 1 != 0) = true := by rw [h1, h]; rfl
        clear h1
        go_wp2_with fail
        refine (times_any _ s hbm _).mono ?_
        rintro e w' ⟨rfl, rfl⟩
        rw [HMS.out]
        go_wp2_with fail
        refine (times_any _ s hbs _).mono ?_
        rintro e w' ⟨rfl, rfl⟩
        rw [HSS.out]
        go_wp2
        go_roundg (gk / 2)
        case measure => omega
        case rel => exact ⟨rfl, m + s, 2 * s, gk / 2, rfl, by omega, rfl, rfl, by go_num, Lib.hid (by
          have := hsum.out
          have e : gk / 2 * (2 * s) + s = gk * s := by
            obtain ⟨q, hq⟩ : ∃ q, gk = 2 * q + 1 := ⟨gk / 2, by omega⟩
            rw [show gk / 2 = q from by omega, hq, Nat.add_mul, Nat.one_mul, ← Nat.mul_assoc, Nat.mul_comm q 2]
          omega)⟩
end Go.Proofs.Ytfpoefacdnddoaa
