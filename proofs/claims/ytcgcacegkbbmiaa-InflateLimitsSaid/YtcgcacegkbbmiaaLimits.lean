/- The law InflateLimits, walked. -/
import Derived.Test.YtcgcacegkbbmiaaEx
namespace Go.Proofs.Ytcgcacegkbbmiaa
open Go.RowKit

/-- How many symbols of lengths have been met. -/
def met (N i : Nat) : Nat := if i ≤ 285 then (if N < base 3 8 4 (i - 257) then 1 else 0) else if N = 258 then 2 else 1
def there (D i : Nat) : Nat := if D < base 1 4 2 i then 1 else 0
def lb (i : Nat) : Nat × Nat := if i = 285 then (258, 0) else (base 3 8 4 (i - 257), ext 8 4 (i - 257))
theorem lb_eq {i : Nat} (h : 257 ≤ i) (h2 : i < 286) : lengthP (i : Int) = ((lb i).1, (lb i).2, true) := by
  unfold lengthP lb
  by_cases h3 : i = 285
  · rw [if_pos (by omega), if_pos h3]
  · rw [if_neg (by omega), if_pos (by omega), if_neg h3, show ((i : Int) - 257).toNat = i - 257 from by omega]
theorem lb_le {i : Nat} (h : 257 ≤ i) (h2 : i < 286) : (lb i).1 ≤ 300 ∧ (lb i).2 ≤ 5 := by
  have : ∀ j, j < 29 → (lb (257 + j)).1 ≤ 300 ∧ (lb (257 + j)).2 ≤ 5 := by decide +kernel
  have := this (i - 257) (by omega)
  rwa [show 257 + (i - 257) = i from by omega] at this
theorem base28 : base 3 8 4 28 = 259 := by decide +kernel
theorem base30 : base 1 4 2 30 = 32769 := by decide +kernel
theorem met_lo {N i : Nat} (h : i ≤ 285) : met N i = if N < base 3 8 4 (i - 257) then 1 else 0 := if_pos h
theorem met_hi {N : Nat} : met N 286 = if N = 258 then 2 else 1 := if_neg (by decide)
theorem met_step {N i : Nat} (h : 257 ≤ i) (h2 : i < 286) (hN : N ≤ 258) : met N (i + 1) = met N i + (if (lb i).1 ≤ N ∧ N < (lb i).1 + 2 ^ (lb i).2 then 1 else 0) := by
  by_cases h3 : i = 285
  · subst h3
    have e : lb 285 = (258, 0) := rfl
    rw [e, met_hi, met_lo (Nat.le_refl _), show 285 - 257 = 28 from rfl, base28]
    dsimp only
    split <;> split <;> split <;> omega
  · rw [met_lo (by omega), met_lo (by omega), show i + 1 - 257 = i - 257 + 1 from by omega]
    unfold lb
    rw [if_neg h3]
    show (if N < base 3 8 4 (i - 257) + 2 ^ ext 8 4 (i - 257) then 1 else 0) = _
    have := Nat.two_pow_pos (ext 8 4 (i - 257))
    dsimp only
    split <;> split <;> split <;> omega
theorem there_step {D i : Nat} : there D (i + 1) = there D i + (if base 1 4 2 i ≤ D ∧ D < base 1 4 2 i + 2 ^ ext 4 2 i then 1 else 0) := by
  unfold there
  show (if D < base 1 4 2 i + 2 ^ ext 4 2 i then 1 else 0) = _
  have := Nat.two_pow_pos (ext 4 2 i)
  split <;> split <;> split <;> omega
theorem dist_le {i : Nat} (h : i < 30) : base 1 4 2 i ≤ 32768 ∧ ext 4 2 i ≤ 13 := by
  have : ∀ j, j < 30 → base 1 4 2 j ≤ 32768 ∧ ext 4 2 j ≤ 13 := by decide +kernel
  exact this i h
theorem distP_eq {i : Nat} (h : i < 30) : distP (i : Int) = (base 1 4 2 i, ext 4 2 i, true) := by
  unfold distP
  rw [if_pos (by omega), Int.toNat_natCast]

set_option maxRecDepth 100000 in
set_option maxHeartbeats 2000000 in
theorem limits_any (a b : Nat) (ha : a < 65536) (hb : b < 65536) (w : World) : Calls Try.prog 6 #[.int .u16 (a : Int), .int .u16 (b : Int)] w fun e w' => e = .returned (.bool true) ∧ Below w.heap.size w w' := by
  obtain ⟨x, hx⟩ : ∃ x, x = a % 256 := ⟨_, rfl⟩
  obtain ⟨y, hy⟩ : ∃ y, y = b % 32768 := ⟨_, rfl⟩
  have hxl : x < 256 := by omega
  have hyl : y < 32768 := by omega
  have hx1 : (a : Int) % 256 = (x : Int) := by omega
  have hy1 : (b : Int) % 32768 = (y : Int) := by omega
  have hx2 : (a : Int).tmod 256 = (x : Int) := by rw [Int.tmod_eq_emod_of_nonneg (by omega)]; omega
  have hy2 : (b : Int).tmod 32768 = (y : Int) := by rw [Int.tmod_eq_emod_of_nonneg (by omega)]; omega
  clear hx hy
  go_enter Try.func6, Try.ntmps6
  go_wp2_with fail
  refine (ex_any w).mono ?_
  rintro e w1 ⟨rfl, b1⟩
  have b1 := Lib.hid b1
  go_wp2_with fail
  go_loopg [8, 9, 10, 11, 12] 29 (fun g mv iv _ _ _ wr => ∃ i : Nat, w1 = wr ∧ g = 286 - i ∧ 257 ≤ i ∧ i ≤ 286 ∧ mv = .int .i64 (met (3 + x) i : Int) ∧ iv = .int .i64 (i : Int))
  case atStart => exact ⟨257, rfl, rfl, by omega, by omega, by rw [met_lo (by omega), show 257 - 257 = 0 from rfl, if_neg (by unfold base; omega)]; rfl, rfl⟩
  case round =>
    obtain ⟨i, rfl, hgi, hi1, hi2, rfl, rfl⟩ := hrel
    by_cases hlt : i < 286
    · have hd : decide ((i : Int) < 286) = true := by simp; omega
      have hk := length_any (i : Int) w1
      rw [lb_eq hi1 hlt] at hk
      obtain ⟨hl1, hl2⟩ := lb_le hi1 hlt
      have hst := met_step (N := 3 + x) hi1 hlt (by omega)
      have hm0 : met (3 + x) i ≤ 2 := by unfold met; split <;> split <;> omega
      obtain ⟨⟨bs, E⟩, hbe⟩ : ∃ q, q = lb i := ⟨_, rfl⟩
      rw [← hbe] at hk hl1 hl2 hst
      have hw : wrap64 ((bs : Int) + wrap64 (2 ^ E)) = ((bs + 2 ^ E : Nat) : Int) := wrap_pow bs E (by omega) (by omega)
      obtain ⟨T, hT⟩ : ∃ T, T = bs + 2 ^ E := ⟨_, rfl⟩
      rw [← hT] at hw
      dsimp only at hst hk hl1 hl2
      rw [← hT] at hst
      obtain ⟨M, hM⟩ : ∃ M, M = met (3 + x) i := ⟨_, rfl⟩
      rw [← hM] at hst hm0 ⊢
      have HK := Lib.hid hk; clear hk
      have HST := Lib.hid hst; clear hst
      have HT := Lib.hid hT; clear hT
      have HM := Lib.hid hM; clear hM
      have HBE := Lib.hid hbe; clear hbe
      have hd2 : decide ((E : Int) < 0) = false := by simp
      have hd3 : decide ((5 : Int) < (E : Int)) = false := by simp; omega
      by_cases hc1 : bs ≤ 3 + x
      · have hd4 : decide ((bs : Int) ≤ 3 + (x : Int)) = true := by simp; omega
        by_cases hc2 : 3 + x < T
        · have hd5 : decide (3 + (x : Int) < (T : Int)) = true := by simp; omega
          go_wp2_with fail
          refine HK.out.mono ?_
          rintro e w2 ⟨rfl, rfl⟩
          go_wp2
          go_roundg (286 - (i + 1))
          case measure => omega
          case rel => exact ⟨i + 1, rfl, by omega, by omega, by omega, by rw [HST.out, if_pos ⟨hc1, hc2⟩]; go_num, by go_num⟩
        · have hd5 : decide (3 + (x : Int) < (T : Int)) = false := by simp; omega
          go_wp2_with fail
          refine HK.out.mono ?_
          rintro e w2 ⟨rfl, rfl⟩
          go_wp2
          go_roundg (286 - (i + 1))
          case measure => omega
          case rel => exact ⟨i + 1, rfl, by omega, by omega, by omega, by rw [HST.out, if_neg (fun h => hc2 h.2)]; go_num, by go_num⟩
      · have hd4 : decide ((bs : Int) ≤ 3 + (x : Int)) = false := by simp; omega
        go_wp2_with fail
        refine HK.out.mono ?_
        rintro e w2 ⟨rfl, rfl⟩
        go_wp2
        go_roundg (286 - (i + 1))
        case measure => omega
        case rel => exact ⟨i + 1, rfl, by omega, by omega, by omega, by rw [HST.out, if_neg (fun h => hc1 h.1)]; go_num, by go_num⟩
    · obtain rfl : i = 286 := by omega
      have hd : decide (((286 : Nat) : Int) < 286) = false := by simp
      rw [met_hi]
      obtain ⟨M, hM⟩ : ∃ M, M = (if 3 + x = 258 then 2 else 1) := ⟨_, rfl⟩
      rw [← hM]
      have HM := Lib.hid hM; clear hM
      go_wp2_with fail
      go_loopg [13, 14, 15, 16, 17] 30 (fun g mv iv _ _ _ wr => ∃ i : Nat, w1 = wr ∧ g = 30 - i ∧ i ≤ 30 ∧ mv = .int .i64 (there (1 + y) i : Int) ∧ iv = .int .i64 (i : Int))
      case atStart => exact ⟨0, rfl, rfl, by omega, by unfold there; rw [if_neg (by unfold base; omega)]; rfl, rfl⟩
      case round =>
        obtain ⟨i, rfl, hgi2, hi3, rfl, rfl⟩ := hrel
        by_cases hlt : i < 30
        · have hd : decide ((i : Int) < 30) = true := by simp; omega
          have hk := dist_any (i : Int) w1
          rw [distP_eq hlt] at hk
          obtain ⟨hl1, hl2⟩ := dist_le hlt
          have hst := there_step (D := 1 + y) (i := i)
          have hm0 : there (1 + y) i ≤ 2 := by unfold there; split <;> omega
          obtain ⟨E, hE⟩ : ∃ q, q = ext 4 2 i := ⟨_, rfl⟩
          obtain ⟨bs, hbs⟩ : ∃ q, q = base 1 4 2 i := ⟨_, rfl⟩
          rw [← hbs, ← hE] at hk hst
          rw [← hbs] at hl1
          rw [← hE] at hl2
          have hw : wrap64 ((bs : Int) + wrap64 (2 ^ E)) = ((bs + 2 ^ E : Nat) : Int) := wrap_pow bs E (by omega) (by omega)
          obtain ⟨T, hT⟩ : ∃ T, T = bs + 2 ^ E := ⟨_, rfl⟩
          rw [← hT] at hw hst
          dsimp only at hk
          obtain ⟨M, hM⟩ : ∃ M, M = there (1 + y) i := ⟨_, rfl⟩
          rw [← hM] at hst hm0 ⊢
          have HK := Lib.hid hk; clear hk
          have HST := Lib.hid hst; clear hst
          have HT := Lib.hid hT; clear hT
          have HM := Lib.hid hM; clear hM
          have HE := Lib.hid hE; clear hE
          have HBS := Lib.hid hbs; clear hbs
          have hd2 : decide ((E : Int) < 0) = false := by simp
          have hd3 : decide ((13 : Int) < (E : Int)) = false := by simp; omega
          by_cases hc1 : bs ≤ 1 + y
          · have hd4 : decide ((bs : Int) ≤ 1 + (y : Int)) = true := by simp; omega
            by_cases hc2 : 1 + y < T
            · have hd5 : decide (1 + (y : Int) < (T : Int)) = true := by simp; omega
              go_wp2_with fail
              refine HK.out.mono ?_
              rintro e w2 ⟨rfl, rfl⟩
              go_wp2
              go_roundg (30 - (i + 1))
              case measure => omega
              case rel => exact ⟨i + 1, rfl, by omega, by omega, by rw [HST.out, if_pos ⟨hc1, hc2⟩]; go_num, by go_num⟩
            · have hd5 : decide (1 + (y : Int) < (T : Int)) = false := by simp; omega
              go_wp2_with fail
              refine HK.out.mono ?_
              rintro e w2 ⟨rfl, rfl⟩
              go_wp2
              go_roundg (30 - (i + 1))
              case measure => omega
              case rel => exact ⟨i + 1, rfl, by omega, by omega, by rw [HST.out, if_neg (fun h => hc2 h.2)]; go_num, by go_num⟩
          · have hd4 : decide ((bs : Int) ≤ 1 + (y : Int)) = false := by simp; omega
            go_wp2_with fail
            refine HK.out.mono ?_
            rintro e w2 ⟨rfl, rfl⟩
            go_wp2
            go_roundg (30 - (i + 1))
            case measure => omega
            case rel => exact ⟨i + 1, rfl, by omega, by omega, by rw [HST.out, if_neg (fun h => hc1 h.1)]; go_num, by go_num⟩
        · obtain rfl : i = 30 := by omega
          have hd : decide (((30 : Nat) : Int) < 30) = false := by simp
          rw [show there (1 + y) 30 = 1 from by unfold there; rw [base30, if_pos (by omega)]]
          have hMM := HM.out
          by_cases h258 : 3 + x = 258
          · obtain rfl : x = 255 := by omega
            rw [if_pos h258] at hMM
            subst hMM
            go_wp2
            go_ret
            exact ⟨rfl, b1.out⟩
          · rw [if_neg h258] at hMM
            subst hMM
            go_wp2
            go_ret
            exact ⟨rfl, b1.out⟩
end Go.Proofs.Ytcgcacegkbbmiaa
