/- What grown, Length, Distance of package inflate and the reference's Length, Distance say. -/
import Derived.Test.YtcgcacegkbbmiaaBase
namespace Go.Proofs.Ytcgcacegkbbmiaa
open Go.RowKit

/-- How many bits more, of the i-th. -/
def ext (flat group i : Nat) : Nat := if flat ≤ i then (i - flat) / group + 1 else 0
/-- The least value of the n-th. -/
def base (least flat group : Nat) : Nat → Nat
  | 0 => least
  | n + 1 => base least flat group n + 2 ^ ext flat group n

theorem ext_le {flat group i : Nat} (hg : 2 ≤ group) (hi : i ≤ 30) : ext flat group i ≤ 16 := by
  unfold ext
  split
  · have : (i - flat) / group ≤ (i - flat) / 2 := Nat.div_le_div_left hg (by omega)
    omega
  · omega
theorem base_le {least flat group : Nat} (hg : 2 ≤ group) (n : Nat) (hi : n ≤ 31) : base least flat group n ≤ least + n * 65536 := by
  induction n with
  | zero => simp [base]
  | succ n ih =>
    have h1 := ext_le (flat := flat) hg (i := n) (by omega)
    have h2 : 2 ^ ext flat group n ≤ 2 ^ 16 := Nat.pow_le_pow_right (by decide) h1
    show base least flat group n + 2 ^ ext flat group n ≤ _
    have := ih (by omega)
    omega

theorem wrap_pow (b e : Nat) (hb : b < 1099511627776) (he : e ≤ 20) : wrap64 ((b : Int) + wrap64 (2 ^ e)) = ((b + 2 ^ e : Nat) : Int) := by
  have hp : 2 ^ e ≤ 2 ^ 20 := Nat.pow_le_pow_right (by decide) he
  have e1 : (2 : Int) ^ e = ((2 ^ e : Nat) : Int) := by simp
  rw [e1]
  obtain ⟨q, hq⟩ : ∃ q, q = 2 ^ e := ⟨_, rfl⟩
  rw [← hq] at hp ⊢
  unfold wrap64
  omega

set_option maxRecDepth 100000 in
set_option maxHeartbeats 1000000 in
theorem grown_any (n least flat group : Nat) (hn : n ≤ 29) (hl : least ≤ 1000) (hf : flat ≤ 1000) (hg : 2 ≤ group) (hg2 : group ≤ 1000) (w : World) :
    Calls Try.prog 27 #[.int .i64 (n : Int), .int .i64 (least : Int), .int .i64 (flat : Int), .int .i64 (group : Int)] w fun e w' =>
      e = .returned (.tuple #[.int .i64 (base least flat group n : Int), .int .i64 (ext flat group n : Int)]) ∧ w = w' := by
  go_enter Try.func27, Try.ntmps27
  go_wp2_with fail
  go_loopg [8, 9, 14] 40 (fun g b x i wr => wr = w ∧ ∃ j : Nat, g = 40 - j ∧ j ≤ n + 1 ∧ i = .int .i64 (j : Int) ∧ b = .int .i64 (base least flat group (min j n) : Int) ∧ x = .int .i64 (if j = 0 then 0 else (ext flat group (j - 1) : Int)))
  case atStart => exact ⟨rfl, 0, rfl, by omega, rfl, by simp [base], rfl⟩
  case round =>
    obtain ⟨rfl, j, hgj, hj, rfl, rfl, rfl⟩ := hrel
    by_cases hlt : j ≤ n
    · have hd : decide ((j : Int) < (n : Int) + 1) = true := by simp; omega
      have hmin : min j n = j := by omega
      rw [hmin]
      have hb := base_le (least := least) (flat := flat) hg j (by omega)
      have he := ext_le (flat := flat) hg (i := j) (by omega)
      obtain ⟨E, hE⟩ : ∃ E, E = ext flat group j := ⟨_, rfl⟩
      obtain ⟨b, hbb⟩ : ∃ b, b = base least flat group j := ⟨_, rfl⟩
      have hbs : base least flat group (j + 1) = b + 2 ^ E := by rw [hE, hbb]; rfl
      have hp : 2 ^ E ≤ 2 ^ 16 := Nat.pow_le_pow_right (by decide) (by omega)
      rw [← hE] at he
      rw [← hbb] at hb ⊢
      have HBS := Lib.hid hbs; clear hbs
      have HBB := Lib.hid hbb; clear hbb
      by_cases hfl : flat ≤ j
      · obtain ⟨F, hF⟩ : ∃ F, F = (j - flat) / group := ⟨_, rfl⟩
        have hEF : E = F + 1 := by rw [hE, hF]; unfold ext; rw [if_pos hfl]
        have hq : ((j : Int) - (flat : Int)).tdiv (group : Int) = (F : Int) := by
          rw [show (j : Int) - (flat : Int) = ((j - flat : Nat) : Int) from by omega, Int.tdiv_eq_ediv_of_nonneg (by omega), hF]
          simp
        have HF := Lib.hid hF; clear hF
        have HE := Lib.hid hE; clear hE
        have hd1 : decide ((flat : Int) ≤ (j : Int)) = true := by simp; omega
        by_cases hjn : j < n
        · have hd2 : decide ((j : Int) < (n : Int)) = true := by simp; omega
          go_wp2
          go_roundg (40 - (j + 1))
          case measure => omega
          case rel =>
            refine ⟨rfl, j + 1, rfl, by omega, by go_num, ?_, ?_⟩
            · rw [wrap_pow b (F + 1) (by omega) (by omega), show min (j + 1) n = j + 1 from by omega, HBS.out, hEF]
            · rw [if_neg (by omega), show j + 1 - 1 = j from rfl, ← HE.out, hEF]; rfl
        · have hd2 : decide ((j : Int) < (n : Int)) = false := by simp; omega
          go_wp2
          go_roundg (40 - (j + 1))
          case measure => omega
          case rel =>
            refine ⟨rfl, j + 1, rfl, by omega, by go_num, ?_, ?_⟩
            · rw [show min (j + 1) n = j from by omega, HBB.out]
            · rw [if_neg (by omega), show j + 1 - 1 = j from rfl, ← HE.out, hEF]; rfl
      · have hE0 : E = 0 := by rw [hE]; unfold ext; rw [if_neg hfl]
        have HE := Lib.hid hE; clear hE
        subst hE0
        have hd1 : decide ((flat : Int) ≤ (j : Int)) = false := by simp; omega
        by_cases hjn : j < n
        · have hd2 : decide ((j : Int) < (n : Int)) = true := by simp; omega
          go_wp2
          go_roundg (40 - (j + 1))
          case measure => omega
          case rel =>
            refine ⟨rfl, j + 1, rfl, by omega, by go_num, ?_, ?_⟩
            · rw [show min (j + 1) n = j + 1 from by omega, HBS.out]; rfl
            · rw [if_neg (by omega), show j + 1 - 1 = j from rfl, ← HE.out]; rfl
        · have hd2 : decide ((j : Int) < (n : Int)) = false := by simp; omega
          go_wp2
          go_roundg (40 - (j + 1))
          case measure => omega
          case rel =>
            refine ⟨rfl, j + 1, rfl, by omega, by go_num, ?_, ?_⟩
            · rw [show min (j + 1) n = j from by omega, HBB.out]
            · rw [if_neg (by omega), show j + 1 - 1 = j from rfl, ← HE.out]; rfl
    · obtain rfl : j = n + 1 := by omega
      have hd : decide (((n + 1 : Nat) : Int) < (n : Int) + 1) = false := by simp
      rw [if_neg (by omega), show n + 1 - 1 = n from rfl, show min (n + 1) n = n from by omega]
      go_wp2
      go_ret2
      exact ⟨rfl, rfl⟩

/-- What a symbol of a length says. -/
def lengthP (n : Int) : Nat × Nat × Bool :=
  if n = 285 then (258, 0, true) else if 257 ≤ n ∧ n < 285 then (base 3 8 4 (n - 257).toNat, ext 8 4 (n - 257).toNat, true) else (0, 0, false)
/-- What a symbol of a distance says. -/
def distP (n : Int) : Nat × Nat × Bool :=
  if 0 ≤ n ∧ n < 30 then (base 1 4 2 n.toNat, ext 4 2 n.toNat, true) else (0, 0, false)

set_option maxRecDepth 100000 in
set_option maxHeartbeats 400000 in
theorem length_any (n : Int) (w : World) :
    Calls Try.prog 12 #[.int .i64 n] w fun e w' => e = .returned (.tuple #[.int .i64 ((lengthP n).1 : Int), .int .i64 ((lengthP n).2.1 : Int), .bool (lengthP n).2.2]) ∧ w = w' := by
  by_cases h1 : n = 285
  · subst h1
    rw [show lengthP 285 = (258, 0, true) from by unfold lengthP; rw [if_pos rfl]]
    go_enter Try.func12, Try.ntmps12
    go_wp2
    go_ret3
    exact ⟨rfl, rfl⟩
  · have hd1 : (n == 285) = false := by simp [h1]
    by_cases h2 : 257 ≤ n ∧ n < 285
    · obtain ⟨k, hk⟩ : ∃ k : Nat, n = k + 257 := ⟨(n - 257).toNat, by omega⟩
      have hl : lengthP n = (base 3 8 4 k, ext 8 4 k, true) := by
        unfold lengthP; rw [if_neg h1, if_pos h2, show (n - 257).toNat = k from by omega]
      rw [hl]
      have hd2 : decide (n < 257) = false := by simp; omega
      have hd3 : decide (285 < n) = false := by simp; omega
      have hsub : n - 257 = (k : Int) := by omega
      go_enter Try.func12, Try.ntmps12
      go_wp2_with fail
      refine (grown_any k 3 8 4 (by omega) (by omega) (by omega) (by omega) (by omega) w).mono ?_
      rintro e w' ⟨rfl, rfl⟩
      go_wp2
      go_ret3
      exact ⟨rfl, rfl⟩
    · have hl : lengthP n = (0, 0, false) := by unfold lengthP; rw [if_neg h1, if_neg h2]
      rw [hl]
      by_cases h3 : n < 257
      · go_enter Try.func12, Try.ntmps12
        go_wp2
        go_ret3
        exact ⟨rfl, rfl⟩
      · have h4 : 285 < n := by omega
        go_enter Try.func12, Try.ntmps12
        go_wp2
        go_ret3
        exact ⟨rfl, rfl⟩

set_option maxHeartbeats 400000 in
theorem dist_any (n : Int) (w : World) :
    Calls Try.prog 14 #[.int .i64 n] w fun e w' => e = .returned (.tuple #[.int .i64 ((distP n).1 : Int), .int .i64 ((distP n).2.1 : Int), .bool (distP n).2.2]) ∧ w = w' := by
  by_cases h2 : 0 ≤ n ∧ n < 30
  · obtain ⟨k, rfl⟩ := Int.eq_ofNat_of_zero_le h2.1
    have hl : distP (k : Int) = (base 1 4 2 k, ext 4 2 k, true) := by
      unfold distP; rw [if_pos h2]; rfl
    rw [hl]
    have hd2 : decide ((k : Int) < 0) = false := by simp
    have hd3 : decide (30 ≤ (k : Int)) = false := by simp; omega
    go_enter Try.func14, Try.ntmps14
    go_wp2_with fail
    refine (grown_any k 1 4 2 (by omega) (by omega) (by omega) (by omega) (by omega) w).mono ?_
    rintro e w' ⟨rfl, rfl⟩
    go_wp2
    go_ret3
    exact ⟨rfl, rfl⟩
  · have hl : distP n = (0, 0, false) := by unfold distP; rw [if_neg h2]
    rw [hl]
    by_cases h3 : n < 0
    · go_enter Try.func14, Try.ntmps14
      go_wp2
      go_ret3
      exact ⟨rfl, rfl⟩
    · have h4 : 30 ≤ n := by omega
      go_enter Try.func14, Try.ntmps14
      go_wp2
      go_ret3
      exact ⟨rfl, rfl⟩

theorem length_bits (k : Nat) : max (0 : Int) ((((k : Int) + 257) - 261).tdiv 4) = (ext 8 4 k : Int) ∧ -10 ≤ (((k : Int) + 257) - 261).tdiv 4 := by
  unfold ext
  by_cases h : 8 ≤ k
  · rw [if_pos h, Int.tdiv_eq_ediv_of_nonneg (by omega)]; omega
  · rw [if_neg h]
    by_cases h4 : 4 ≤ k
    · rw [Int.tdiv_eq_ediv_of_nonneg (by omega)]; omega
    · have : ((k : Int) + 257 - 261) = -((4 - k : Nat) : Int) := by omega
      rw [this, Int.neg_tdiv, Int.tdiv_eq_ediv_of_nonneg (by omega)]; omega

set_option maxRecDepth 100000 in
set_option maxHeartbeats 400000 in
theorem rlength_any (n : Int) (w : World) :
    Calls Try.prog 13 #[.int .i64 n] w fun e w' => e = .returned (.tuple #[.int .i64 ((lengthP n).1 : Int), .int .i64 ((lengthP n).2.1 : Int), .bool (lengthP n).2.2]) ∧ w = w' := by
  by_cases h1 : n = 285
  · subst h1
    rw [show lengthP 285 = (258, 0, true) from by unfold lengthP; rw [if_pos rfl]]
    go_enter Try.func13, Try.ntmps13
    go_wp2
    go_ret3
    exact ⟨rfl, rfl⟩
  · have hd1 : (n == 285) = false := by simp [h1]
    by_cases h2 : 257 ≤ n ∧ n < 285
    · obtain ⟨k, hk⟩ : ∃ k : Nat, n = k + 257 := ⟨(n - 257).toNat, by omega⟩
      have hl : lengthP n = (base 3 8 4 k, ext 8 4 k, true) := by
        unfold lengthP; rw [if_neg h1, if_pos h2, show (n - 257).toNat = k from by omega]
      rw [hl]
      have hd2 : decide (n < 257) = false := by simp; omega
      have hd3 : decide (284 < n) = false := by simp; omega
      go_enter Try.func13, Try.ntmps13
      go_wp2_with fail
      go_loopg [5, 6] 40 (fun g b i wr => wr = w ∧ ∃ j : Nat, g = 40 - j ∧ j ≤ k ∧ i = .int .i64 ((j : Int) + 257) ∧ b = .int .i64 (base 3 8 4 j : Int))
      case atStart => exact ⟨rfl, 0, rfl, by omega, rfl, rfl⟩
      case round =>
        obtain ⟨rfl, j, hgj, hj, rfl, rfl⟩ := hrel
        have hb := base_le (least := 3) (flat := 8) (group := 4) (by omega) j (by omega)
        have he := ext_le (flat := 8) (group := 4) (by omega) (i := j) (by omega)
        obtain ⟨T, hT, hTe, hT10⟩ : ∃ T : Int, ((j : Int) + 257 - 261).tdiv 4 = T ∧ max 0 T = (ext 8 4 j : Int) ∧ -10 ≤ T := ⟨_, rfl, length_bits j⟩
        obtain ⟨E, hE⟩ : ∃ E, E = ext 8 4 j := ⟨_, rfl⟩
        obtain ⟨b, hbb⟩ : ∃ b, b = base 3 8 4 j := ⟨_, rfl⟩
        have hbs : base 3 8 4 (j + 1) = b + 2 ^ E := by rw [hE, hbb]; rfl
        rw [← hE] at he hTe
        rw [← hbb] at hb ⊢
        have HBS := Lib.hid hbs; clear hbs
        have hE' := Lib.hid hE; clear hE
        have hb' := Lib.hid hbb; clear hbb
        by_cases hT0 : T ≤ 0
        · obtain rfl : E = 0 := by omega
          by_cases hjk : j = k
          · subst hjk
            have hd : ((j : Int) + 257 == n) = true := by simp [hk]
            go_wp2
            go_ret3
            rw [← hE'.out, ← hb'.out]
            exact ⟨rfl, rfl⟩
          · have hd : ((j : Int) + 257 == n) = false := by simp [hk]; omega
            go_wp2
            go_roundg (40 - (j + 1))
            case measure => omega
            case rel => exact ⟨rfl, j + 1, rfl, by omega, by go_num, by rw [HBS.out]; rfl⟩
        · obtain rfl : T = E := by omega
          by_cases hjk : j = k
          · subst hjk
            have hd : ((j : Int) + 257 == n) = true := by simp [hk]
            go_wp2
            go_ret3
            rw [← hE'.out, ← hb'.out]
            exact ⟨rfl, rfl⟩
          · have hd : ((j : Int) + 257 == n) = false := by simp [hk]; omega
            go_wp2
            go_roundg (40 - (j + 1))
            case measure => omega
            case rel => exact ⟨rfl, j + 1, rfl, by omega, by go_num, by rw [HBS.out, wrap_pow b E (by omega) (by omega)]⟩
    · have hl : lengthP n = (0, 0, false) := by unfold lengthP; rw [if_neg h1, if_neg h2]
      rw [hl]
      by_cases h3 : n < 257
      · go_enter Try.func13, Try.ntmps13
        go_wp2
        go_ret3
        exact ⟨rfl, rfl⟩
      · have h4 : 284 < n := by omega
        go_enter Try.func13, Try.ntmps13
        go_wp2
        go_ret3
        exact ⟨rfl, rfl⟩

theorem dist_bits (k : Nat) : max (0 : Int) ((k : Int) / 2 - 1) = (ext 4 2 k : Int) := by
  unfold ext
  by_cases h : 4 ≤ k
  · rw [if_pos h]; omega
  · rw [if_neg h]; omega

set_option maxRecDepth 100000 in
set_option maxHeartbeats 400000 in
theorem rdist_any (n : Int) (w : World) :
    Calls Try.prog 15 #[.int .i64 n] w fun e w' => e = .returned (.tuple #[.int .i64 ((distP n).1 : Int), .int .i64 ((distP n).2.1 : Int), .bool (distP n).2.2]) ∧ w = w' := by
  by_cases h2 : 0 ≤ n ∧ n < 30
  · obtain ⟨k, hk⟩ := Int.eq_ofNat_of_zero_le h2.1
    have hl : distP n = (base 1 4 2 k, ext 4 2 k, true) := by
      unfold distP; rw [if_pos h2, hk]; rfl
    rw [hl]
    have hd2 : decide (n < 0) = false := by simp; omega
    have hd3 : decide (29 < n) = false := by simp; omega
    go_enter Try.func15, Try.ntmps15
    go_wp2_with fail
    go_loopg [5, 6] 40 (fun g b i wr => wr = w ∧ ∃ j : Nat, g = 40 - j ∧ j ≤ k ∧ i = .int .i64 (j : Int) ∧ b = .int .i64 (base 1 4 2 j : Int))
    case atStart => exact ⟨rfl, 0, rfl, by omega, rfl, rfl⟩
    case round =>
      obtain ⟨rfl, j, hgj, hj, rfl, rfl⟩ := hrel
      have hb := base_le (least := 1) (flat := 4) (group := 2) (by omega) j (by omega)
      have he := ext_le (flat := 4) (group := 2) (by omega) (i := j) (by omega)
      have hTe := dist_bits j
      obtain ⟨E, hE⟩ : ∃ E, E = ext 4 2 j := ⟨_, rfl⟩
      obtain ⟨b, hbb⟩ : ∃ b, b = base 1 4 2 j := ⟨_, rfl⟩
      have hbs : base 1 4 2 (j + 1) = b + 2 ^ E := by rw [hE, hbb]; rfl
      rw [← hE] at he hTe
      rw [← hbb] at hb ⊢
      have HBS := Lib.hid hbs; clear hbs
      have hE' := Lib.hid hE; clear hE
      have hb' := Lib.hid hbb; clear hbb
      have hw : IntKind.i64.wrap ((j : Int) / 2 - 1) = (j : Int) / 2 - 1 := by rw [IntKind.wrap_i64]; omega
      by_cases hT0 : (j : Int) / 2 - 1 ≤ 0
      · obtain rfl : E = 0 := by omega
        by_cases hjk : j = k
        · subst hjk
          have hd : ((j : Int) == n) = true := by simp [hk]
          go_wp2
          go_ret3
          rw [← hE'.out, ← hb'.out]
          exact ⟨rfl, rfl⟩
        · have hd : ((j : Int) == n) = false := by simp [hk]; omega
          go_wp2
          go_roundg (40 - (j + 1))
          case measure => omega
          case rel => exact ⟨rfl, j + 1, rfl, by omega, by go_num, by rw [HBS.out]; rfl⟩
      · have hT : (j : Int) / 2 - 1 = E := by omega
        by_cases hjk : j = k
        · subst hjk
          have hd : ((j : Int) == n) = true := by simp [hk]
          go_wp2
          go_ret3
          rw [← hE'.out, ← hb'.out]
          exact ⟨rfl, rfl⟩
        · have hd : ((j : Int) == n) = false := by simp [hk]; omega
          go_wp2
          go_roundg (40 - (j + 1))
          case measure => omega
          case rel => exact ⟨rfl, j + 1, rfl, by omega, by go_num, by rw [HBS.out, wrap_pow b E (by omega) (by omega)]⟩
  · have hl : distP n = (0, 0, false) := by unfold distP; rw [if_neg h2]
    rw [hl]
    by_cases h3 : n < 0
    · go_enter Try.func15, Try.ntmps15
      go_wp2
      go_ret3
      exact ⟨rfl, rfl⟩
    · have h4 : 29 < n := by omega
      go_enter Try.func15, Try.ntmps15
      go_wp2
      go_ret3
      exact ⟨rfl, rfl⟩
end Go.Proofs.Ytcgcacegkbbmiaa
