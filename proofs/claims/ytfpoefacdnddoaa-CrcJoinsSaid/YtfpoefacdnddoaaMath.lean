/- Plain facts on the CRC-32 register over numbers and lists of bytes: no Go and no memory. -/
namespace Go.Proofs.Ytfpoefacdnddoaa.Crc

/-- One bit of the register's move. -/
def half (n : Nat) : Nat := if n % 2 = 1 then n / 2 ^^^ 3988292384 else n / 2

def halfs : Nat → Nat → Nat
  | 0, n => n
  | k + 1, n => halfs k (half n)

theorem xor_div2 (a b : Nat) : (a ^^^ b) / 2 = a / 2 ^^^ b / 2 := by
  apply Nat.eq_of_testBit_eq; intro i
  simp [Nat.testBit_div_two]

theorem xor_mod2 (a b : Nat) : (a ^^^ b) % 2 = (a % 2 + b % 2) % 2 := by
  have h := @Nat.xor_mod_two_pow a b 1
  simp only [Nat.pow_one] at h
  rw [h]
  rcases Nat.mod_two_eq_zero_or_one a with ha | ha <;> rcases Nat.mod_two_eq_zero_or_one b with hb | hb <;> rw [ha, hb] <;> decide

theorem xor_cancel (x y p : Nat) : (x ^^^ p) ^^^ (y ^^^ p) = x ^^^ y := by
  rw [Nat.xor_comm y p, Nat.xor_assoc, ← Nat.xor_assoc p p y, Nat.xor_self, Nat.zero_xor]

theorem half_xor (a b : Nat) : half (a ^^^ b) = half a ^^^ half b := by
  have h2 := xor_mod2 a b
  have hd := xor_div2 a b
  unfold half
  rcases Nat.mod_two_eq_zero_or_one a with ha | ha <;> rcases Nat.mod_two_eq_zero_or_one b with hb | hb <;> rw [ha, hb] at h2 <;> simp only [ha, hb, hd] <;> simp only [h2]
  · simp
  · simp [Nat.xor_assoc]
  · simp only [Nat.zero_ne_one, if_true, if_false]
    rw [Nat.xor_assoc, Nat.xor_comm (b / 2), ← Nat.xor_assoc]
  · simp only [Nat.reduceAdd, Nat.reduceMod, Nat.zero_ne_one, if_true, if_false]
    rw [xor_cancel]

theorem half_zero : half 0 = 0 := rfl

theorem half_lt {a : Nat} (h : a < 4294967296) : half a < 4294967296 := by
  unfold half
  split
  · exact Nat.xor_lt_two_pow (n := 32) (by omega) (by omega)
  · omega

theorem halfs_xor (k a b : Nat) : halfs k (a ^^^ b) = halfs k a ^^^ halfs k b := by
  induction k generalizing a b with
  | zero => rfl
  | succ k ih => simp only [halfs, half_xor, ih]

theorem halfs_zero (k : Nat) : halfs k 0 = 0 := by
  induction k with
  | zero => rfl
  | succ k ih => simp only [halfs, half_zero, ih]

theorem halfs_lt (k : Nat) {a : Nat} (h : a < 4294967296) : halfs k a < 4294967296 := by
  induction k generalizing a with
  | zero => exact h
  | succ k ih => exact ih (half_lt h)

theorem halfs_add (j k a : Nat) : halfs (j + k) a = halfs k (halfs j a) := by
  induction j generalizing a with
  | zero => simp [halfs]
  | succ j ih => rw [show j + 1 + k = (j + k) + 1 from by omega]; simp only [halfs, ih]

theorem halfs_succ (k a : Nat) : halfs (k + 1) a = half (halfs k a) := halfs_add k 1 a

/-- The low bits being 0, they fall out and nothing turns. -/
theorem halfs_shift (k q : Nat) : halfs k (2 ^ k * q) = q := by
  induction k with
  | zero => simp [halfs]
  | succ k ih =>
    simp only [halfs]
    have : half (2 ^ (k + 1) * q) = 2 ^ k * q := by
      have e : 2 ^ (k + 1) * q = 2 * (2 ^ k * q) := by rw [Nat.pow_succ, Nat.mul_comm (2 ^ k) 2, Nat.mul_assoc]
      unfold half
      rw [e, if_neg (by omega)]; omega
    rw [this, ih]

/-- A byte goes in. -/
def upd (n c : Nat) : Nat := n / 256 ^^^ halfs 8 ((n % 256) ^^^ c)

theorem split256 (n : Nat) : (256 * (n / 256)) ^^^ (n % 256) = n := by
  apply Nat.eq_of_testBit_eq; intro i
  rw [Nat.testBit_xor, show (256 : Nat) = 2 ^ 8 from rfl, Nat.testBit_two_pow_mul, Nat.testBit_mod_two_pow, Nat.testBit_div_two_pow]
  by_cases h : i < 8
  · have h8 : ¬ 8 ≤ i := by omega
    simp [h, h8]
  · simp [h]; rw [show i - 8 + 8 = i from by omega]; simp [show 8 ≤ i from by omega]

theorem upd_eq (n c : Nat) : upd n c = halfs 8 (n ^^^ c) := by
  unfold upd
  have h := halfs_shift 8 (n / 256)
  conv => rhs; rw [← split256 n, Nat.xor_assoc, halfs_xor]
  rw [show (256 : Nat) = 2 ^ 8 from rfl, h]

theorem upd_lt {n c : Nat} (h : n < 4294967296) (hc : c < 256) : upd n c < 4294967296 := by
  rw [upd_eq]; exact halfs_lt 8 (Nat.xor_lt_two_pow (n := 32) h (by omega))

/-- The register behind some bytes. -/
def raw (n : Nat) (l : List UInt8) : Nat := l.foldl (fun n c => upd n c.toNat) n

theorem raw_lt {n : Nat} (l : List UInt8) (h : n < 4294967296) : raw n l < 4294967296 := by
  induction l generalizing n with
  | nil => exact h
  | cons c l ih => exact ih (upd_lt h c.toNat_lt)

theorem raw_append (n : Nat) (a b : List UInt8) : raw n (a ++ b) = raw (raw n a) b := by simp [raw]
theorem raw_snoc (n : Nat) (a : List UInt8) (c : UInt8) : raw n (a ++ [c]) = upd (raw n a) c.toNat := by simp [raw]

theorem raw_affine (n : Nat) (l : List UInt8) : raw n l = halfs (8 * l.length) n ^^^ raw 0 l := by
  induction l generalizing n with
  | nil => simp [raw, halfs]
  | cons c l ih =>
    show raw (upd n c.toNat) l = _ ^^^ raw (upd 0 c.toNat) l
    rw [ih (upd n c.toNat), ih (upd 0 c.toNat), upd_eq, upd_eq, Nat.zero_xor]
    rw [show 8 * (c :: l).length = 8 + 8 * l.length from by simp; omega, halfs_add, halfs_xor 8 n, halfs_xor (8 * l.length)]
    rw [Nat.xor_assoc]

def sum (l : List UInt8) : Nat := raw 4294967295 l ^^^ 4294967295
def more (n : Nat) (l : List UInt8) : Nat := raw (n ^^^ 4294967295) l ^^^ 4294967295

theorem more_lt {n : Nat} (l : List UInt8) (h : n < 4294967296) : more n l < 4294967296 :=
  Nat.xor_lt_two_pow (n := 32) (raw_lt l (Nat.xor_lt_two_pow (n := 32) h (by omega))) (by omega)
theorem more_zero (l : List UInt8) : more 0 l = sum l := by unfold more sum; rw [Nat.zero_xor]
theorem sum_lt (l : List UInt8) : sum l < 4294967296 := by rw [← more_zero]; exact more_lt l (by omega)

/-- What the table's join does. -/
def join (a b : Nat) (n : Nat) : Nat := halfs (8 * n) a ^^^ b

theorem sum_append_more (s t : List UInt8) : sum (s ++ t) = more (sum s) t := by
  unfold sum more
  rw [raw_append, Nat.xor_assoc (raw 4294967295 s), Nat.xor_self, Nat.xor_zero]

theorem sum_append_join (s t : List UInt8) : sum (s ++ t) = join (sum s) (sum t) t.length := by
  unfold sum join
  rw [raw_append, halfs_xor, raw_affine (raw 4294967295 s) t, raw_affine 4294967295 t]
  generalize halfs (8 * t.length) (raw 4294967295 s) = a
  generalize halfs (8 * t.length) 4294967295 = b
  generalize raw 0 t = c
  rw [Nat.xor_assoc a b, ← Nat.xor_assoc b (b ^^^ c), ← Nat.xor_assoc b b, Nat.xor_self, Nat.zero_xor, Nat.xor_assoc]

theorem join_zero (a : Nat) : join a 0 0 = a := by simp [join, halfs]

theorem sum_nil : sum [] = 0 := by decide

def xor3 : List UInt8 → List UInt8 → List UInt8 → List UInt8
  | a :: as, b :: bs, c :: cs => (a ^^^ b ^^^ c) :: xor3 as bs cs
  | _, _, _ => []

theorem six (x y z a b c : Nat) : (x ^^^ y ^^^ z) ^^^ (a ^^^ b ^^^ c) = (x ^^^ a) ^^^ (y ^^^ b) ^^^ (z ^^^ c) := by
  apply Nat.eq_of_testBit_eq; intro i
  simp only [Nat.testBit_xor]
  cases x.testBit i <;> cases y.testBit i <;> cases z.testBit i <;> cases a.testBit i <;> cases b.testBit i <;> cases c.testBit i <;> rfl

theorem raw_xor3 (as bs cs : List UInt8) (hb : bs.length = as.length) (hc : cs.length = as.length) (x y z : Nat) :
    raw (x ^^^ y ^^^ z) (xor3 as bs cs) = raw x as ^^^ raw y bs ^^^ raw z cs := by
  induction as generalizing bs cs x y z with
  | nil =>
    cases bs <;> cases cs <;> simp_all [xor3, raw]
  | cons a as ih =>
    match bs, cs, hb, hc with
    | b :: bs, c :: cs, hb, hc =>
      show raw (upd (x ^^^ y ^^^ z) (a ^^^ b ^^^ c).toNat) (xor3 as bs cs) = raw (upd x a.toNat) as ^^^ raw (upd y b.toNat) bs ^^^ raw (upd z c.toNat) cs
      rw [upd_eq, UInt8.toNat_xor, UInt8.toNat_xor, six, halfs_xor, halfs_xor, ← upd_eq, ← upd_eq, ← upd_eq]
      exact ih bs cs (by simpa using hb) (by simpa using hc) _ _ _

theorem sum_xor3 (as bs cs : List UInt8) (hb : bs.length = as.length) (hc : cs.length = as.length) :
    sum (xor3 as bs cs) = sum as ^^^ sum bs ^^^ sum cs := by
  unfold sum
  rw [← six, ← raw_xor3 as bs cs hb hc]
  rfl

/-- The product with x to the power k. -/
def tm : Nat → Nat → Nat → Nat → Nat
  | 0, _, _, out => out
  | f + 1, a, b, out => if a = 0 then out else tm f (a * 2 % 4294967296) (half b) (if a / 2147483648 ≠ 0 then out ^^^ b else out)

theorem tm_step (j a : Nat) (ha : a < 4294967296) : halfs j a = (if a / 2147483648 ≠ 0 then halfs j 2147483648 else 0) ^^^ halfs (j + 1) (a * 2 % 4294967296) := by
  have e : a = (if a / 2147483648 ≠ 0 then 2147483648 else 0) ^^^ half (a * 2 % 4294967296) := by
    have hh : half (a * 2 % 4294967296) = a % 2147483648 := by unfold half; rw [if_neg (by omega)]; omega
    rw [hh]
    by_cases h : a / 2147483648 ≠ 0
    · rw [if_pos h]
      apply Nat.eq_of_testBit_eq; intro i
      rw [Nat.testBit_xor, show (2147483648 : Nat) = 2 ^ 31 from rfl, Nat.testBit_two_pow, Nat.testBit_mod_two_pow]
      by_cases h31 : i = 31
      · subst h31
        have : a.testBit 31 = true := by
          rw [Nat.testBit_eq_decide_div_mod_eq]; simp; omega
        simp [this]
      · by_cases hlt : i < 31
        · simp [hlt, Ne.symm h31]
        · have : a.testBit i = false := Nat.testBit_lt_two_pow (Nat.lt_of_lt_of_le ha (by rw [show (4294967296 : Nat) = 2 ^ 32 from rfl]; exact Nat.pow_le_pow_right (by omega) (by omega)))
          simp [this, hlt, Ne.symm h31]
    · rw [if_neg h, Nat.zero_xor]; omega
  conv => lhs; rw [e, halfs_xor]
  by_cases h : a / 2147483648 ≠ 0
  · rw [if_pos h, if_pos h]; rfl
  · rw [if_neg h, if_neg h, halfs_zero]; rfl

theorem tm_eq (f j a out : Nat) (hf : f ≤ 32) (ha : a < 4294967296) (hm : a % 2 ^ (32 - f) = 0) : tm f a (halfs j 2147483648) out = out ^^^ halfs j a := by
  induction f generalizing j a out with
  | zero =>
    have : a = 0 := by rw [Nat.mod_eq_of_lt (by simpa using ha)] at hm; exact hm
    subst this; simp [tm, halfs_zero]
  | succ f ih =>
    unfold tm
    by_cases h0 : a = 0
    · subst h0; simp [halfs_zero]
    · rw [if_neg h0, ← halfs_succ, ih (j + 1) _ _ (by omega) (Nat.mod_lt _ (by omega)), tm_step j a ha]
      · by_cases h : a / 2147483648 ≠ 0
        · rw [if_pos h, if_pos h, Nat.xor_assoc]
        · rw [if_neg h, if_neg h, Nat.zero_xor]
      · obtain ⟨q, hq⟩ := Nat.dvd_of_mod_eq_zero hm
        have h1 : (2 ^ (32 - f)) ∣ a * 2 := ⟨q, by rw [hq, show 32 - f = (32 - (f + 1)) + 1 from by omega, Nat.pow_succ, Nat.mul_right_comm]⟩
        have h2 : (2 ^ (32 - f)) ∣ 4294967296 := by rw [show (4294967296 : Nat) = 2 ^ 32 from rfl]; exact Nat.pow_dvd_pow 2 (by omega)
        exact Nat.mod_eq_zero_of_dvd ((Nat.dvd_mod_iff h2).2 h1)

theorem tm_all (j a : Nat) (ha : a < 4294967296) : tm 32 a (halfs j 2147483648) 0 = halfs j a := by
  rw [tm_eq 32 j a 0 (by omega) ha (by simp [Nat.mod_one]), Nat.zero_xor]

theorem sum_digits : sum [49, 50, 51, 52, 53, 54, 55, 56, 57] = 3421780262 := by decide +kernel
theorem byteOn : halfs 8 2147483648 = 8388608 := by decide +kernel
end Go.Proofs.Ytfpoefacdnddoaa.Crc
