/- Canonical codes, without a program. -/
namespace Go.Proofs.Ytcgcacegkbbmiaa

/-- How much of all codes some lengths need. -/
def room : List Nat → Nat
  | [] => 0
  | k :: l => (if k = 0 then 0 else 2 ^ (15 - k)) + room l
/-- How many lengths are not 0. -/
def nz (l : List Nat) : Nat := (l.filter fun k => k != 0).length
/-- May these be lengths? -/
def good (l : List Nat) : Bool := room l == 0 || room l == 32768 || (nz l == 1 && room l == 16384)

/-- The first code of a size. -/
def first (L : List Nat) : Nat → Nat
  | 0 => 0
  | 1 => 0
  | k + 2 => (first L (k + 1) + L.count (k + 1)) * 2
/-- The symbol of a code of a size: i: the number of the list's first one, c: the next code of this size. -/
def scan (size code : Nat) : List Nat → Nat → Nat → Option Nat
  | [], _, _ => none
  | k :: l, i, c => if k = size then (if c = code then some i else scan size code l (i + 1) (c + 1)) else scan size code l (i + 1) c
def look (L : List Nat) (size code : Nat) : Option Nat := scan size code L 0 (first L size)

theorem room_snoc (l : List Nat) (k : Nat) : room (l ++ [k]) = room l + if k = 0 then 0 else 2 ^ (15 - k) := by
  induction l with
  | nil => simp [room]
  | cons x l ih => simp only [List.cons_append, room, ih]; omega
theorem room_le (l : List Nat) : room l ≤ l.length * 16384 := by
  induction l with
  | nil => simp [room]
  | cons k l ih =>
    have : (if k = 0 then 0 else 2 ^ (15 - k)) ≤ 16384 := by
      split
      · omega
      · exact Nat.pow_le_pow_right (by decide : 0 < 2) (show 15 - k ≤ 14 by omega)
    simp only [room, List.length_cons]
    omega
theorem nz_snoc (l : List Nat) (k : Nat) : nz (l ++ [k]) = nz l + if k = 0 then 0 else 1 := by
  unfold nz
  rw [List.filter_append, List.length_append]
  by_cases h : k = 0 <;> simp [h]
theorem nz_le (l : List Nat) : nz l ≤ l.length := List.length_filter_le _ _

theorem first_le' (L : List Nat) (k : Nat) : first L (k + 1) + 2 * L.length ≤ 2 * L.length * 2 ^ (k + 1) := by
  induction k with
  | zero => simp [first]; omega
  | succ k ih =>
    have hc : L.count (k + 1) ≤ L.length := List.count_le_length
    show (first L (k + 1) + L.count (k + 1)) * 2 + 2 * L.length ≤ _
    have h1 : 2 * L.length * 2 ^ (k + 2) = 2 * (2 * L.length * 2 ^ (k + 1)) := by rw [Nat.pow_succ 2 (k + 1), ← Nat.mul_assoc]; omega
    rw [show k + 1 + 1 = k + 2 from rfl, h1]
    omega
theorem first_le (L : List Nat) (k : Nat) (hk : k ≤ 16) (hL : L.length ≤ 300) : first L k ≤ 39321600 := by
  cases k with
  | zero => simp [first]
  | succ k =>
    have := first_le' L k
    have h2 : 2 ^ (k + 1) ≤ 2 ^ 16 := Nat.pow_le_pow_right (by decide) hk
    have h3 : 2 * L.length * 2 ^ (k + 1) ≤ 600 * 2 ^ 16 := Nat.mul_le_mul (by omega) h2
    omega

/-- The code of the i-th. -/
def cod (L : List Nat) (i : Nat) : Nat := if L.getD i 0 = 0 then 0 else first L (L.getD i 0) + (L.take i).count (L.getD i 0)

theorem scan_snoc (size code k : Nat) (l : List Nat) (i c : Nat) :
    scan size code (l ++ [k]) i c = (scan size code l i c).or (if k = size ∧ c + l.count size = code then some (i + l.length) else none) := by
  induction l generalizing i c with
  | nil =>
    simp only [List.nil_append, scan, List.count_nil, Nat.add_zero, List.length_nil, Option.none_or]
    by_cases h : k = size <;> by_cases h2 : c = code <;> simp [h, h2]
  | cons x l ih =>
    simp only [List.cons_append, scan]
    by_cases h : x = size
    · subst h
      by_cases h2 : c = code
      · simp [h2]
      · simp only [if_true, h2, if_false, ih, List.count_cons_self, List.length_cons]
        rw [show c + 1 + l.count x = c + (l.count x + 1) from by omega, show i + 1 + l.length = i + (l.length + 1) from by omega]
    · simp only [h, if_false, ih, List.length_cons]
      rw [List.count_cons_of_ne (by simpa using h), show i + 1 + l.length = i + (l.length + 1) from by omega]
theorem scan_code {size code i : Nat} {l : List Nat} {j c : Nat} (h : scan size code l j c = some i) : c ≤ code ∧ code < c + l.count size := by
  induction l generalizing j c with
  | nil => simp [scan] at h
  | cons x l ih =>
    simp only [scan] at h
    by_cases hx : x = size
    · subst hx
      by_cases h2 : c = code
      · subst h2; simp
      · simp only [if_true, h2, if_false] at h
        have := ih h
        rw [List.count_cons_self]; omega
    · simp only [hx, if_false] at h
      have := ih h
      rw [List.count_cons_of_ne (by simpa using hx)]; exact this
theorem scan_index {size code i : Nat} {l : List Nat} {j c : Nat} (h : scan size code l j c = some i) : j ≤ i ∧ i < j + l.length := by
  induction l generalizing j c with
  | nil => simp [scan] at h
  | cons x l ih =>
    simp only [scan] at h
    rw [List.length_cons]
    by_cases hx : x = size
    · subst hx
      by_cases h2 : c = code
      · simp [h2] at h; omega
      · simp only [if_true, h2, if_false] at h
        have := ih h; omega
    · simp only [hx, if_false] at h
      have := ih h; omega
end Go.Proofs.Ytcgcacegkbbmiaa
