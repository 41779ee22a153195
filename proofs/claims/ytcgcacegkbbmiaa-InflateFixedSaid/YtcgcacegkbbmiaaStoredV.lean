/- What Open says of texts that are told as they are. No program in sight. -/
import Derived.Test.YtcgcacegkbbmiaaOpenV
namespace Go.Proofs.Ytcgcacegkbbmiaa

/-- Byte j of a text. -/
def byteAt (S : ByteArray) (j : Nat) : Nat := (S.data.toList.getD j 0).toNat
theorem byteAt_lt (S : ByteArray) (j : Nat) : byteAt S j < 256 := UInt8.toNat_lt _
theorem bit_byte (S : ByteArray) (j i : Nat) (h : i < 8) : bit S (8 * j + i) = byteAt S j / 2 ^ i % 2 := by
  unfold bit byteAt
  rw [show (8 * j + i) / 8 = j from by omega, show (8 * j + i) % 8 = i from by omega]
theorem val_add (S : ByteArray) (i k : Nat) : ∀ l, val S i (k + l) = val S i k + val S (i + k) l * 2 ^ k
  | 0 => by simp [val]
  | l + 1 => by
    show val S i (k + l) + bit S (i + (k + l)) * 2 ^ (k + l) = val S i k + (val S (i + k) l + bit S (i + k + l) * 2 ^ l) * 2 ^ k
    rw [val_add S i k l, Nat.add_mul, show i + (k + l) = i + k + l from by omega, Nat.pow_add, Nat.mul_assoc, Nat.mul_comm (2 ^ l) (2 ^ k)]
    omega
theorem val_byte (S : ByteArray) (j : Nat) : val S (8 * j) 8 = byteAt S j := by
  have h := fun i hi => bit_byte S j i hi
  have hb := byteAt_lt S j
  show ((((((((0 + bit S (8 * j + 0) * 2 ^ 0) + bit S (8 * j + 1) * 2 ^ 1) + bit S (8 * j + 2) * 2 ^ 2) + bit S (8 * j + 3) * 2 ^ 3) + bit S (8 * j + 4) * 2 ^ 4) + bit S (8 * j + 5) * 2 ^ 5) + bit S (8 * j + 6) * 2 ^ 6) + bit S (8 * j + 7) * 2 ^ 7) = _
  rw [h 0 (by omega), h 1 (by omega), h 2 (by omega), h 3 (by omega), h 4 (by omega), h 5 (by omega), h 6 (by omega), h 7 (by omega)]
  generalize byteAt S j = b at hb
  omega
theorem val_two (S : ByteArray) (j : Nat) : val S (8 * j) 16 = byteAt S j + 256 * byteAt S (j + 1) := by
  rw [val_add S (8 * j) 8 8, val_byte, show 8 * j + 8 = 8 * (j + 1) from by omega, val_byte]
  omega
theorem num_at {S : ByteArray} {k p : Nat} {out : List UInt8} (h : p + k ≤ 8 * S.size) : num S k ⟨p, out, 0⟩ = (val S p k, ⟨p + k, out, 0⟩) := by
  unfold num
  rw [if_pos rfl, if_pos h]
theorem head_at {S : ByteArray} {j : Nat} {out : List UInt8} (h : j + 1 ≤ S.size) (hx : byteAt S j ≤ 1) : blockHead S ⟨8 * j, out, 0⟩ = (byteAt S j, 0, ⟨8 * j + 3, out, 0⟩) := by
  have b := fun i hi => bit_byte S j i hi
  have e1 : val S (8 * j) 1 = byteAt S j := by
    show 0 + bit S (8 * j + 0) * 2 ^ 0 = _
    rw [b 0 (by omega)]; omega
  have e2 : val S (8 * j + 1) 2 = 0 := by
    show 0 + bit S (8 * j + 1 + 0) * 2 ^ 0 + bit S (8 * j + 1 + 1) * 2 ^ 1 = _
    rw [show 8 * j + 1 + 0 = 8 * j + 1 from rfl, show 8 * j + 1 + 1 = 8 * j + 2 from rfl, b 1 (by omega), b 2 (by omega)]; omega
  unfold blockHead
  rw [num_at (by omega)]
  dsimp only
  rw [num_at (by omega), e1, e2]
  rfl
theorem storedLoop_ok {S : ByteArray} {most : Nat} : ∀ (n q : Nat) (out : List UInt8), q + n ≤ S.size → out.length + n ≤ most → storedLoop S most n ⟨8 * q, out, 0⟩ = ⟨8 * (q + n), out ++ (S.data.toList.drop q).take n, 0⟩
  | 0, q, out, _, _ => by simp [storedLoop]
  | n + 1, q, out, h1, h2 => by
    show storedLoop S most n (say most (UInt8.ofNat (num S 8 ⟨8 * q, out, 0⟩).1) (num S 8 ⟨8 * q, out, 0⟩).2) = _
    rw [num_at (by omega), val_byte]
    have hs : say most (UInt8.ofNat (byteAt S q)) ⟨8 * q + 8, out, 0⟩ = ⟨8 * (q + 1), out ++ [S.data.toList.getD q 0], 0⟩ := by
      unfold say byteAt
      rw [if_pos rfl, if_neg (by show ¬ out.length = most; omega), UInt8.ofNat_toNat]
      rfl
    rw [hs, storedLoop_ok n (q + 1) _ (by omega) (by simp; omega)]
    have hlen : q < S.data.toList.length := by rw [Array.length_toList]; show q < S.size; omega
    have hd : S.data.toList.drop q = S.data.toList.getD q 0 :: S.data.toList.drop (q + 1) := by
      rw [List.drop_eq_getElem_cons hlen, List.getD_eq_getElem?_getD, List.getElem?_eq_getElem hlen]; rfl
    rw [hd, List.take_succ_cons, show q + 1 + n = q + (n + 1) from by omega, List.append_assoc]
    rfl
theorem storedLoop_long {S : ByteArray} {most : Nat} : ∀ (n q : Nat) (out : List UInt8), q + n ≤ S.size → out.length ≤ most → most < out.length + n → (storedLoop S most n ⟨8 * q, out, 0⟩).err = 9
  | 0, q, out, _, h2, h3 => by omega
  | n + 1, q, out, h1, h2, h3 => by
    show (storedLoop S most n (say most (UInt8.ofNat (num S 8 ⟨8 * q, out, 0⟩).1) (num S 8 ⟨8 * q, out, 0⟩).2)).err = 9
    rw [num_at (by omega), val_byte]
    by_cases hf : out.length = most
    · have hs : say most (UInt8.ofNat (byteAt S q)) ⟨8 * q + 8, out, 0⟩ = ⟨8 * q + 8, out, 9⟩ := by
        unfold say
        rw [if_pos rfl, if_pos hf]
      rw [hs, storedLoop_err _ (show (9 : Int) ≠ 0 by decide)]
    · have hs : say most (UInt8.ofNat (byteAt S q)) ⟨8 * q + 8, out, 0⟩ = ⟨8 * (q + 1), out ++ [UInt8.ofNat (byteAt S q)], 0⟩ := by
        unfold say
        rw [if_pos rfl, if_neg hf]
        rfl
      rw [hs]
      exact storedLoop_long n (q + 1) _ (by omega) (by simp; omega) (by simp; omega)
theorem storedHead_at {S : ByteArray} {j : Nat} {out : List UInt8} (h : j + 5 ≤ S.size) : storedHead S ⟨8 * j + 3, out, 0⟩ = (byteAt S (j + 1) + 256 * byteAt S (j + 2), if byteAt S (j + 1) + 256 * byteAt S (j + 2) + (byteAt S (j + 3) + 256 * byteAt S (j + 4)) ≠ 65535 then ⟨8 * (j + 5), out, 2⟩ else ⟨8 * (j + 5), out, 0⟩) := by
  have ht : toByte ⟨8 * j + 3, out, 0⟩ = ⟨8 * (j + 1), out, 0⟩ := by
    unfold toByte
    rw [show (8 * j + 3 + 7) / 8 * 8 = 8 * (j + 1) from by omega]
  unfold storedHead
  rw [ht, num_at (by omega), val_two]
  dsimp only
  rw [show 8 * (j + 1) + 16 = 8 * (j + 3) from by omega, num_at (by omega), val_two, show 8 * (j + 3) + 16 = 8 * (j + 5) from by omega]
  dsimp only
  by_cases he : byteAt S (j + 1) + 256 * byteAt S (j + 2) + (byteAt S (j + 3) + 256 * byteAt S (j + 4)) = 65535
  · rw [if_neg (fun k => k.2 he), if_neg (fun k => k he)]
  · rw [if_pos ⟨rfl, he⟩, if_pos he]
    rfl

/-- A block that is told as it is: is it the last; its length; the length's other half; itself. -/
def encX (x : UInt8) (n m : Nat) (t : List UInt8) : List UInt8 := x :: UInt8.ofNat (n % 256) :: UInt8.ofNat (n / 256) :: UInt8.ofNat (m % 256) :: UInt8.ofNat (m / 256) :: t
def enc (x : UInt8) (t : List UInt8) : List UInt8 := encX x t.length (65535 - t.length) t
def encs (A : List (List UInt8)) : List UInt8 := A.flatMap (enc 0)
theorem enc_length (x : UInt8) (t : List UInt8) : (enc x t).length = 5 + t.length := by simp [enc, encX]; omega

/-- What stands at the head of a block. -/
structure Bk5 (S : ByteArray) (j : Nat) (x : UInt8) (n m : Nat) : Prop where
  size : j + 5 ≤ S.size
  b0 : byteAt S j = x.toNat
  len : byteAt S (j + 1) + 256 * byteAt S (j + 2) = n
  nlen : byteAt S (j + 3) + 256 * byteAt S (j + 4) = m
theorem getD_mid {pre : List UInt8} {l rest : List UInt8} {i : Nat} (hi : i < l.length) : (pre ++ (l ++ rest)).getD (pre.length + i) 0 = l.getD i 0 := by
  rw [List.getD_eq_getElem?_getD, List.getD_eq_getElem?_getD, List.getElem?_append_right (by omega), Nat.add_sub_cancel_left, List.getElem?_append_left hi]
theorem bk5 {S : ByteArray} {pre rest t : List UInt8} {x : UInt8} {n m : Nat} (hn : n < 65536) (hm : m < 65536) (h : S.data.toList = pre ++ (encX x n m t ++ rest)) : Bk5 S pre.length x n m := by
  have hs : S.size = pre.length + (5 + t.length + rest.length) := by
    have : S.data.toList.length = S.size := by rw [Array.length_toList]; rfl
    rw [← this, h]; simp [encX]; omega
  have hb : ∀ i, i < 5 → byteAt S (pre.length + i) = ((encX x n m t).getD i 0).toNat := fun i hi => by
    unfold byteAt
    rw [h, getD_mid (by simp [encX]; omega)]
  have h0 := hb 0 (by omega)
  have h1 := hb 1 (by omega)
  have h2 := hb 2 (by omega)
  have h3 := hb 3 (by omega)
  have h4 := hb 4 (by omega)
  simp only [encX, List.getD_cons_zero, List.getD_cons_succ, UInt8.toNat_ofNat'] at h0 h1 h2 h3 h4
  refine ⟨by omega, by simpa using h0, ?_, ?_⟩
  · rw [h1, h2]; omega
  · rw [h3, h4]; omega
/-- A block that is right, with room for it. -/
theorem stored_ok {S : ByteArray} {most : Nat} {pre rest t out : List UInt8} {x : UInt8} (ht : t.length ≤ 300) (h : S.data.toList = pre ++ (enc x t ++ rest)) (hf : out.length + t.length ≤ most) :
    stored S most ⟨8 * pre.length + 3, out, 0⟩ = ⟨8 * (pre.length + (5 + t.length)), out ++ t, 0⟩ := by
  have b := bk5 (by omega) (by omega) h
  have hs : S.size = pre.length + (5 + t.length + rest.length) := by
    have : S.data.toList.length = S.size := by rw [Array.length_toList]; rfl
    rw [← this, h]; simp [enc_length]
  unfold stored
  rw [storedHead_at b.size, b.len, b.nlen, if_neg (by omega)]
  dsimp only
  rw [storedLoop_ok _ _ _ (by omega) hf, h, show pre.length + 5 + t.length = pre.length + (5 + t.length) from by omega]
  congr 2
  rw [List.drop_append, List.drop_eq_nil_of_le (by omega), Nat.add_sub_cancel_left]
  simp [enc, encX]
theorem stored_long {S : ByteArray} {most : Nat} {pre rest t out : List UInt8} {x : UInt8} (ht : t.length ≤ 300) (h : S.data.toList = pre ++ (enc x t ++ rest)) (h0 : out.length ≤ most) (hf : most < out.length + t.length) :
    (stored S most ⟨8 * pre.length + 3, out, 0⟩).err = 9 := by
  have b := bk5 (by omega) (by omega) h
  have hs : S.size = pre.length + (5 + t.length + rest.length) := by
    have : S.data.toList.length = S.size := by rw [Array.length_toList]; rfl
    rw [← this, h]; simp [enc_length]
  unfold stored
  rw [storedHead_at b.size, b.len, b.nlen, if_neg (by omega)]
  exact storedLoop_long _ _ _ (by omega) h0 hf
theorem stored_bad {S : ByteArray} {most j n m : Nat} {x : UInt8} {out : List UInt8} (b : Bk5 S j x n m) (h : n + m ≠ 65535) : (stored S most ⟨8 * j + 3, out, 0⟩).err = 2 := by
  unfold stored
  rw [storedHead_at b.size, b.len, b.nlen, if_pos h]
  rw [storedLoop_err _ (show (2 : Int) ≠ 0 by decide)]
theorem open_step {S : ByteArray} {most f j : Nat} {out : List UInt8} (h : j + 1 ≤ S.size) (hx : byteAt S j ≤ 1) : openLoop S most (f + 1) ⟨8 * j, out, 0⟩ =
    if byteAt S j ≠ 0 ∨ (stored S most ⟨8 * j + 3, out, 0⟩).err ≠ 0 then stored S most ⟨8 * j + 3, out, 0⟩ else openLoop S most f (stored S most ⟨8 * j + 3, out, 0⟩) := by
  have e : openLoop S most (f + 1) ⟨8 * j, out, 0⟩ = if (blockHead S ⟨8 * j, out, 0⟩).2.2.err = 0 then
    (if (blockHead S ⟨8 * j, out, 0⟩).1 ≠ 0 ∨ (kindly S most (blockHead S ⟨8 * j, out, 0⟩).2.1 (blockHead S ⟨8 * j, out, 0⟩).2.2).err ≠ 0 then kindly S most (blockHead S ⟨8 * j, out, 0⟩).2.1 (blockHead S ⟨8 * j, out, 0⟩).2.2 else openLoop S most f (kindly S most (blockHead S ⟨8 * j, out, 0⟩).2.1 (blockHead S ⟨8 * j, out, 0⟩).2.2))
    else (blockHead S ⟨8 * j, out, 0⟩).2.2 := rfl
  rw [e, head_at h hx, if_pos rfl]
  rfl
theorem open_mid {S : ByteArray} {most : Nat} : ∀ (A : List (List UInt8)) (pre out rest : List UInt8) (f : Nat), S.data.toList = pre ++ (encs A ++ rest) → (∀ t ∈ A, t.length ≤ 300) → out.length + A.flatten.length ≤ most →
    openLoop S most (f + A.length) ⟨8 * pre.length, out, 0⟩ = openLoop S most f ⟨8 * (pre.length + (encs A).length), out ++ A.flatten, 0⟩
  | [], pre, out, rest, f, _, _, _ => by simp [encs]
  | t :: A, pre, out, rest, f, h, h3, hf => by
    have ht := h3 t List.mem_cons_self
    have h' : S.data.toList = pre ++ (enc 0 t ++ (encs A ++ rest)) := by rw [h]; simp [encs]
    have b := bk5 (by omega) (by omega) h'
    have hb := b.size
    have hl : (t :: A).flatten.length = t.length + A.flatten.length := by simp
    rw [hl] at hf
    have hst := stored_ok (most := most) (out := out) ht h' (by omega)
    rw [List.length_cons, ← Nat.add_assoc, open_step (by omega) (by rw [b.b0]; decide), hst, if_neg (by rw [b.b0]; simp)]
    have h2 : S.data.toList = (pre ++ enc 0 t) ++ (encs A ++ rest) := by rw [h', List.append_assoc]
    have := open_mid (most := most) A (pre ++ enc 0 t) (out ++ t) rest f h2 (fun u hu => h3 u (List.mem_cons_of_mem _ hu)) (by rw [List.length_append]; omega)
    rw [List.length_append, enc_length] at this
    rw [this]
    have e1 : (encs (t :: A)).length = 5 + t.length + (encs A).length := by
      show (enc 0 t ++ encs A).length = _
      rw [List.length_append, enc_length]
    rw [e1, show pre.length + (5 + t.length) + (encs A).length = pre.length + (5 + t.length + (encs A).length) from by omega, List.flatten_cons, List.append_assoc]
theorem open_mid_long {S : ByteArray} {most : Nat} : ∀ (A : List (List UInt8)) (pre out rest : List UInt8) (f : Nat), S.data.toList = pre ++ (encs A ++ rest) → (∀ t ∈ A, t.length ≤ 300) → out.length ≤ most → most < out.length + A.flatten.length →
    (openLoop S most (f + A.length) ⟨8 * pre.length, out, 0⟩).err = 9
  | [], pre, out, rest, f, _, _, h0, hf => by simp at hf; omega
  | t :: A, pre, out, rest, f, h, h3, h0, hf => by
    have ht := h3 t List.mem_cons_self
    have h' : S.data.toList = pre ++ (enc 0 t ++ (encs A ++ rest)) := by rw [h]; simp [encs]
    have b := bk5 (by omega) (by omega) h'
    have hb := b.size
    have hl : (t :: A).flatten.length = t.length + A.flatten.length := by simp
    rw [hl] at hf
    rw [List.length_cons, ← Nat.add_assoc, open_step (by omega) (by rw [b.b0]; decide)]
    by_cases hr : out.length + t.length ≤ most
    · rw [stored_ok ht h' hr, if_neg (by rw [b.b0]; simp)]
      have h2 : S.data.toList = (pre ++ enc 0 t) ++ (encs A ++ rest) := by rw [h', List.append_assoc]
      have := open_mid_long (most := most) A (pre ++ enc 0 t) (out ++ t) rest f h2 (fun u hu => h3 u (List.mem_cons_of_mem _ hu)) (by rw [List.length_append]; omega) (by rw [List.length_append]; omega)
      rw [List.length_append, enc_length] at this
      exact this
    · have h9 := stored_long ht h' h0 (by omega)
      rw [if_pos (.inr (by rw [h9]; decide))]
      exact h9
theorem open_last {S : ByteArray} {most : Nat} {pre out rest t : List UInt8} {f : Nat} (h : S.data.toList = pre ++ (enc 1 t ++ rest)) (ht : t.length ≤ 300) (hf : out.length + t.length ≤ most) :
    openLoop S most (f + 1) ⟨8 * pre.length, out, 0⟩ = ⟨8 * (pre.length + (5 + t.length)), out ++ t, 0⟩ := by
  have b := bk5 (by omega) (by omega) h
  have hb := b.size
  rw [open_step (by omega) (by rw [b.b0]; decide), stored_ok ht h hf, if_pos (.inl (by rw [b.b0]; decide))]
theorem open_last_long {S : ByteArray} {most : Nat} {pre out rest t : List UInt8} {f : Nat} (h : S.data.toList = pre ++ (enc 1 t ++ rest)) (ht : t.length ≤ 300) (h0 : out.length ≤ most) (hf : most < out.length + t.length) :
    (openLoop S most (f + 1) ⟨8 * pre.length, out, 0⟩).err = 9 := by
  have b := bk5 (by omega) (by omega) h
  have hb := b.size
  rw [open_step (by omega) (by rw [b.b0]; decide), if_pos (.inl (by rw [b.b0]; decide))]
  exact stored_long ht h h0 hf
theorem open_wrong {S : ByteArray} {most j f n m : Nat} {x : UInt8} {out : List UInt8} (b : Bk5 S j x n m) (hx : x.toNat ≤ 1) (h : n + m ≠ 65535) : (openLoop S most (f + 1) ⟨8 * j, out, 0⟩).err = 2 := by
  have hb := b.size
  have h2 := stored_bad (most := most) (out := out) b h
  rw [open_step (by omega) (by rw [b.b0]; exact hx), if_pos (.inr (by rw [h2]; decide))]
  exact h2
theorem encs_le (A : List (List UInt8)) : A.length ≤ (encs A).length := by
  induction A with
  | nil => simp
  | cons t A ih =>
    show A.length + 1 ≤ (enc 0 t ++ encs A).length
    rw [List.length_append, enc_length]; omega
theorem size_list {S : ByteArray} {l : List UInt8} (h : S.data.toList = l) : S.size = l.length := by
  have : S.data.toList.length = S.size := by rw [Array.length_toList]; rfl
  rw [← this, h]
theorem opened_ok {S : ByteArray} {most : Nat} {A : List (List UInt8)} {t rest : List UInt8} (h : S.data.toList = encs A ++ (enc 1 t ++ rest)) (hA : ∀ u ∈ A, u.length ≤ 300) (ht : t.length ≤ 300) (hf : A.flatten.length + t.length ≤ most) :
    opened S most = ⟨8 * ((encs A).length + (5 + t.length)), A.flatten ++ t, 0⟩ := by
  have hs := size_list h
  rw [List.length_append, List.length_append, enc_length] at hs
  have hA2 := encs_le A
  obtain ⟨f, hfu⟩ : ∃ f, 8 * S.size + 1 = f + 1 + A.length := ⟨8 * S.size - A.length, by omega⟩
  unfold opened
  rw [hfu]
  have e := open_mid (most := most) A [] [] (enc 1 t ++ rest) (f + 1) (by rw [h]; rfl) hA (by simpa using (show A.flatten.length ≤ most by omega))
  simp only [List.length_nil, Nat.mul_zero, Nat.zero_add, List.nil_append] at e
  rw [e]
  exact open_last h ht hf
theorem opened_long {S : ByteArray} {most : Nat} {A : List (List UInt8)} {t rest : List UInt8} (h : S.data.toList = encs A ++ (enc 1 t ++ rest)) (hA : ∀ u ∈ A, u.length ≤ 300) (ht : t.length ≤ 300) (hf : most < A.flatten.length + t.length) :
    (opened S most).err = 9 := by
  have hs := size_list h
  rw [List.length_append, List.length_append, enc_length] at hs
  have hA2 := encs_le A
  obtain ⟨f, hfu⟩ : ∃ f, 8 * S.size + 1 = f + 1 + A.length := ⟨8 * S.size - A.length, by omega⟩
  unfold opened
  rw [hfu]
  by_cases hm : A.flatten.length ≤ most
  · have e := open_mid (most := most) A [] [] (enc 1 t ++ rest) (f + 1) (by rw [h]; rfl) hA (by simpa using hm)
    simp only [List.length_nil, Nat.mul_zero, Nat.zero_add, List.nil_append] at e
    rw [e]
    exact open_last_long h ht hm hf
  · have e := open_mid_long (most := most) A [] [] (enc 1 t ++ rest) (f + 1) (by rw [h]; rfl) hA (Nat.zero_le _) (by rw [List.length_nil]; omega)
    exact e
theorem opened_wrong {S : ByteArray} {most n m : Nat} {A : List (List UInt8)} {x : UInt8} {t rest : List UInt8} (hn : n < 65536) (hm : m < 65536) (h : S.data.toList = encs A ++ (encX x n m t ++ rest)) (hA : ∀ u ∈ A, u.length ≤ 300) (hx : x.toNat ≤ 1) (hnm : n + m ≠ 65535) (hf : A.flatten.length ≤ most) :
    (opened S most).err = 2 := by
  have hs := size_list h
  have b := bk5 hn hm h
  have hb := b.size
  have hA2 := encs_le A
  obtain ⟨f, hfu⟩ : ∃ f, 8 * S.size + 1 = f + 1 + A.length := ⟨8 * S.size - A.length, by omega⟩
  unfold opened
  rw [hfu]
  have e := open_mid (most := most) A [] [] (encX x n m t ++ rest) (f + 1) (by rw [h]; rfl) hA (by simpa using hf)
  simp only [List.length_nil, Nat.mul_zero, Nat.zero_add, List.nil_append] at e
  rw [e]
  exact open_wrong b hx hnm
end Go.Proofs.Ytcgcacegkbbmiaa
