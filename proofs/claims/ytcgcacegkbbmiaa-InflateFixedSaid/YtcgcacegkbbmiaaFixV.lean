/- What Open says of bytes that are told by the code that need not be told. No program in sight. -/
import Derived.Test.YtcgcacegkbbmiaaStoredV
import Derived.Test.YtcgcacegkbbmiaaSim
namespace Go.Proofs.Ytcgcacegkbbmiaa

/-- The bits of a number, the highest first. -/
def hb (n k : Nat) : List Nat := (List.range k).map fun j => n / 2 ^ (k - 1 - j) % 2
theorem hb_length (n k : Nat) : (hb n k).length = k := by simp [hb]
theorem hb_get {n k j : Nat} (h : j < k) : (hb n k).getD j 0 = n / 2 ^ (k - 1 - j) % 2 := by
  unfold hb
  rw [List.getD_eq_getElem?_getD, List.getElem?_map, List.getElem?_range h]; rfl
/-- A word of a code is the next symbol. -/
theorem next_word {S : ByteArray} {L : List Nat} {n k pos x : Nat} (hk : k ≤ 15) (hn : n < 2 ^ k) (hb : ∀ j, j < k → bit S (pos + j) = n / 2 ^ (k - 1 - j) % 2) (hs : pos + k ≤ 8 * S.size) (hno : ∀ j, 1 ≤ j → j < k → look L j (n / 2 ^ (k - j)) = none) (hx : look L k n = some x) :
    ∀ d j, d + j = k → 1 ≤ d → next S L (15 - j) j (n / 2 ^ (k - j)) (pos + j) = some (x, pos + k)
  | 0, _, _, h1 => absurd h1 (by omega)
  | d + 1, j, hd, _ => by
    obtain ⟨f, hf⟩ : ∃ f, 15 - j = f + 1 := ⟨14 - j, by omega⟩
    have hcode : 2 * (n / 2 ^ (k - j)) + bit S (pos + j) = n / 2 ^ (k - (j + 1)) := by
      rw [hb j (by omega), show k - 1 - j = k - (j + 1) from by omega, show k - j = k - (j + 1) + 1 from by omega, Nat.pow_succ, ← Nat.div_div_eq_div_mul]
      omega
    rw [hf]
    simp only [next]
    rw [if_neg (by omega), hcode]
    cases d with
    | zero =>
      have hj : j + 1 = k := by omega
      rw [hj, Nat.sub_self, Nat.pow_zero, Nat.div_one, hx]
      simp; omega
    | succ d =>
      rw [hno (j + 1) (by omega) (by omega)]
      have := next_word hk hn hb hs hno hx (d + 1) (j + 1) (by omega) (by omega)
      rw [show 15 - (j + 1) = f from by omega] at this
      exact this
theorem sym_word {S : ByteArray} {L : List Nat} {n k pos x : Nat} {out : List UInt8} (h1 : 1 ≤ k) (hk : k ≤ 15) (hn : n < 2 ^ k) (hb : ∀ j, j < k → bit S (pos + j) = n / 2 ^ (k - 1 - j) % 2) (hs : pos + k ≤ 8 * S.size) (hno : ∀ j, 1 ≤ j → j < k → look L j (n / 2 ^ (k - j)) = none) (hx : look L k n = some x) :
    sym S L ⟨pos, out, 0⟩ = (x, ⟨pos + k, out, 0⟩) := by
  have := next_word hk hn hb hs hno hx k 0 (by omega) h1
  rw [Nat.sub_zero, Nat.sub_zero, Nat.div_eq_of_lt hn, Nat.add_zero] at this
  unfold sym
  rw [if_pos rfl]
  show (match next S L 15 0 0 pos with | some (x, i) => (x, _) | none => _) = _
  rw [this]

theorem fixed_small (j : Nat) (hj : j < 7) (h1 : 1 ≤ j) (c : Nat) : look fixedL j c = none := by
  cases h : look fixedL j c with
  | none => rfl
  | some i =>
    have hc := scan_code h
    have : ∀ j, j < 7 → 1 ≤ j → fixedL.count j = 0 := by decide +kernel
    rw [this j hj h1] at hc; omega
theorem fixed_seven (c : Nat) (h : 24 ≤ c) : look fixedL 7 c = none := by
  cases h' : look fixedL 7 c with
  | none => rfl
  | some i =>
    have hc := scan_code h'
    have e : fixedL.count 7 = 24 ∧ first fixedL 7 = 0 := by decide +kernel
    rw [e.1, e.2] at hc; omega
theorem fixed_eight (w : Nat) (h : w < 144) : look fixedL 8 (48 + w) = some w := by
  have : ∀ w : Fin 144, look fixedL 8 (48 + w.val) = some w.val := by decide +kernel
  exact this ⟨w, h⟩
theorem fixed_end : look fixedL 7 0 = some 256 := by decide +kernel
theorem fixed_good : good fixedL = true ∧ good fixedD = true := by decide +kernel

/-- The words of some bytes, and the end's. -/
def words (ws : List Nat) : List Nat := ws.flatMap (fun w => hb (48 + w) 8) ++ hb 0 7
theorem words_cons (w : Nat) (ws : List Nat) : words (w :: ws) = hb (48 + w) 8 ++ words ws := by simp [words]
theorem words_length (ws : List Nat) : (words ws).length = 8 * ws.length + 7 := by
  induction ws with
  | nil => rfl
  | cons w ws ih => rw [words_cons, List.length_append, hb_length, ih, List.length_cons]; omega
theorem getD_left {a b : List Nat} {i : Nat} (h : i < a.length) : (a ++ b).getD i 0 = a.getD i 0 := by
  rw [List.getD_eq_getElem?_getD, List.getD_eq_getElem?_getD, List.getElem?_append_left h]
theorem getD_right {a b : List Nat} {i : Nat} : (a ++ b).getD (a.length + i) 0 = b.getD i 0 := by
  rw [List.getD_eq_getElem?_getD, List.getD_eq_getElem?_getD, List.getElem?_append_right (by omega), Nat.add_sub_cancel_left]
theorem block_words {S : ByteArray} {most : Nat} : ∀ (ws : List Nat) (pos f : Nat) (out : List UInt8), (∀ w ∈ ws, w < 144) → ws.length < f → (∀ i, i < 8 * ws.length + 7 → bit S (pos + i) = (words ws).getD i 0) → pos + (8 * ws.length + 7) ≤ 8 * S.size → out.length + ws.length ≤ most →
    blockLoop S most fixedL fixedD f ⟨pos, out, 0⟩ = ⟨pos + (8 * ws.length + 7), out ++ ws.map UInt8.ofNat, 0⟩
  | [], pos, f, out, _, hf, hbit, hs, _ => by
    obtain ⟨f, rfl⟩ : ∃ g, f = g + 1 := ⟨f - 1, by simp at hf; omega⟩
    have hsy : sym S fixedL ⟨pos, out, 0⟩ = (256, ⟨pos + 7, out, 0⟩) := by
      refine sym_word (n := 0) (by omega) (by omega) (by decide) (fun j hj => ?_) (by simpa using hs) (fun j h1 h7 => fixed_small j h7 h1 _) fixed_end
      rw [hbit j (by simpa using hj)]
      exact hb_get hj
    show (if (0 : Int) = 0 then _ else _) = _
    rw [if_pos rfl, hsy, if_pos rfl]
    simp
  | w :: ws, pos, f, out, hw, hf, hbit, hs, hm => by
    obtain ⟨f, rfl⟩ : ∃ g, f = g + 1 := ⟨f - 1, by simp at hf; omega⟩
    rw [List.length_cons] at hf hbit hs hm
    have hw1 := hw w List.mem_cons_self
    have hsy : sym S fixedL ⟨pos, out, 0⟩ = (w, ⟨pos + 8, out, 0⟩) := by
      refine sym_word (n := 48 + w) (by omega) (by omega) (by omega) (fun j hj => ?_) (by omega) (fun j h1 h8 => ?_) (fixed_eight w hw1)
      · rw [hbit j (by omega), words_cons, getD_left (by rw [hb_length]; exact hj)]
        exact hb_get hj
      · by_cases h7 : j = 7
        · subst h7; exact fixed_seven _ (by omega)
        · exact fixed_small j (by omega) h1 _
    have hsay : say most (UInt8.ofNat w) ⟨pos + 8, out, 0⟩ = ⟨pos + 8, out ++ [UInt8.ofNat w], 0⟩ := by
      unfold say
      rw [if_pos rfl, if_neg (by show ¬ out.length = most; omega)]
    show (if (0 : Int) = 0 then _ else _) = _
    rw [if_pos rfl, hsy, if_neg (by show ¬ w = 256; omega), if_pos (by show w < 256; omega), hsay]
    rw [block_words ws (pos + 8) f (out ++ [UInt8.ofNat w]) (fun u hu => hw u (List.mem_cons_of_mem _ hu)) (by omega) (fun i hi => ?_) (by omega) (by rw [List.length_append, List.length_cons, List.length_nil]; omega)]
    · rw [show pos + 8 + (8 * ws.length + 7) = pos + (8 * (ws.length + 1) + 7) from by omega]
      simp
    · rw [show pos + 8 + i = pos + (8 + i) from by omega, hbit (8 + i) (by omega), words_cons]
      have := getD_right (a := hb (48 + w) 8) (b := words ws) (i := i)
      rwa [hb_length] at this

/-- Byte j of some bits. -/
def pk (β : List Nat) (j : Nat) : Nat := β.getD (8 * j) 0 + β.getD (8 * j + 1) 0 * 2 + β.getD (8 * j + 2) 0 * 4 + β.getD (8 * j + 3) 0 * 8 + β.getD (8 * j + 4) 0 * 16 + β.getD (8 * j + 5) 0 * 32 + β.getD (8 * j + 6) 0 * 64 + β.getD (8 * j + 7) 0 * 128
theorem bits_le {β : List Nat} (h : ∀ b ∈ β, b ≤ 1) (i : Nat) : β.getD i 0 ≤ 1 := by
  rw [List.getD_eq_getElem?_getD]
  cases hx : β[i]? with
  | none => simp
  | some x => exact h x (List.mem_of_getElem? hx)
theorem pk_lt {β : List Nat} (h : ∀ b ∈ β, b ≤ 1) (j : Nat) : pk β j < 256 := by
  have := fun i => bits_le h i
  have h0 := this (8 * j); have h1 := this (8 * j + 1); have h2 := this (8 * j + 2); have h3 := this (8 * j + 3)
  have h4 := this (8 * j + 4); have h5 := this (8 * j + 5); have h6 := this (8 * j + 6); have h7 := this (8 * j + 7)
  unfold pk; omega
theorem pk_bit {β : List Nat} (h : ∀ b ∈ β, b ≤ 1) (j i : Nat) (hi : i < 8) : pk β j / 2 ^ i % 2 = β.getD (8 * j + i) 0 := by
  have := fun i => bits_le h i
  have h0 := this (8 * j); have h1 := this (8 * j + 1); have h2 := this (8 * j + 2); have h3 := this (8 * j + 3)
  have h4 := this (8 * j + 4); have h5 := this (8 * j + 5); have h6 := this (8 * j + 6); have h7 := this (8 * j + 7)
  unfold pk
  rcases i with _ | _ | _ | _ | _ | _ | _ | _ | i
  all_goals first | omega | (simp only [Nat.add_zero, Nat.reduceAdd]; omega)
/-- The bits, as bytes. -/
def packed (β : List Nat) (nb : Nat) : List UInt8 := (List.range nb).map fun j => UInt8.ofNat (pk β j)
theorem bit_packed {S : ByteArray} {β : List Nat} {nb i : Nat} (h : ∀ b ∈ β, b ≤ 1) (hS : S.data.toList = packed β nb) (hi : i < 8 * nb) : bit S i = β.getD i 0 := by
  have e : byteAt S (i / 8) = pk β (i / 8) := by
    unfold byteAt
    rw [hS]
    unfold packed
    rw [List.getD_eq_getElem?_getD, List.getElem?_map, List.getElem?_range (by omega)]
    simp
    exact pk_lt h _
  have := bit_byte S (i / 8) (i % 8) (by omega)
  rw [show 8 * (i / 8) + i % 8 = i from by omega, e, pk_bit h _ _ (by omega), show 8 * (i / 8) + i % 8 = i from by omega] at this
  exact this
/-- All the bits that are told. -/
def told (ws : List Nat) : List Nat := hb 6 3 ++ words ws
theorem hb_le (n k : Nat) : ∀ b ∈ hb n k, b ≤ 1 := by
  intro b hb'
  obtain ⟨j, _, rfl⟩ := List.mem_map.1 hb'
  omega
theorem told_le (ws : List Nat) : ∀ b ∈ told ws, b ≤ 1 := by
  intro b hb'
  unfold told words at hb'
  rcases List.mem_append.1 hb' with h | h
  · exact hb_le _ _ _ h
  · rcases List.mem_append.1 h with h | h
    · obtain ⟨w, _, h⟩ := List.mem_flatMap.1 h
      exact hb_le _ _ _ h
    · exact hb_le _ _ _ h
theorem told_length (ws : List Nat) : (told ws).length = 8 * ws.length + 10 := by
  unfold told
  rw [List.length_append, hb_length, words_length]; omega
theorem opened_told {S : ByteArray} {ws : List Nat} (hw : ∀ w ∈ ws, w < 144) (hS : S.data.toList = packed (told ws) (ws.length + 3)) :
    opened S ws.length = ⟨8 * ws.length + 10, ws.map UInt8.ofNat, 0⟩ := by
  have hs := size_list hS
  rw [show (packed (told ws) (ws.length + 3)).length = ws.length + 3 from by simp [packed]] at hs
  have hbit : ∀ i, i < 8 * (ws.length + 3) → bit S i = (told ws).getD i 0 := fun i hi => bit_packed (told_le ws) hS hi
  have hlow : ∀ i, i < 3 → (told ws).getD i 0 = 6 / 2 ^ (3 - 1 - i) % 2 := fun i hi => by
    unfold told
    rw [getD_left (by rw [hb_length]; exact hi), hb_get hi]
  have b0 : bit S 0 = 1 := by rw [hbit 0 (by omega), hlow 0 (by omega)]
  have b1 : bit S 1 = 1 := by rw [hbit 1 (by omega), hlow 1 (by omega)]
  have b2 : bit S 2 = 0 := by rw [hbit 2 (by omega), hlow 2 (by omega)]
  have hh : blockHead S ⟨0, [], 0⟩ = (1, 1, ⟨3, [], 0⟩) := by
    have e1 : val S 0 1 = 1 := by show 0 + bit S 0 * 2 ^ 0 = 1; rw [b0]
    have e2 : val S 1 2 = 1 := by show 0 + bit S 1 * 2 ^ 0 + bit S 2 * 2 ^ 1 = 1; rw [b1, b2]
    unfold blockHead
    rw [num_at (by omega)]
    dsimp only
    rw [num_at (by omega), e1, e2]
    rfl
  have hbl : block S ws.length fixedL fixedD ⟨3, [], 0⟩ = ⟨8 * ws.length + 10, ws.map UInt8.ofNat, 0⟩ := by
    unfold block
    have c1 : coder fixedL ⟨3, [], 0⟩ = ⟨3, [], 0⟩ := by unfold coder; rw [if_pos fixed_good.1]
    have c2 : coder fixedD ⟨3, [], 0⟩ = ⟨3, [], 0⟩ := by unfold coder; rw [if_pos fixed_good.2]
    rw [c1, c2, block_words ws 3 (8 * S.size + 1) [] hw (by omega) (fun i hi => ?_) (by omega) (by simp)]
    · rw [show 3 + (8 * ws.length + 7) = 8 * ws.length + 10 from by omega]; rfl
    · rw [hbit (3 + i) (by omega)]
      unfold told
      have := getD_right (a := hb 6 3) (b := words ws) (i := i)
      rwa [hb_length] at this
  unfold opened
  have e := openLoop_succ S ws.length (8 * S.size) ⟨0, [], 0⟩
  rw [hh] at e
  rw [e, if_pos rfl, if_pos (.inl (by decide))]
  show (if (1 : Nat) = 0 then _ else if (1 : Nat) = 1 then _ else _) = _
  rw [if_neg (by decide), if_pos rfl, hbl]
theorem told_ok {S : ByteArray} {ws : List Nat} (hw : ∀ w ∈ ws, w < 144) (hl : ws.length ≤ 100) (hS : S.data.toList = packed (told ws) (ws.length + 3)) : openV S (ws.length : Int) = (ws.map UInt8.ofNat, ws.length + 2, 0) := by
  rw [openV_of (by omega), opened_told hw hS, if_pos rfl]
  dsimp only
  rw [show (8 * ws.length + 10 + 7) / 8 = ws.length + 2 from by omega]
theorem told_cut {S t : ByteArray} {ws : List Nat} {q : Nat} (hw : ∀ w ∈ ws, w < 144) (hl : ws.length ≤ 100) (hS : S.data.toList = packed (told ws) (ws.length + 3)) (hp : Pfx q S t) (ht : t.size = q) (hq : q < ws.length + 2) : (openV t (ws.length : Int)).2.2 = 2 := by
  have h1 := opened_told hw hS
  rcases opened_sim hp.pre ws.length (by rw [h1]) with ⟨_, h3⟩ | ⟨_, h3⟩
  · rw [h1] at h3; dsimp only at h3; omega
  · have h4 := h3 (by rw [ht])
    rw [openV_of (by omega), h4, if_neg (by decide)]
end Go.Proofs.Ytcgcacegkbbmiaa
