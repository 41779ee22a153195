/- What the law InflateStored asks of Open. No program in sight. -/
import Derived.Test.YtcgcacegkbbmiaaStoredV
import Derived.Test.YtcgcacegkbbmiaaSim
namespace Go.Proofs.Ytcgcacegkbbmiaa

/-- What is told when so many have been told. -/
def body (T : List (List UInt8)) (i : Nat) : List UInt8 := if i < T.length ∨ i = 0 then encs (T.take i) else encs (T.take (i - 1)) ++ enc 1 (T.getD (i - 1) [])
theorem getD_take_succ {T : List (List UInt8)} {j : Nat} (h : j < T.length) : T.take (j + 1) = T.take j ++ [T.getD j []] := by
  rw [List.take_add_one, List.getD_eq_getElem?_getD, List.getElem?_eq_getElem h]; rfl
theorem take_flat {T : List (List UInt8)} {j : Nat} (h : j < T.length) : (T.take j).flatten ++ T.getD j [] = (T.take (j + 1)).flatten := by
  rw [getD_take_succ h, List.flatten_append, List.flatten_cons, List.flatten_nil, List.append_nil]
theorem encs_take {T : List (List UInt8)} {j : Nat} (h : j < T.length) : encs (T.take (j + 1)) = encs (T.take j) ++ enc 0 (T.getD j []) := by
  unfold encs
  rw [getD_take_succ h, List.flatMap_append, List.flatMap_cons, List.flatMap_nil, List.append_nil]
theorem getD_le {T : List (List UInt8)} (h : ∀ t ∈ T, t.length ≤ 300) (j : Nat) : (T.getD j []).length ≤ 300 := by
  rw [List.getD_eq_getElem?_getD]
  cases hx : T[j]? with
  | none => simp
  | some x => exact h x (List.mem_of_getElem? hx)
theorem body_all {T : List (List UInt8)} (h : T ≠ []) : body T T.length = encs (T.take (T.length - 1)) ++ enc 1 (T.getD (T.length - 1) []) := by
  have := List.length_pos_iff.2 h
  unfold body
  rw [if_neg (by omega)]
theorem flat_all {T : List (List UInt8)} (h : T ≠ []) : (T.take (T.length - 1)).flatten ++ T.getD (T.length - 1) [] = T.flatten := by
  have := List.length_pos_iff.2 h
  rw [take_flat (by omega), show T.length - 1 + 1 = T.length from by omega, List.take_length]
theorem law_ok {T : List (List UInt8)} {sv av : ByteArray} (more : List UInt8) {S : ByteArray} (hT : T ≠ []) (h3 : ∀ t ∈ T, t.length ≤ 300) (hs : sv.data.toList = body T T.length) (ha : av.data.toList = T.flatten) (hS : S.data.toList = sv.data.toList ++ more) (hk : av.size ≤ 1048576) :
    openV S (av.size : Int) = (av.data.toList, sv.size, 0) := by
  have hav := size_list ha
  have hsv := size_list hs
  rw [body_all hT, List.length_append, enc_length] at hsv
  rw [body_all hT] at hs
  have hfl := flat_all hT
  have hfl2 : ((T.take (T.length - 1)).flatten).length + (T.getD (T.length - 1) []).length = T.flatten.length := by rw [← hfl, List.length_append]
  have e := opened_ok (S := S) (most := av.size) (A := T.take (T.length - 1)) (t := T.getD (T.length - 1) []) (rest := more) (by rw [hS, hs, List.append_assoc]) (fun u hu => h3 u (List.mem_of_mem_take hu)) (getD_le h3 _) (by omega)
  rw [openV_of hk, e, if_pos rfl, hfl, ha]
  dsimp only
  rw [← hsv, show (8 * sv.size + 7) / 8 = sv.size from by omega]
theorem law_short {T : List (List UInt8)} {sv av : ByteArray} (hT : T ≠ []) (h3 : ∀ t ∈ T, t.length ≤ 300) (hs : sv.data.toList = body T T.length) (ha : av.data.toList = T.flatten) (hk : av.size ≤ 1048576) :
    (openV sv ((av.size - 1 : Nat) : Int)).2.2 = if av.size = 0 then 0 else 9 := by
  have hav := size_list ha
  rw [body_all hT] at hs
  have hfl := flat_all hT
  have hfl2 : ((T.take (T.length - 1)).flatten).length + (T.getD (T.length - 1) []).length = T.flatten.length := by rw [← hfl, List.length_append]
  have hS : sv.data.toList = encs (T.take (T.length - 1)) ++ (enc 1 (T.getD (T.length - 1) []) ++ []) := by rw [hs, List.append_nil]
  rw [openV_of (by omega)]
  by_cases h0 : av.size = 0
  · have e := opened_ok (most := av.size - 1) hS (fun u hu => h3 u (List.mem_of_mem_take hu)) (getD_le h3 _) (by omega)
    rw [e, if_pos rfl, if_pos h0]
  · have e := opened_long (most := av.size - 1) hS (fun u hu => h3 u (List.mem_of_mem_take hu)) (getD_le h3 _) (by omega)
    rw [if_neg (by rw [e]; decide), if_neg h0]
    exact e
theorem body_split {T : List (List UInt8)} {i : Nat} (hi : i < T.length) : ∃ (x : UInt8) (rest : List UInt8), x.toNat ≤ 1 ∧ body T T.length = encs (T.take i) ++ (enc x (T.getD i []) ++ rest) := by
  have hT : T ≠ [] := fun h => by rw [h] at hi; simp at hi
  rw [body_all hT]
  by_cases h : i = T.length - 1
  · rw [h]; exact ⟨1, [], by decide, by rw [List.append_nil]⟩
  · refine ⟨0, encs ((T.take (T.length - 1)).drop (i + 1)) ++ enc 1 (T.getD (T.length - 1) []), by decide, ?_⟩
    have e : T.take (T.length - 1) = T.take (i + 1) ++ (T.take (T.length - 1)).drop (i + 1) := by
      have := (List.take_append_drop (i + 1) (T.take (T.length - 1))).symm
      rwa [List.take_take, show min (i + 1) (T.length - 1) = i + 1 from by omega] at this
    have e2 : encs (T.take (T.length - 1)) = encs (T.take (i + 1)) ++ encs ((T.take (T.length - 1)).drop (i + 1)) := by
      have : encs (T.take (i + 1) ++ (T.take (T.length - 1)).drop (i + 1)) = _ := List.flatMap_append
      rw [← e] at this; exact this
    rw [e2, encs_take hi, List.append_assoc, List.append_assoc]
theorem xor_ne {c lo : Nat} (h : c ^^^ lo = c) : lo = 0 := by
  have : c ^^^ (c ^^^ lo) = lo := by rw [← Nat.xor_assoc, Nat.xor_self, Nat.zero_xor]
  rw [h, Nat.xor_self] at this
  exact this.symm
theorem law_bad {T : List (List UInt8)} {sv S : ByteArray} {i lo hi : Nat} (hi2 : i < T.length) (h3 : ∀ t ∈ T, t.length ≤ 300) (hl : T.length ≤ 10) (hs : sv.data.toList = body T T.length) (hlo : lo < 256) (hhi : hi < 256) (hne : lo ≠ 0 ∨ hi ≠ 0)
    (hS : S.data.toList = (sv.data.toList.set ((encs (T.take i)).length + 3) (UInt8.ofNat (byteAt sv ((encs (T.take i)).length + 3) ^^^ lo))).set ((encs (T.take i)).length + 4) (UInt8.ofNat (byteAt sv ((encs (T.take i)).length + 4) ^^^ hi))) :
    (openV S 1048576).2.2 = 2 := by
  obtain ⟨x, rest, hx, hb⟩ := body_split hi2
  rw [hb] at hs
  obtain ⟨P, hP⟩ : ∃ P, P = encs (T.take i) := ⟨_, rfl⟩
  obtain ⟨t, ht⟩ : ∃ t, t = T.getD i [] := ⟨_, rfl⟩
  have htl : t.length ≤ 300 := by rw [ht]; exact getD_le h3 i
  rw [← hP, ← ht] at hs
  rw [← hP] at hS
  have b := bk5 (m := 65535 - t.length) (n := t.length) (by omega) (by omega) hs
  obtain ⟨c, hc⟩ : ∃ c, c = byteAt sv (P.length + 3) := ⟨_, rfl⟩
  obtain ⟨d, hd⟩ : ∃ d, d = byteAt sv (P.length + 4) := ⟨_, rfl⟩
  have hcl : c < 256 := by rw [hc]; exact byteAt_lt _ _
  have hdl : d < 256 := by rw [hd]; exact byteAt_lt _ _
  have hcx : c ^^^ lo < 2 ^ 8 := Nat.xor_lt_two_pow (by omega) (by omega)
  have hdx : d ^^^ hi < 2 ^ 8 := Nat.xor_lt_two_pow (by omega) (by omega)
  have hcd := b.nlen
  rw [← hc, ← hd] at hcd hS
  have hS2 : S.data.toList = encs (T.take i) ++ (encX x t.length ((c ^^^ lo) + 256 * (d ^^^ hi)) t ++ rest) := by
    rw [hS, hs, ← hP, List.set_append_right _ _ (by omega), List.set_append_right _ _ (by omega), show P.length + 3 - P.length = 3 from by omega, show P.length + 4 - P.length = 4 from by omega]
    unfold enc encX
    simp only [List.cons_append, List.set_cons_succ, List.set_cons_zero]
    rw [show ((c ^^^ lo) + 256 * (d ^^^ hi)) % 256 = c ^^^ lo from by omega, show ((c ^^^ lo) + 256 * (d ^^^ hi)) / 256 = d ^^^ hi from by omega]
  have hfl : (T.take i).flatten.length ≤ 1048576 := by
    have : ∀ A : List (List UInt8), (∀ t ∈ A, t.length ≤ 300) → A.flatten.length ≤ 300 * A.length := fun A h => by
      induction A with
      | nil => simp
      | cons t A ih =>
        have h1 := ih (fun u hu => h u (List.mem_cons_of_mem _ hu))
        have h2 := h t List.mem_cons_self
        rw [List.flatten_cons, List.length_append, List.length_cons]; omega
    have h1 := this (T.take i) (fun u hu => h3 u (List.mem_of_mem_take hu))
    have h2 : (T.take i).length ≤ T.length := by rw [List.length_take]; omega
    omega
  have hne2 : t.length + ((c ^^^ lo) + 256 * (d ^^^ hi)) ≠ 65535 := fun h => by
    have h1 : c ^^^ lo = c := by omega
    have h2 : d ^^^ hi = d := by omega
    rcases hne with h' | h'
    · exact h' (xor_ne h1)
    · exact h' (xor_ne h2)
  have e := opened_wrong (most := 1048576) (by omega) (by omega) hS2 (fun u hu => h3 u (List.mem_of_mem_take hu)) hx hne2 hfl
  have e2 := openV_of (s := S) (k := 1048576) (by omega)
  rw [if_neg (by rw [e]; decide)] at e2
  show (openV S ((1048576 : Nat) : Int)).2.2 = 2
  rw [e2]
  exact e
theorem openV_none : openV ⟨#[]⟩ 0 = ([], 0, 2) := by decide +kernel
end Go.Proofs.Ytcgcacegkbbmiaa
