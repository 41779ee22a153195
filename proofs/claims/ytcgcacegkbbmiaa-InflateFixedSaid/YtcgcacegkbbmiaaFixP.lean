/- The law InflateFixed, walked: the closure that puts bits. -/
import Derived.Test.YtcgcacegkbbmiaaEx
import Derived.Test.YtcgcacegkbbmiaaFixV
namespace Go.Proofs.Ytcgcacegkbbmiaa
open Go.RowKit

/-- The bytes of some bits, as cells. -/
def rowOf (β : List Nat) (nb : Nat) : Array Value := ((List.range nb).map fun j => Value.int .u8 (pk β j : Int)).toArray
theorem rowOf_get {β : List Nat} {nb j : Nat} (h : j < nb) : (rowOf β nb)[j]? = some (.int .u8 (pk β j : Int)) := by
  unfold rowOf
  rw [List.getElem?_toArray, List.getElem?_map, List.getElem?_range h]; rfl
/-- The closure's two variables, and the bytes. -/
structure Pt (w : World) (pa pb g nb : Nat) (β : List Nat) : Prop where
  ha : w.heap[pa]? = some (.cells #[.int .i64 (β.length : Int)] 3)
  hb : w.heap[pb]? = some (.cells #[.slice (some ⟨g, 0, none⟩) nb nb] 36)
  hr : w.heap[g]? = some (.cells (rowOf β nb) 5)
  hag : pa ≠ g
  hbg : pb ≠ g
  hab : pa ≠ pb
  le : ∀ b ∈ β, b ≤ 1

theorem bit_int (n i : Nat) : ((n : Int) / 2 ^ i).tmod 2 = ((n / 2 ^ i % 2 : Nat) : Int) := by
  have e : (n : Int) / 2 ^ i = ((n / 2 ^ i : Nat) : Int) := by simp
  rw [e, Int.tmod_eq_emod_of_nonneg (Int.natCast_nonneg _)]
  omega
theorem pk_low {γ : List Nat} (h : ∀ b ∈ γ, b ≤ 1) : pk γ (γ.length / 8) < 2 ^ (γ.length % 8) := by
  have z : ∀ i, γ.length ≤ i → γ.getD i 0 = 0 := fun i hi => by rw [List.getD_eq_getElem?_getD, List.getElem?_eq_none hi]; rfl
  obtain ⟨q, hq⟩ : ∃ q, q = γ.length / 8 := ⟨_, rfl⟩
  obtain ⟨r, hr⟩ : ∃ r, r = γ.length % 8 := ⟨_, rfl⟩
  rw [← hq, ← hr]
  have b := fun i => bits_le h i
  have b0 := b (8 * q); have b1 := b (8 * q + 1); have b2 := b (8 * q + 2); have b3 := b (8 * q + 3)
  have b4 := b (8 * q + 4); have b5 := b (8 * q + 5); have b6 := b (8 * q + 6); have b7 := b (8 * q + 7)
  have z0 := z (8 * q); have z1 := z (8 * q + 1); have z2 := z (8 * q + 2); have z3 := z (8 * q + 3)
  have z4 := z (8 * q + 4); have z5 := z (8 * q + 5); have z6 := z (8 * q + 6); have z7 := z (8 * q + 7)
  have hr8 : r < 8 := by omega
  unfold pk
  rcases r with _ | _ | _ | _ | _ | _ | _ | _ | r
  all_goals first | omega | (simp only [Nat.reduceAdd, Nat.reducePow]; omega)
theorem getD_snoc (γ : List Nat) (b i : Nat) : (γ ++ [b]).getD i 0 = if i = γ.length then b else γ.getD i 0 := by
  rw [List.getD_eq_getElem?_getD, List.getD_eq_getElem?_getD]
  by_cases h : i < γ.length
  · rw [List.getElem?_append_left h, if_neg (by omega)]
  · by_cases h2 : i = γ.length
    · subst h2; simp
    · rw [if_neg h2, List.getElem?_eq_none (by simp; omega), List.getElem?_eq_none (by omega)]
theorem pk_snoc (γ : List Nat) (b j : Nat) : pk (γ ++ [b]) j = pk γ j + if j = γ.length / 8 then b * 2 ^ (γ.length % 8) else 0 := by
  have z : ∀ i, γ.length ≤ i → γ.getD i 0 = 0 := fun i hi => by rw [List.getD_eq_getElem?_getD, List.getElem?_eq_none hi]; rfl
  have s := fun i => getD_snoc γ b i
  by_cases hj : j = γ.length / 8
  · rw [if_pos hj]
    obtain ⟨r, hr⟩ : ∃ r, r = γ.length % 8 := ⟨_, rfl⟩
    have hl : γ.length = 8 * j + r := by omega
    have hr8 : r < 8 := by omega
    rw [← hr]
    have zl := z γ.length (Nat.le_refl _)
    unfold pk
    rw [s, s, s, s, s, s, s, s]
    rw [hl] at zl ⊢
    clear hr hj hl s z
    rcases r with _ | _ | _ | _ | _ | _ | _ | _ | r
    · rw [if_pos (by omega), if_neg (by omega), if_neg (by omega), if_neg (by omega), if_neg (by omega), if_neg (by omega), if_neg (by omega), if_neg (by omega)]; simp only [Nat.add_zero] at zl; omega
    · rw [if_neg (by omega), if_pos (by omega), if_neg (by omega), if_neg (by omega), if_neg (by omega), if_neg (by omega), if_neg (by omega), if_neg (by omega)]; simp only [Nat.reduceAdd, Nat.reducePow] at zl ⊢; omega
    · rw [if_neg (by omega), if_neg (by omega), if_pos (by omega), if_neg (by omega), if_neg (by omega), if_neg (by omega), if_neg (by omega), if_neg (by omega)]; simp only [Nat.reduceAdd, Nat.reducePow] at zl ⊢; omega
    · rw [if_neg (by omega), if_neg (by omega), if_neg (by omega), if_pos (by omega), if_neg (by omega), if_neg (by omega), if_neg (by omega), if_neg (by omega)]; simp only [Nat.reduceAdd, Nat.reducePow] at zl ⊢; omega
    · rw [if_neg (by omega), if_neg (by omega), if_neg (by omega), if_neg (by omega), if_pos (by omega), if_neg (by omega), if_neg (by omega), if_neg (by omega)]; simp only [Nat.reduceAdd, Nat.reducePow] at zl ⊢; omega
    · rw [if_neg (by omega), if_neg (by omega), if_neg (by omega), if_neg (by omega), if_neg (by omega), if_pos (by omega), if_neg (by omega), if_neg (by omega)]; simp only [Nat.reduceAdd, Nat.reducePow] at zl ⊢; omega
    · rw [if_neg (by omega), if_neg (by omega), if_neg (by omega), if_neg (by omega), if_neg (by omega), if_neg (by omega), if_pos (by omega), if_neg (by omega)]; simp only [Nat.reduceAdd, Nat.reducePow] at zl ⊢; omega
    · rw [if_neg (by omega), if_neg (by omega), if_neg (by omega), if_neg (by omega), if_neg (by omega), if_neg (by omega), if_neg (by omega), if_pos (by omega)]; simp only [Nat.reduceAdd, Nat.reducePow] at zl ⊢; omega
    · omega
  · rw [if_neg hj, Nat.add_zero]
    unfold pk
    rw [s, s, s, s, s, s, s, s, if_neg (by omega), if_neg (by omega), if_neg (by omega), if_neg (by omega), if_neg (by omega), if_neg (by omega), if_neg (by omega), if_neg (by omega)]
theorem row_zero (γ : List Nat) (nb : Nat) : rowOf (γ ++ [0]) nb = rowOf γ nb := by
  unfold rowOf
  congr 1
  refine List.map_congr_left fun j _ => ?_
  rw [pk_snoc, Nat.zero_mul, ite_self, Nat.add_zero]
theorem row_one (γ : List Nat) (nb : Nat) : (rowOf γ nb).setIfInBounds (γ.length / 8) (.int .u8 ((pk γ (γ.length / 8) + 2 ^ (γ.length % 8) : Nat) : Int)) = rowOf (γ ++ [1]) nb := by
  apply Array.ext_getElem?
  intro j
  by_cases hj : j < nb
  · rw [rowOf_get hj, pk_snoc, Nat.one_mul]
    by_cases h : γ.length / 8 = j
    · subst h
      rw [Array.getElem?_setIfInBounds_self_of_lt (by simp [rowOf]; exact hj), if_pos rfl]
    · rw [Array.getElem?_setIfInBounds_ne h, rowOf_get hj, if_neg (fun e => h e.symm), Nat.add_zero]
  · rw [Array.getElem?_eq_none (by simp [rowOf]; omega), Array.getElem?_eq_none (by simp [rowOf]; omega)]
theorem or_add {γ : List Nat} (h : ∀ b ∈ γ, b ≤ 1) : bits .or .u8 (pk γ (γ.length / 8) : Int) (2 ^ (γ.length % 8) % 256) = ((pk γ (γ.length / 8) + 2 ^ (γ.length % 8) : Nat) : Int) := by
  have hl := pk_low h
  have hr : γ.length % 8 < 8 := by omega
  generalize γ.length % 8 = r at hl hr
  generalize pk γ (γ.length / 8) = x at hl
  have hp : 2 ^ r ≤ 2 ^ 7 := Nat.pow_le_pow_right (by decide) (by omega)
  have e : (2 : Int) ^ r % 256 = ((2 ^ r : Nat) : Int) := by
    have e1 : (2 : Int) ^ r = ((2 ^ r : Nat) : Int) := by simp
    rw [e1]; omega
  rw [e, (bits_nat .u8 8 (by decide) (fun n h0 h1 => by rw [IntKind.wrap_u8']; omega) x (2 ^ r) (by omega) (by omega)).2]
  congr 1
  have := Nat.two_pow_add_eq_or_of_lt hl 1
  rw [Nat.mul_one] at this
  rw [Nat.or_comm, ← this]; omega
theorem hb_take {n k j : Nat} (h : j < k) : (hb n k).take (j + 1) = (hb n k).take j ++ [n / 2 ^ (k - 1 - j) % 2] := by
  rw [List.take_add_one]
  unfold hb
  rw [List.getElem?_map, List.getElem?_range h]; rfl
/-- A bit is put: 0, 1. -/
theorem Pt.zero {w : World} {pa pb g nb : Nat} {γ : List Nat} (h : Pt w pa pb g nb γ) : Pt (w.setCell ⟨pa, 0, none⟩ (.int .i64 ((γ.length : Int) + 1))) pa pb g nb (γ ++ [0]) :=
  ⟨by rw [heap_setCell_same _ _ _ _ _ _ h.ha, List.length_append]; rfl, by rw [heap_setCell_other _ _ _ _ (fun e => h.hab e.symm)]; exact h.hb, by rw [heap_setCell_other _ _ _ _ (fun e => h.hag e.symm), row_zero]; exact h.hr, h.hag, h.hbg, h.hab,
    fun b hb => by rcases List.mem_append.1 hb with h' | h'
                   · exact h.le b h'
                   · rw [List.mem_singleton.1 h']; omega⟩
theorem Pt.one {w : World} {pa pb g nb : Nat} {γ : List Nat} (h : Pt w pa pb g nb γ) :
    Pt ((w.setCell ⟨g, γ.length / 8, none⟩ (.int .u8 ((pk γ (γ.length / 8) + 2 ^ (γ.length % 8) : Nat) : Int))).drew.setCell ⟨pa, 0, none⟩ (.int .i64 ((γ.length : Int) + 1))) pa pb g nb (γ ++ [1]) := by
  have h1 : (w.setCell ⟨g, γ.length / 8, none⟩ (.int .u8 ((pk γ (γ.length / 8) + 2 ^ (γ.length % 8) : Nat) : Int))).drew.heap[g]? = some (.cells (rowOf (γ ++ [1]) nb) 5) := by
    show (w.setCell _ _).heap[g]? = _
    rw [heap_setCell_same _ _ _ _ _ _ h.hr, row_one]
  have h2 : (w.setCell ⟨g, γ.length / 8, none⟩ (.int .u8 ((pk γ (γ.length / 8) + 2 ^ (γ.length % 8) : Nat) : Int))).drew.heap[pa]? = some (.cells #[.int .i64 (γ.length : Int)] 3) := by
    show (w.setCell _ _).heap[pa]? = _
    rw [heap_setCell_other _ _ _ _ h.hag]; exact h.ha
  have h3 : (w.setCell ⟨g, γ.length / 8, none⟩ (.int .u8 ((pk γ (γ.length / 8) + 2 ^ (γ.length % 8) : Nat) : Int))).drew.heap[pb]? = some (.cells #[.slice (some ⟨g, 0, none⟩) nb nb] 36) := by
    show (w.setCell _ _).heap[pb]? = _
    rw [heap_setCell_other _ _ _ _ h.hbg]; exact h.hb
  exact ⟨by rw [heap_setCell_same _ _ _ _ _ _ h2, List.length_append]; rfl, by rw [heap_setCell_other _ _ _ _ (fun e => h.hab e.symm)]; exact h3, by rw [heap_setCell_other _ _ _ _ (fun e => h.hag e.symm)]; exact h1, h.hag, h.hbg, h.hab,
    fun b hb => by rcases List.mem_append.1 hb with h' | h'
                   · exact h.le b h'
                   · rw [List.mem_singleton.1 h']; omega⟩
set_option maxRecDepth 100000 in
set_option maxHeartbeats 2000000 in
theorem put_any {pa pb g nb : Nat} {β : List Nat} (n k : Nat) (hk1 : 1 ≤ k) (hk : k ≤ 8) (hnb : nb ≤ 200) (w : World) (P : Pt w pa pb g nb β) (hfit : β.length + k ≤ 8 * nb) :
    Calls Try.prog 16 #[.int .i64 (n : Int), .int .i64 (k : Int), .pointer (some ⟨pa, 0, none⟩), .pointer (some ⟨pb, 0, none⟩)] w fun e w' => e = .returned (.tuple #[]) ∧ Pt w' pa pb g nb (β ++ hb n k) ∧ KeptBut [pa, g] w w' := by
  have HP := Lib.hid P; clear P
  go_enter Try.func16, Try.ntmps16
  go_wp2_with fail
  go_loopg [6] k (fun q i wr => ∃ j : Nat, q = k - j ∧ j ≤ k ∧ i = .int .i64 ((k : Int) - 1 - (j : Int)) ∧ Hid (Pt wr pa pb g nb (β ++ (hb n k).take j) ∧ KeptBut [pa, g] w wr))
  case atStart => exact ⟨0, rfl, Nat.zero_le _, by go_num, Lib.hid ⟨by simpa using HP.out, KeptBut.refl _ _⟩⟩
  case round =>
    obtain ⟨j, hq, hj, rfl, R⟩ := hrel
    obtain ⟨γ, hγ⟩ : ∃ γ, γ = β ++ (hb n k).take j := ⟨_, rfl⟩
    rw [← hγ] at R
    have hγl : γ.length = β.length + j := by rw [hγ, List.length_append, List.length_take, hb_length]; omega
    by_cases hlt : j < k
    · have hd : decide ((0 : Int) ≤ (k : Int) - 1 - (j : Int)) = true := by simp; omega
      obtain ⟨i, hi⟩ : ∃ i, i = k - 1 - j := ⟨_, rfl⟩
      have hii : (k : Int) - 1 - (j : Int) = (i : Int) := by omega
      rw [hii] at hd ⊢
      have hil : i < 8 := by omega
      obtain ⟨A, hA⟩ : ∃ A, A = γ.length := ⟨_, rfl⟩
      have cA : wr.cell? ⟨pa, 0, none⟩ = some (.int .i64 (A : Int)) := by rw [cell_at R.out.1.ha, hA]; rfl
      have cB : wr.cell? ⟨pb, 0, none⟩ = some (.slice (some ⟨g, 0, none⟩) nb nb) := by rw [cell_at R.out.1.hb]; rfl
      have cR : wr.cell? ⟨g, A / 8, none⟩ = some (.int .u8 (pk γ (A / 8) : Int)) := by rw [cell_at R.out.1.hr, rowOf_get (by omega)]
      have fR := frozen_of_row wr g (A / 8) _ _ R.out.1.hr
      have fA := frozen_of_row wr pa 0 _ _ R.out.1.ha
      have hAl : A < 8 * nb := by omega
      have HQ := Lib.hid hq; clear hq
      have HA := Lib.hid hA; clear hA
      have HG := Lib.hid hγ; clear hγ
      have HGL := Lib.hid hγl; clear hγl
      have HII := Lib.hid hii; clear hii
      have HI := Lib.hid hi; clear hi
      have hdn : decide ((A : Int) / 8 < (nb : Int)) = true := by simp; omega
      have i0 : (0 : Int) ≤ (A : Int) / 8 := by omega
      have i1 : (A : Int) / 8 < (nb : Int) := by omega
      have i2 : ((A : Int) / 8).toNat = A / 8 := by omega
      have m1 : (A : Int).tmod 8 = ((A % 8 : Nat) : Int) := by rw [Int.tmod_eq_emod_of_nonneg (by omega)]; omega
      by_cases hv : n / 2 ^ i % 2 = 1
      · have hv1 : ((n : Int) / 2 ^ i).tmod 2 = 1 := by rw [bit_int, hv]; rfl
        have hor := or_add (γ := γ) R.out.1.le
        rw [← HA.out] at hor
        obtain ⟨B', hB'⟩ : ∃ b, b = pk γ (A / 8) + 2 ^ (A % 8) := ⟨_, rfl⟩
        rw [← hB'] at hor
        have HBB := Lib.hid hB'; clear hB'
        have h2 : (wr.setCell ⟨g, A / 8, none⟩ (.int .u8 (B' : Int))).drew.heap[pa]? = some (.cells #[.int .i64 (γ.length : Int)] 3) := by
          show (wr.setCell _ _).heap[pa]? = _
          rw [heap_setCell_other _ _ _ _ R.out.1.hag]; exact R.out.1.ha
        have cA2 : (wr.setCell ⟨g, A / 8, none⟩ (.int .u8 (B' : Int))).drew.cell? ⟨pa, 0, none⟩ = some (.int .i64 (A : Int)) := by rw [cell_at h2, HA.out]; rfl
        have fA2 := frozen_of_row _ pa 0 _ _ h2
        clear h2
        go_wp2_with fail
        go_region
        all_goals
          go_wp2
          go_roundg (k - (j + 1))
          case measure => have := HQ.out; omega
          case rel =>
            have h1 := R.out.1.one
            rw [← HA.out, ← HBB.out] at h1
            refine ⟨j + 1, rfl, by omega, by have := HII.out; have := HI.out; go_num, Lib.hid ⟨?_, (((R.out.2.setCell (by simp) _).drew).setCell (by simp) _)⟩⟩
            rw [hb_take hlt, ← List.append_assoc, ← HG.out, ← HI.out, hv]
            exact h1
      · have hv0 : n / 2 ^ i % 2 = 0 := (Nat.mod_two_eq_zero_or_one (n / 2 ^ i)).resolve_right hv
        have hv1 : ((n : Int) / 2 ^ i).tmod 2 = 0 := by rw [bit_int, hv0]; rfl
        have HV0 := Lib.hid hv0; clear hv0
        go_wp2
        go_roundg (k - (j + 1))
        case measure => have := HQ.out; omega
        case rel =>
          have h1 := R.out.1.zero
          rw [← HA.out] at h1
          refine ⟨j + 1, rfl, by omega, by have := HII.out; have := HI.out; go_num, Lib.hid ⟨?_, (R.out.2.setCell (by simp) _)⟩⟩
          rw [hb_take hlt, ← List.append_assoc, ← HG.out, ← HI.out, HV0.out]
          exact h1
    · obtain rfl : j = k := by omega
      have hd : decide ((0 : Int) ≤ (j : Int) - 1 - (j : Int)) = false := by simp; omega
      have e : γ = β ++ hb n j := by rw [hγ, List.take_of_length_le (by rw [hb_length]; exact Nat.le_refl _)]
      rw [e] at R
      have hm1 : (j : Int) - 1 - (j : Int) = -1 := by omega
      rw [hm1]
      clear hγ hγl e hd hm1
      go_wp2
      go_end0
      exact ⟨rfl, R.out.1, R.out.2⟩
end Go.Proofs.Ytcgcacegkbbmiaa
