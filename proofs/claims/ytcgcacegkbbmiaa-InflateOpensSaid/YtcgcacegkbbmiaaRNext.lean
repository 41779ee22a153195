/- The reference's Next. -/
import Derived.Test.YtcgcacegkbbmiaaRNew
namespace Go.Proofs.Ytcgcacegkbbmiaa
open Go.RowKit

theorem code_step (s : ByteArray) (j cd : Nat) (h : j / 8 < s.size) (hcd : cd < 1099511627776) :
    wrap64 (2 * (cd : Int) + bits .and .i64 (wrap64 ((s[j / 8].toNat : Int) / 2 ^ (j % 8))) 1) = ((2 * cd + bit s j : Nat) : Int) := by
  have hc : s[j / 8].toNat < 256 := s[j / 8].toNat_lt
  have hq : s[j / 8].toNat / 2 ^ (j % 8) < 256 := Nat.lt_of_le_of_lt (Nat.div_le_self _ _) hc
  have e1 : (s[j / 8].toNat : Int) / 2 ^ (j % 8) = ((s[j / 8].toNat / 2 ^ (j % 8) : Nat) : Int) := by simp
  have hand := (bits_nat .i64 63 (by decide) wraps_i64 (s[j / 8].toNat / 2 ^ (j % 8)) 1 (by omega) (by decide)).1
  rw [Nat.and_one_is_mod] at hand
  rw [e1, wraps_i64' _ (by omega)]
  rw [show ((1 : Int)) = ((1 : Nat) : Int) from rfl, hand, bit_at s j h]
  obtain ⟨q, hqe⟩ : ∃ q, q = s[j / 8].toNat / 2 ^ (j % 8) % 2 := ⟨_, rfl⟩
  rw [← hqe]
  unfold wrap64
  omega

set_option maxRecDepth 100000 in
set_option maxHeartbeats 4000000 in
theorem rnext_any {a ca b : Nat} (s : ByteArray) (L : List Nat) (pos : Nat) (hL : L.length ≤ 300) (hs : 8 * s.size < 4611686018427387904) (hpos : pos ≤ 8 * s.size) (w : World) (ha : a < w.heap.size) (hb : b < w.heap.size) (hA : At w a 0 L) (hB : w.heap[b]? = some (.cells (ints L.length (cod L)) 3)) :
    Calls Try.prog 46 #[.agg #[.slice (some ⟨a, 0, none⟩) L.length ca, .slice (some ⟨b, 0, none⟩) L.length L.length], .string s, .int .i64 (pos : Int)] w (NextQ s L pos w) := by
  have HA := Lib.hid hA; clear hA
  have HB := Lib.hid hB; clear hB
  have hd0 : decide ((pos : Int) < 0) = false := by simp
  go_enter Try.func46, Try.ntmps46
  go_wp2_with fail
  obtain ⟨c, hc⟩ : ∃ c, c = w.heap.size := ⟨_, rfl⟩
  rw [← hc]
  generalize hW : World.alloc w _ = W
  have bW : Below c w W := by rw [← hW]; exact (Below.refl _ _).alloc (by omega) _
  have cW : W.heap[c]? = some (.cells #[.slice (some ⟨a, 0, none⟩) L.length ca, .slice (some ⟨b, 0, none⟩) L.length L.length] 65) := by rw [← hW, hc]; exact heap_alloc_new _ _
  have c0 : W.cell? ⟨c, 0, none⟩ = some (.slice (some ⟨a, 0, none⟩) L.length ca) := by rw [cell_at cW]; rfl
  have c1 : W.cell? ⟨c, 1, none⟩ = some (.slice (some ⟨b, 0, none⟩) L.length L.length) := by rw [cell_at cW]; rfl
  have AW : At W a 0 L := HA.out.kept (bW.block a (by omega))
  have BW : W.heap[b]? = some (.cells (ints L.length (cod L)) 3) := (bW.block b (by omega)).trans HB.out
  have bW : Below w.heap.size w W := hc ▸ bW
  have bW := Lib.hid bW
  have AW := Lib.hid AW
  have BW := Lib.hid BW
  clear hW cW hc
  go_loopg [9, 10, 11, 12] 15 (fun q code sz _ _ wr => W = wr ∧ ∃ k cd : Nat, q = 15 - k ∧ k ≤ 15 ∧ cd < 2 ^ k ∧ pos + k ≤ 8 * s.size + k ∧ sz = .int .i64 ((k : Int) + 1) ∧ code = .int .i64 (cd : Int) ∧ Hid (next s L 15 0 0 pos = next s L (15 - k) k cd (pos + k)))
  case atStart => exact ⟨rfl, 0, 0, rfl, by omega, by decide, by omega, rfl, rfl, Lib.hid rfl⟩
  case round =>
    obtain ⟨rfl, k, cd, hq, hk, hcd, _, rfl, rfl, N⟩ := hrel
    have hcd2 : cd < 32768 * 2 := Nat.lt_of_lt_of_le hcd (Nat.pow_le_pow_right (by decide) (show k ≤ 16 by omega))
    by_cases hk15 : k < 15
    · have hd : decide ((k : Int) + 1 ≤ 15) = true := by simp; omega
      obtain ⟨P, hP⟩ : ∃ P, P = pos + k := ⟨_, rfl⟩
      have hPi : (pos : Int) + ((k : Int) + 1) - 1 = (P : Int) := by omega
      have hPl : P ≤ 8 * s.size + 15 := by omega
      have hd1 : decide ((P : Int) < (pos : Int)) = false := by simp; omega
      rw [← hP] at N
      by_cases hin : P < 8 * s.size
      · have hd2 : decide ((s.size : Int) ≤ (P : Int) / 8) = false := by simp; omega
        have i0 : (P : Int) / 8 < (s.size : Int) := by omega
        have i1 : (0 : Int) ≤ (P : Int) / 8 := by omega
        have HP := Lib.hid hP; clear hP
        have hn1 : ¬ P < pos := by have := HP.out; omega
        go_wp2_with fail
        have hcode := code_step s P cd (by omega) (by omega)
        rw [hcode]
        obtain ⟨D, hD⟩ : ∃ D, D = 2 * cd + bit s P := ⟨_, rfl⟩
        rw [← hD]
        have hDl : D < 2 ^ (k + 1) := by have := bit_lt s P; rw [hD, Nat.pow_succ]; omega
        have hN : next s L 15 0 0 pos = match look L (k + 1) D with | some x => some (x, P + 1) | none => next s L (15 - (k + 1)) (k + 1) D (P + 1) := by
          rw [N.out]
          obtain ⟨f, hf⟩ : ∃ f, 15 - k = f + 1 := ⟨14 - k, by omega⟩
          rw [hf, show 15 - (k + 1) = f from by omega]
          simp only [next]
          rw [if_neg (by omega), ← hD]
          cases look L (k + 1) D <;> rfl
        have hlk : look L (k + 1) D = scan (k + 1) D L 0 (first L (k + 1)) := rfl
        have HN := Lib.hid hN; clear hN
        have HD := Lib.hid hD; clear hD hcode
        have HLK := Lib.hid hlk; clear hlk
        go_loopg [12] L.length (fun g i wr => W = wr ∧ ∃ j : Nat, g = L.length - j ∧ j ≤ L.length ∧ i = .int .i64 (j : Int) ∧ Hid (look L (k + 1) D = scan (k + 1) D (L.drop j) j (first L (k + 1) + (L.take j).count (k + 1))))
        case atStart => exact ⟨rfl, 0, rfl, Nat.zero_le _, rfl, HLK⟩
        case round =>
          obtain ⟨rfl, j, hqj, hj, rfl, S⟩ := hrel
          by_cases hlt : j < L.length
          · have hdj : decide ((j : Int) < (L.length : Int)) = true := by simp; omega
            obtain ⟨x, hx⟩ : ∃ x, L[j]? = some x := ⟨_, List.getElem?_eq_getElem hlt⟩
            have cx : W.cell? ⟨a, j, none⟩ = some (.int .i64 (x : Int)) := by have := AW.out j x hx; rwa [Nat.zero_add] at this
            have cy : W.cell? ⟨b, j, none⟩ = some (.int .i64 (cod L j : Int)) := by rw [cell_at BW.out, ints_get _ hlt]
            have hdrop : L.drop j = x :: L.drop (j + 1) := by
              rw [List.drop_eq_getElem_cons hlt]
              rw [List.getElem?_eq_getElem hlt] at hx
              rw [Option.some.inj hx]
            have hct : (L.take (j + 1)).count (k + 1) = (L.take j).count (k + 1) + if x = k + 1 then 1 else 0 := by
              rw [List.take_add_one, hx]
              by_cases h : x = k + 1
              · subst h; simp [List.count_append]
              · rw [if_neg h, List.count_append]; simp [h]
            have hcod : x = k + 1 → cod L j = first L (k + 1) + (L.take j).count (k + 1) := fun h => by
              have hd : L.getD j 0 = x := by rw [List.getD_eq_getElem?_getD, hx]; rfl
              unfold cod; rw [hd, h, if_neg (by omega)]
            obtain ⟨y, hy⟩ : ∃ y, y = cod L j := ⟨_, rfl⟩
            rw [← hy] at cy hcod
            have hS := S.out
            rw [hdrop] at hS
            have HX := Lib.hid hx; clear hx
            have HY := Lib.hid hy; clear hy hdrop
            have HCT := Lib.hid hct; clear hct
            have i2 : (j : Int) < (L.length : Int) := by omega
            by_cases hxk : x = k + 1
            · have e1 : ((x : Int) == (k : Int) + 1) = true := by simp; omega
              have hyv := hcod hxk
              by_cases hyD : y = D
              · have e2 : ((y : Int) == (D : Int)) = true := by simp; omega
                have hres : next s L 15 0 0 pos = some (j, P + 1) := by
                  rw [HN.out, hS]
                  simp only [scan]
                  rw [if_pos hxk, if_pos (by omega)]
                have HRES := Lib.hid hres; clear hres hS hyv hcod
                have HXK := Lib.hid hxk; clear hxk
                have HYD := Lib.hid hyD; clear hyD
                go_wp2
                go_ret3
                refine NextQ.some HRES.out bW.out
              · have e2 : ((y : Int) == (D : Int)) = false := by simp; omega
                have hS2 : look L (k + 1) D = scan (k + 1) D (L.drop (j + 1)) (j + 1) (first L (k + 1) + (L.take (j + 1)).count (k + 1)) := by
                  rw [hS]
                  simp only [scan]
                  rw [if_pos hxk, if_neg (by omega), HCT.out, if_pos hxk, Nat.add_assoc]
                have HS2 := Lib.hid hS2; clear hS2 hS hyv hcod
                have HXK := Lib.hid hxk; clear hxk
                go_wp2
                go_roundg (L.length - (j + 1))
                case measure => omega
                case rel => exact ⟨rfl, j + 1, rfl, hlt, by go_num, HS2⟩
            · have e1 : ((x : Int) == (k : Int) + 1) = false := by simp; omega
              have hS2 : look L (k + 1) D = scan (k + 1) D (L.drop (j + 1)) (j + 1) (first L (k + 1) + (L.take (j + 1)).count (k + 1)) := by
                rw [hS]
                simp only [scan]
                rw [if_neg hxk, HCT.out, if_neg hxk]; rfl
              have HS2 := Lib.hid hS2; clear hS2 hS hcod
              go_wp2
              go_roundg (L.length - (j + 1))
              case measure => omega
              case rel => exact ⟨rfl, j + 1, rfl, hlt, by go_num, HS2⟩
          · obtain rfl : j = L.length := by omega
            have hdj : decide ((L.length : Int) < (L.length : Int)) = false := by simp
            have hno : look L (k + 1) D = none := by rw [S.out, List.drop_length]; rfl
            have hnx : next s L 15 0 0 pos = next s L (15 - (k + 1)) (k + 1) D (pos + (k + 1)) := by
              rw [HN.out, hno]
              rw [show pos + (k + 1) = P + 1 from by have := HP.out; omega]
            have HNX := Lib.hid hnx; clear hnx hno
            have HPI := Lib.hid hPi; clear hPi
            go_wp2
            go_roundg (15 - (k + 1))
            case measure => omega
            case rel => exact ⟨rfl, k + 1, D, rfl, by omega, hDl, by omega, by go_num, rfl, HNX⟩
      · have hd2 : decide ((s.size : Int) ≤ (P : Int) / 8) = true := by simp; omega
        have hn1 : ¬ P < pos := by omega
        have hnone : next s L 15 0 0 pos = none := by
          rw [N.out]
          obtain ⟨f, hf⟩ : ∃ f, 15 - k = f + 1 := ⟨14 - k, by omega⟩
          rw [hf]
          simp only [next]
          rw [if_pos (by omega)]
        have HNONE := Lib.hid hnone; clear hnone
        have HP := Lib.hid hP; clear hP
        go_wp2
        go_ret3
        exact NextQ.none HNONE.out (by decide) bW.out
    · obtain rfl : k = 15 := by omega
      have hd : decide (((15 : Nat) : Int) + 1 ≤ 15) = false := by simp
      have hnone : next s L 15 0 0 pos = none := by rw [N.out]; rfl
      have HNONE := Lib.hid hnone; clear hnone
      go_wp2
      go_ret3
      exact NextQ.none HNONE.out (by decide) bW.out
end Go.Proofs.Ytcgcacegkbbmiaa
