/- The reference's sum, single, Codes. -/
import Derived.Test.YtcgcacegkbbmiaaRBase
namespace Go.Proofs.Ytcgcacegkbbmiaa
open Go.RowKit

set_option maxRecDepth 100000 in
set_option maxHeartbeats 1000000 in
theorem sum_any {g off cap : Nat} (L : List Nat) (hL : L.length ≤ 300) (h15 : ∀ x ∈ L, x ≤ 15) (w : World) (H : At w g off L) :
    Calls Try.prog 52 #[.slice (some ⟨g, off, none⟩) L.length cap] w fun e w' => e = .returned (.tuple #[.int .i64 (room L : Int), .bool true]) ∧ w = w' := by
  have HH := Lib.hid H; clear H
  go_enter Try.func52, Try.ntmps52
  go_wp2_with fail
  go_loopg [4, 5] 400 (fun g n i wr => wr = w ∧ ∃ j : Nat, g = 400 - j ∧ j ≤ L.length ∧ i = .int .i64 (j : Int) ∧ n = .int .i64 (room (L.take j) : Int))
  case atStart => exact ⟨rfl, 0, rfl, Nat.zero_le _, rfl, rfl⟩
  case round =>
    obtain ⟨rfl, j, hgj, hj, rfl, rfl⟩ := hrel
    have hrl := room_le (L.take j)
    rw [List.length_take, show min j L.length = j from by omega] at hrl
    by_cases hlt : j < L.length
    · have hd : decide ((j : Int) < (L.length : Int)) = true := by simp; omega
      obtain ⟨x, hx⟩ : ∃ x, L[j]? = some x := ⟨_, List.getElem?_eq_getElem hlt⟩
      have hc := HH.out j x hx
      have hx15 := h15 x (List.mem_of_getElem? hx)
      have hs : room (L.take (j + 1)) = room (L.take j) + if x = 0 then 0 else 2 ^ (15 - x) := by
        rw [List.take_add_one, hx]; exact room_snoc _ _
      obtain ⟨r, hr⟩ : ∃ r, r = room (L.take j) := ⟨_, rfl⟩
      rw [← hr] at hrl hs ⊢
      have HS := Lib.hid hs; clear hs
      have HX := Lib.hid hx; clear hx
      have HR := Lib.hid hr; clear hr
      have hl0 : decide ((x : Int) < 0) = false := by simp
      have hl15 : decide ((15 : Int) < (x : Int)) = false := by simp; omega
      by_cases hx0 : x = 0
      · subst hx0
        go_wp2
        go_roundg (400 - (j + 1))
        case measure => omega
        case rel => exact ⟨rfl, j + 1, rfl, hlt, by go_num, by rw [HS.out]; rfl⟩
      · have hp0 : decide ((0 : Int) < (x : Int)) = true := by simp; omega
        have hpw : (2 : Int) ^ (15 - x) ≤ 16384 := by
          have : 2 ^ (15 - x) ≤ 2 ^ 14 := Nat.pow_le_pow_right (by decide) (by omega)
          exact_mod_cast this
        go_wp2
        go_roundg (400 - (j + 1))
        case measure => omega
        case rel => exact ⟨rfl, j + 1, rfl, hlt, by go_num, by rw [HS.out, if_neg hx0, wrap_pow r (15 - x) (by omega) (by omega)]⟩
    · obtain rfl : j = L.length := by omega
      have hd : decide ((L.length : Int) < (L.length : Int)) = false := by simp
      rw [List.take_length]
      clear hrl
      have hd3 : decide ((L.length : Int) ≤ 300) = true := by simp; omega
      go_wp2
      go_ret2
      exact ⟨rfl, rfl⟩

set_option maxRecDepth 100000 in
set_option maxHeartbeats 1000000 in
theorem single_any {g off cap : Nat} (L : List Nat) (hL : L.length ≤ 300) (h15 : ∀ x ∈ L, x ≤ 15) (w : World) (H : At w g off L) :
    Calls Try.prog 53 #[.slice (some ⟨g, off, none⟩) L.length cap] w fun e w' => e = .returned (.bool (decide (L.sum = 1))) ∧ w = w' := by
  have HH := Lib.hid H; clear H
  have hsum : ∀ l : List Nat, (∀ x ∈ l, x ≤ 15) → l.sum ≤ 15 * l.length := fun l h => by
    induction l with
    | nil => simp
    | cons x l ih =>
      have h1 := ih (fun y hy => h y (List.mem_cons_of_mem _ hy))
      have h2 := h x List.mem_cons_self
      rw [List.sum_cons, List.length_cons]; omega
  have HSUM := Lib.hid hsum; clear hsum
  go_enter Try.func53, Try.ntmps53
  go_wp2_with fail
  go_loopg [3, 4] 400 (fun g n i wr => wr = w ∧ ∃ j : Nat, g = 400 - j ∧ j ≤ L.length ∧ i = .int .i64 (j : Int) ∧ n = .int .i64 ((L.take j).sum : Int))
  case atStart => exact ⟨rfl, 0, rfl, Nat.zero_le _, rfl, rfl⟩
  case round =>
    obtain ⟨rfl, j, hgj, hj, rfl, rfl⟩ := hrel
    have hrl := HSUM.out (L.take j) (fun x hx => h15 x (List.mem_of_mem_take hx))
    rw [List.length_take, show min j L.length = j from by omega] at hrl
    by_cases hlt : j < L.length
    · have hd : decide ((j : Int) < (L.length : Int)) = true := by simp; omega
      obtain ⟨x, hx⟩ : ∃ x, L[j]? = some x := ⟨_, List.getElem?_eq_getElem hlt⟩
      have hc := HH.out j x hx
      have hx15 := h15 x (List.mem_of_getElem? hx)
      have hs : (L.take (j + 1)).sum = (L.take j).sum + x := by rw [List.take_add_one, hx]; simp
      obtain ⟨r, hr⟩ : ∃ r, r = (L.take j).sum := ⟨_, rfl⟩
      rw [← hr] at hrl hs ⊢
      have HS := Lib.hid hs; clear hs
      have HX := Lib.hid hx; clear hx
      have HR := Lib.hid hr; clear hr
      go_wp2
      go_roundg (400 - (j + 1))
      case measure => omega
      case rel => exact ⟨rfl, j + 1, rfl, hlt, by go_num, by rw [HS.out]; go_num⟩
    · obtain rfl : j = L.length := by omega
      have hd : decide ((L.length : Int) < (L.length : Int)) = false := by simp
      rw [List.take_length] at hrl ⊢
      obtain ⟨r, hr⟩ : ∃ r, r = L.sum := ⟨_, rfl⟩
      rw [← hr] at hrl ⊢
      have HR := Lib.hid hr; clear hr
      by_cases h1 : r = 1
      · have hd1 : ((r : Int) == 1) = true := by simp; omega
        have H1 := Lib.hid h1; clear h1
        go_wp2
        go_ret
        exact ⟨by rw [← HR.out, decide_eq_true H1.out]; rfl, rfl⟩
      · have hd1 : ((r : Int) == 1) = false := by simp; omega
        go_wp2
        go_ret
        exact ⟨by rw [← HR.out, decide_eq_false h1]; rfl, rfl⟩

/-- The codes that have been given when those of lesser sizes, and so many of this one, have been. -/
def given (L : List Nat) (size i k : Nat) : Nat := if L.getD k 0 ≠ 0 ∧ (L.getD k 0 < size ∨ (L.getD k 0 = size ∧ k < i)) then cod L k else 0
theorem given_start (L : List Nat) (k : Nat) : given L 1 0 k = 0 := by
  unfold given; rw [if_neg (by omega)]
theorem given_next (L : List Nat) (size : Nat) (k : Nat) (hk : k < L.length) : given L size L.length k = given L (size + 1) 0 k := by
  unfold given
  by_cases h : L.getD k 0 ≠ 0 ∧ L.getD k 0 ≤ size
  · rw [if_pos ⟨h.1, by omega⟩, if_pos ⟨h.1, by omega⟩]
  · rw [if_neg (fun k => h ⟨k.1, by omega⟩), if_neg (fun k => h ⟨k.1, by omega⟩)]
theorem given_all (L : List Nat) (h15 : ∀ x ∈ L, x ≤ 15) (k : Nat) (hk : k < L.length) : given L 16 0 k = cod L k := by
  unfold given
  have hx : L.getD k 0 ≤ 15 := by rw [List.getD_eq_getElem?_getD, List.getElem?_eq_getElem hk]; exact h15 _ (List.getElem_mem hk)
  by_cases h : L.getD k 0 = 0
  · rw [if_neg (fun c => c.1 h)]
    unfold cod; rw [if_pos h]
  · rw [if_pos ⟨h, .inl (by omega)⟩]
theorem given_step (L : List Nat) {size i x : Nat} (hs : 1 ≤ size) (hx : L[i]? = some x) (k : Nat) :
    given L size (i + 1) k = if x = size then (if k = i then first L size + (L.take i).count size else given L size i k) else given L size i k := by
  have hd : L.getD i 0 = x := by rw [List.getD_eq_getElem?_getD, hx]; rfl
  by_cases hxs : x = size
  · rw [if_pos hxs]
    by_cases hk : k = i
    · subst hk
      rw [if_pos rfl]
      unfold given cod
      rw [hd, hxs, if_pos ⟨by omega, .inr ⟨rfl, by omega⟩⟩, if_neg (by omega)]
    · rw [if_neg hk]
      unfold given
      by_cases h : L.getD k 0 ≠ 0 ∧ (L.getD k 0 < size ∨ (L.getD k 0 = size ∧ k < i))
      · rw [if_pos ⟨h.1, by omega⟩, if_pos h]
      · rw [if_neg (fun c => h ⟨c.1, by omega⟩), if_neg h]
  · rw [if_neg hxs]
    unfold given
    by_cases hk : k = i
    · subst hk
      rw [hd]
      by_cases h : x ≠ 0 ∧ (x < size ∨ (x = size ∧ k < k))
      · rw [if_pos ⟨h.1, by omega⟩, if_pos h]
      · rw [if_neg (fun c => h ⟨c.1, by omega⟩), if_neg h]
    · by_cases h : L.getD k 0 ≠ 0 ∧ (L.getD k 0 < size ∨ (L.getD k 0 = size ∧ k < i))
      · rw [if_pos ⟨h.1, by omega⟩, if_pos h]
      · rw [if_neg (fun c => h ⟨c.1, by omega⟩), if_neg h]

set_option maxRecDepth 100000 in
set_option maxHeartbeats 2000000 in
theorem rcodes_any {g off cap : Nat} (L : List Nat) (hL : L.length ≤ 300) (h15 : ∀ x ∈ L, x ≤ 15) (w : World) (hg : g < w.heap.size) (H : At w g off L) :
    Calls Try.prog 51 #[.slice (some ⟨g, off, none⟩) L.length cap] w fun e w' =>
      if room L ≤ 32768 then ∃ o, e = .returned (.tuple #[.slice (some ⟨o, 0, none⟩) L.length L.length, .int .i64 0]) ∧ w.heap.size ≤ o ∧ Below w.heap.size w w' ∧ w'.heap[o]? = some (.cells (ints L.length (cod L)) 3)
      else e = .returned (.tuple #[.slice none 0 0, .int .i64 2]) ∧ w = w' := by
  have hsum := sum_any (g := g) (off := off) (cap := cap) L hL h15 w H
  obtain ⟨R, hR⟩ : ∃ R, R = room L := ⟨_, rfl⟩
  rw [← hR] at hsum ⊢
  have hRl : R ≤ 4915200 := by have := room_le L; omega
  have HS := Lib.hid hsum; clear hsum
  have HR := Lib.hid hR; clear hR
  by_cases hr : R ≤ 32768
  · have hdr : decide ((32768 : Int) < (R : Int)) = false := by simp; omega
    simp only [if_pos hr]
    have hmk := make_ints L.length (by omega)
    have HH := Lib.hid H; clear H
    go_enter Try.func51, Try.ntmps51
    go_wp2_with fail
    refine HS.out.mono ?_
    rintro e w' ⟨rfl, rfl⟩
    go_wp2_with fail
    obtain ⟨c, hcc⟩ : ∃ c, c = w.heap.size := ⟨_, rfl⟩
    rw [← hcc]
    generalize hW : World.alloc _ _ = W
    have HW : W.heap[c]? = some (.cells (ints L.length (given L 1 0)) 3) := by
      rw [← hW, hcc, heap_alloc_new, ints_congr (fun k _ => (given_start L k).symm)]
    have B0 : Below c w W := by rw [← hW]; exact (Below.refl _ _).alloc (by omega) _
    have hgc : g < c := by omega
    have atB : ∀ (wr : World), Below c w wr → At wr g off L := fun _ hb => HH.out.kept (hb.block g hgc)
    have ATB := Lib.hid atB; clear atB
    have HW := Lib.hid HW
    have B0 := Lib.hid B0
    have HCC := Lib.hid hcc; clear hcc hW
    go_loopg [7, 8, 9] 19 (fun q code sz _ wr => ∃ size : Nat, q = 20 - size ∧ 1 ≤ size ∧ size ≤ 16 ∧ sz = .int .i64 (size : Int) ∧ code = .int .i64 (first L size : Int) ∧ Hid (wr.heap[c]? = some (.cells (ints L.length (given L size 0)) 3)) ∧ Hid (Below c w wr))
    case atStart => exact ⟨1, rfl, by omega, by omega, rfl, rfl, HW, B0⟩
    case round =>
      obtain ⟨size, hq, hs1, hs2, rfl, rfl, T, Bw⟩ := hrel
      have hfl := first_le L size hs2 hL
      by_cases hlt : size ≤ 15
      · have hd : decide ((size : Int) ≤ 15) = true := by simp; omega
        obtain ⟨F, hF⟩ : ∃ F, F = first L size := ⟨_, rfl⟩
        rw [← hF] at hfl ⊢
        have HF := Lib.hid hF; clear hF
        go_wp2_with fail
        go_loopg [7, 9] 400 (fun q code iv wq => ∃ i : Nat, q = 400 - i ∧ i ≤ L.length ∧ iv = .int .i64 (i : Int) ∧ code = .int .i64 ((F + (L.take i).count size : Nat) : Int) ∧ Hid (wq.heap[c]? = some (.cells (ints L.length (given L size i)) 3)) ∧ Hid (Below c w wq))
        case atStart => exact ⟨0, rfl, Nat.zero_le _, rfl, by simp, T, Bw⟩
        case round =>
          obtain ⟨i, hqi, hi, rfl, rfl, T2, Bq⟩ := hrel
          have hcl : (L.take i).count size ≤ 300 := Nat.le_trans List.count_le_length (by rw [List.length_take]; omega)
          obtain ⟨n, hn⟩ : ∃ n, n = F + (L.take i).count size := ⟨_, rfl⟩
          rw [← hn]
          have hnl : n ≤ 39321900 := by omega
          by_cases hil : i < L.length
          · have hdi : decide ((i : Int) < (L.length : Int)) = true := by simp; omega
            obtain ⟨x, hx⟩ : ∃ x, L[i]? = some x := ⟨_, List.getElem?_eq_getElem hil⟩
            have hc := (ATB.out _ Bq.out) i x hx
            have hgs := given_step L hs1 hx
            have hct : (L.take (i + 1)).count size = (L.take i).count size + if x = size then 1 else 0 := by
              rw [List.take_add_one, hx]
              by_cases h : x = size
              · subst h; simp [List.count_append]
              · rw [if_neg h, List.count_append]; simp [h]
            have f7 := frozen_of_row _ c i _ _ T2.out
            have c7 := (cell_at T2.out i).trans (ints_get (given L size i) hil)
            have HX := Lib.hid hx; clear hx
            have HN := Lib.hid hn; clear hn
            have HGS := Lib.hid hgs; clear hgs
            have HCT := Lib.hid hct; clear hct
            by_cases hxs : x = size
            · have hde : ((x : Int) == (size : Int)) = true := by simp; omega
              have HXS := Lib.hid hxs; clear hxs
              go_wp2
              go_roundg (400 - (i + 1))
              case measure => omega
              case rel =>
                refine ⟨i + 1, rfl, hil, by go_num, ?_, Lib.hid ?_, Lib.hid ?_⟩
                · rw [HCT.out, if_pos HXS.out, ← Nat.add_assoc, ← HN.out]; go_num
                · rw [heap_setCell_same _ _ _ _ _ _ T2.out, ints_set]
                  congr 2
                  exact ints_congr fun k _ => by rw [HGS.out k, if_pos HXS.out, HN.out, HF.out]
                · exact ⟨Bq.out.os, Bq.out.tape, Bq.out.output, by simp [World.setCell]; exact Bq.out.size, fun k hk => by rw [heap_setCell_other _ _ _ _ (by show k ≠ c; omega)]; exact Bq.out.block k hk⟩
            · have hde : ((x : Int) == (size : Int)) = false := by simp; omega
              go_wp2
              go_roundg (400 - (i + 1))
              case measure => omega
              case rel =>
                refine ⟨i + 1, rfl, hil, by go_num, ?_, Lib.hid ?_, Bq⟩
                · rw [HCT.out, if_neg hxs, Nat.add_zero, ← HN.out]
                · rw [T2.out]
                  congr 2
                  exact ints_congr fun k _ => by rw [HGS.out k, if_neg hxs]
          · obtain rfl : i = L.length := by omega
            have hdi : decide ((L.length : Int) < (L.length : Int)) = false := by simp
            rw [List.take_length] at hn
            have hfn : first L (size + 1) = n * 2 := by
              obtain ⟨z, rfl⟩ : ∃ z, size = z + 1 := ⟨size - 1, by omega⟩
              rw [hn, HF.out]; rfl
            have HN := Lib.hid hn; clear hn
            have HFN := Lib.hid hfn; clear hfn
            go_wp2
            go_roundg (20 - (size + 1))
            case measure => omega
            case rel =>
              refine ⟨size + 1, rfl, by omega, by omega, by go_num, by rw [HFN.out]; go_num, Lib.hid ?_, Bq⟩
              rw [T2.out, ints_congr (fun k hk => given_next L size k hk)]
      · obtain rfl : size = 16 := by omega
        have hd : decide (((16 : Nat) : Int) ≤ 15) = false := by simp
        obtain ⟨F, hF⟩ : ∃ F, F = first L 16 := ⟨_, rfl⟩
        rw [← hF]
        have HF := Lib.hid hF; clear hF
        clear hfl
        go_wp2
        go_ret2
        refine ⟨c, rfl, by rw [HCC.out]; exact Nat.le_refl _, by rw [← HCC.out]; exact Bw.out, ?_⟩
        rw [T.out, ints_congr (fun k hk => given_all L h15 k hk)]
  · have hdr : decide ((32768 : Int) < (R : Int)) = true := by simp; omega
    simp only [if_neg hr]
    go_enter Try.func51, Try.ntmps51
    go_wp2_with fail
    refine HS.out.mono ?_
    rintro e w' ⟨rfl, rfl⟩
    go_wp2
    go_ret2
    exact ⟨rfl, rfl⟩
end Go.Proofs.Ytcgcacegkbbmiaa
