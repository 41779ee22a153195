/- What room and Codes of package huff do. -/
import Derived.Test.YtcgcacegkbbmiaaLen
import Derived.Test.YtcgcacegkbbmiaaPure
import Derived.Laws.MakeOwn
import Derived.RegionTactic
namespace Go.Proofs.Ytcgcacegkbbmiaa
open Go.RowKit

/-- Cells of n numbers. -/
def ints (n : Nat) (f : Nat → Nat) : Array Value := Array.ofFn (n := n) fun j => .int .i64 (f j.val : Int)
theorem ints_size (n : Nat) (f : Nat → Nat) : (ints n f).size = n := by simp [ints]
theorem ints_get {n : Nat} (f : Nat → Nat) {j : Nat} (h : j < n) : (ints n f)[j]? = some (.int .i64 (f j : Int)) := by
  unfold ints
  rw [Array.getElem?_eq_getElem (by simpa using h)]
  simp
theorem ints_congr {n : Nat} {f g : Nat → Nat} (h : ∀ j, j < n → f j = g j) : ints n f = ints n g := by
  unfold ints
  congr 1
  funext j
  rw [h j.val j.isLt]
theorem ints_set (n : Nat) (f : Nat → Nat) (k v : Nat) : (ints n f).setIfInBounds k (.int .i64 (v : Int)) = ints n (fun j => if j = k then v else f j) := by
  apply Array.ext
  · simp [ints]
  · intro i h1 h2
    have hi : i < n := by simpa [ints] using h2
    rw [Array.getElem_setIfInBounds (by simpa [ints] using hi)]
    have e : ∀ g, (ints n g)[i]? = some (.int .i64 (g i : Int)) := fun g => ints_get g hi
    have e1 := e f
    have e2 := e (fun j => if j = k then v else f j)
    rw [Array.getElem?_eq_getElem (by simpa [ints] using hi)] at e1 e2
    rw [Option.some.inj e1, Option.some.inj e2]
    by_cases h : k = i
    · subst h; simp
    · rw [if_neg h, if_neg (fun e => h e.symm)]
theorem ints_made (n : Nat) : madeCells (Value.int .i64 0).cells n = ints n (fun _ => 0) := by
  apply Array.ext
  · simp [ints, madeCells]
  · intro i h1 h2
    have hi : i < n := by simpa [ints] using h2
    simp [madeCells, ints, Value.cells, Nat.mod_one]

/-- The numbers L lie behind an address. -/
def At (w : World) (g off : Nat) (L : List Nat) : Prop := ∀ (i x : Nat), L[i]? = some x → w.cell? ⟨g, off + i, none⟩ = some (.int .i64 (x : Int))
theorem At.kept {w w' : World} {g off : Nat} {L : List Nat} (h : At w g off L) (hk : w'.heap[g]? = w.heap[g]?) : At w' g off L :=
  fun i x hx => (World.cell?_of_block (a := ⟨g, off + i, none⟩) hk).trans (h i x hx)

/-- What room says. -/
def roomE (L : List Nat) : Ending := .returned (if room L ≤ 32768 then .tuple #[.int .i64 (room L : Int), .int .i64 0] else .tuple #[.int .i64 0, .int .i64 2])
theorem roomE_pos {L : List Nat} (h : room L ≤ 32768) : roomE L = .returned (.tuple #[.int .i64 (room L : Int), .int .i64 0]) := by unfold roomE; rw [if_pos h]
theorem roomE_neg {L : List Nat} (h : ¬ room L ≤ 32768) : roomE L = .returned (.tuple #[.int .i64 0, .int .i64 2]) := by unfold roomE; rw [if_neg h]

set_option maxRecDepth 100000 in
set_option maxHeartbeats 400000 in
theorem room_any {g off cap : Nat} (L : List Nat) (hL : L.length ≤ 300) (h15 : ∀ x ∈ L, x ≤ 15) (w : World) (H : At w g off L) :
    Calls Try.prog 50 #[.slice (some ⟨g, off, none⟩) L.length cap] w fun e w' => e = roomE L ∧ w = w' := by
  have hd0 : decide ((300 : Int) < (L.length : Int)) = false := by simp; omega
  have HH := Lib.hid H; clear H
  go_enter Try.func50, Try.ntmps50
  go_wp2_with fail
  go_loopg [4, 12] 400 (fun g n i wr => wr = w ∧ ∃ j : Nat, g = 400 - j ∧ j ≤ L.length ∧ i = .int .i64 (j : Int) ∧ n = .int .i64 (room (L.take j) : Int))
  case atStart => exact ⟨rfl, 0, rfl, Nat.zero_le _, rfl, rfl⟩
  case round =>
    obtain ⟨rfl, j, hgj, hj, rfl, rfl⟩ := hrel
    have hrl := room_le (L.take j)
    rw [List.length_take, show min j L.length = j from by omega] at hrl
    by_cases hlt : j < L.length
    · have hd : decide ((j : Int) < (L.length : Int)) = true := by simp; omega
      obtain ⟨x, hx⟩ : ∃ x, L[j]? = some x := ⟨_, List.getElem?_eq_getElem hlt⟩
      have hc := HH.out j x hx
      have hx15 := h15 x (List.mem_of_getElem? hx)
      have hs : room (L.take (j + 1)) = room (L.take j) + if x = 0 then 0 else 2 ^ (15 - x) := by
        rw [List.take_add_one, hx]; exact room_snoc _ _
      obtain ⟨r, hr⟩ : ∃ r, r = room (L.take j) := ⟨_, rfl⟩
      rw [← hr] at hrl hs ⊢
      have HS := Lib.hid hs; clear hs
      have HX := Lib.hid hx; clear hx
      have HR := Lib.hid hr; clear hr
      have hl0 : decide ((x : Int) < 0) = false := by simp
      have hl15 : decide ((15 : Int) < (x : Int)) = false := by simp; omega
      by_cases hx0 : x = 0
      · subst hx0
        go_wp2
        go_roundg (400 - (j + 1))
        case measure => omega
        case rel => exact ⟨rfl, j + 1, rfl, hlt, by go_num, by rw [HS.out]; rfl⟩
      · have hp0 : decide ((0 : Int) < (x : Int)) = true := by simp; omega
        have hpw : (2 : Int) ^ (15 - x) ≤ 16384 := by
          have : 2 ^ (15 - x) ≤ 2 ^ 14 := Nat.pow_le_pow_right (by decide) (by omega)
          exact_mod_cast this
        go_wp2
        go_roundg (400 - (j + 1))
        case measure => omega
        case rel => exact ⟨rfl, j + 1, rfl, hlt, by go_num, by rw [HS.out, if_neg hx0, wrap_pow r (15 - x) (by omega) (by omega)]⟩
    · obtain rfl : j = L.length := by omega
      have hd : decide ((L.length : Int) < (L.length : Int)) = false := by simp
      rw [List.take_length] at hrl ⊢
      obtain ⟨r, hr⟩ : ∃ r, r = room L := ⟨_, rfl⟩
      rw [← hr] at hrl ⊢
      have HR := Lib.hid hr; clear hr
      by_cases hroom : r ≤ 32768
      · have hdr : decide ((32768 : Int) < (r : Int)) = false := by simp; omega
        go_wp2
        go_ret2
        have h := HR.out
        exact ⟨by rw [roomE_pos (by omega), ← h]; rfl, rfl⟩
      · have hdr : decide ((32768 : Int) < (r : Int)) = true := by simp; omega
        go_wp2
        go_ret2
        have h := HR.out
        exact ⟨by rw [roomE_neg (by omega)]; rfl, rfl⟩

theorem zero103 (w : World) : (zeroValue 103).run Try.prog w = .ok (.agg (ints 17 fun _ => 0)) w := by kernel_rfl
theorem info3 : (Try.prog.info? 3).map (fun i => (i.zero, i.size, i.bytes)) = some (some (.int .i64 0), 1, 8) := by kernel_rfl
theorem make_ints (n : Nat) (hn : n ≤ 1000) (w : World) : (Instr.makeSlice 34 (.int .i64 (n : Int)) (.int .i64 (n : Int))).run Try.prog w = .ok (.slice (some ⟨w.heap.size, 0, none⟩) n n) (w.alloc (.cells (ints n fun _ => 0) 3)) := by
  obtain ⟨i3, hi, hz0, hz1, hz2⟩ := info_parts info3
  have := run_makeSlice (P := Try.prog) w 34 3 i3 (.int .i64 0) Try.underlying34 hi hz0 .i64 .i64 (n : Int) (n : Int) (by omega) (by omega) (by rw [hz1]; simp; omega) (by rw [hz2]; omega) (by omega)
  rw [hz1] at this
  simp only [Nat.mul_one, Int.toNat_natCast] at this
  rw [this, ints_made]

/-- The two tables of Codes, at blocks c and c + 1. -/
structure Tabs (wr : World) (c : Nat) (f h : Nat → Nat) : Prop where
  hc : wr.heap[c]? = some (.cells (ints 17 f) 103)
  hn : wr.heap[c + 1]? = some (.cells (ints 17 h) 103)

section
variable {wr : World} {c : Nat} {f h : Nat → Nat}
theorem Tabs.cell (T : Tabs wr c f h) {k : Nat} (hk : k < 17) : wr.cell? ⟨c, k, none⟩ = some (.int .i64 (f k : Int)) := by rw [cell_at T.hc, ints_get f hk]
theorem Tabs.cell' (T : Tabs wr c f h) {k : Nat} (hk : k < 17) : wr.cell? ⟨c + 1, k, none⟩ = some (.int .i64 (h k : Int)) := by rw [cell_at T.hn, ints_get h hk]
theorem Tabs.fr (T : Tabs wr c f h) (k : Nat) : wr.frozen? ⟨c, k, none⟩ = false := frozen_of_row wr _ k _ _ T.hc
theorem Tabs.fr' (T : Tabs wr c f h) (k : Nat) : wr.frozen? ⟨c + 1, k, none⟩ = false := frozen_of_row wr _ k _ _ T.hn
theorem Tabs.drew (T : Tabs wr c f h) : Tabs wr.drew c f h := ⟨T.hc, T.hn⟩
theorem Tabs.set (T : Tabs wr c f h) (k v : Nat) : Tabs (wr.setCell ⟨c, k, none⟩ (.int .i64 (v : Int))) c (fun j => if j = k then v else f j) h :=
  ⟨by rw [heap_setCell_same _ _ _ _ _ _ T.hc, ints_set], by rw [heap_setCell_other _ _ _ _ (by simp)]; exact T.hn⟩
theorem Tabs.set' (T : Tabs wr c f h) (k v : Nat) : Tabs (wr.setCell ⟨c + 1, k, none⟩ (.int .i64 (v : Int))) c f (fun j => if j = k then v else h j) :=
  ⟨by rw [heap_setCell_other _ _ _ _ (by simp)]; exact T.hc, by rw [heap_setCell_same _ _ _ _ _ _ T.hn, ints_set]⟩
theorem Tabs.other (T : Tabs wr c f h) (o j : Nat) (u : Value) (h1 : o ≠ c) (h2 : o ≠ c + 1) : Tabs (wr.setCell ⟨o, j, none⟩ u) c f h :=
  ⟨by rw [heap_setCell_other _ _ _ _ (Ne.symm h1)]; exact T.hc, by rw [heap_setCell_other _ _ _ _ (Ne.symm h2)]; exact T.hn⟩
theorem Tabs.congr (T : Tabs wr c f h) {f' h' : Nat → Nat} (e : ∀ k, k < 17 → f k = f' k) (e' : ∀ k, k < 17 → h k = h' k) : Tabs wr c f' h' :=
  ⟨by rw [← ints_congr e]; exact T.hc, by rw [← ints_congr e']; exact T.hn⟩
end

theorem count_take (L : List Nat) (j x k : Nat) (hx : L[j]? = some x) : (L.take (j + 1)).count k = (L.take j).count k + if k = x then 1 else 0 := by
  rw [List.take_add_one, hx]
  show (L.take j ++ [x]).count k = _
  rw [List.count_append]
  by_cases h : k = x
  · subst h; simp
  · rw [if_neg h, List.count_cons_of_ne (fun e => h e.symm), List.count_nil]

set_option maxRecDepth 100000 in
set_option maxHeartbeats 1000000 in
theorem codes_any {g off cap : Nat} (L : List Nat) (hL : L.length ≤ 300) (h15 : ∀ x ∈ L, x ≤ 15) (w : World) (hg : g < w.heap.size) (H : At w g off L) :
    Calls Try.prog 49 #[.slice (some ⟨g, off, none⟩) L.length cap] w fun e w' =>
      if room L ≤ 32768 then ∃ o, e = .returned (.tuple #[.slice (some ⟨o, 0, none⟩) L.length L.length, .int .i64 0]) ∧ w.heap.size ≤ o ∧ Below w.heap.size w w' ∧ w'.heap[o]? = some (.cells (ints L.length (cod L)) 3)
      else e = .returned (.tuple #[.slice none 0 0, .int .i64 2]) ∧ w = w' := by
  have hroom := room_any (g := g) (off := off) (cap := cap) L hL h15 w H
  by_cases hr : room L ≤ 32768
  · rw [roomE_pos hr] at hroom
    simp only [if_pos hr]
    have HR := Lib.hid hroom; clear hroom
    have hz := zero103
    have hmk := make_ints L.length (by omega)
    have HH := Lib.hid H; clear H
    go_enter Try.func49, Try.ntmps49
    go_wp2_with fail
    refine HR.out.mono ?_
    rintro e w' ⟨rfl, rfl⟩
    go_wp2_with fail
    obtain ⟨c, hcc⟩ : ∃ c, c = w.heap.size := ⟨_, rfl⟩
    rw [← hcc]
    have HC := Lib.hid hcc; clear hcc
    generalize hW : World.alloc _ _ = W
    have T0 : Tabs W c (fun _ => 0) (fun _ => 0) := by
      rw [← hW, HC.out]
      refine ⟨?_, ?_⟩
      · rw [Below.heap_alloc _ _ _ (by simp)]; exact heap_alloc_new _ _
      · have := heap_alloc_new (w.alloc (.cells (ints 17 fun _ => 0) 103)) (.cells (ints 17 fun _ => 0) 103)
        simpa only [World.size_alloc] using this
    have B0 : Below c w W := by rw [← hW, HC.out]; exact ((Below.refl _ _).alloc (Nat.le_refl _) _).alloc (by simp) _
    clear hW
    have hgc : g < c := by rw [HC.out]; exact hg
    have T0 := Lib.hid T0
    have B0 := Lib.hid B0
    have atB : ∀ (wr : World), Below c w wr → At wr g off L := fun _ hb => HH.out.kept (hb.block g hgc)
    have ATB := Lib.hid atB; clear atB
    go_loopg [24] 400 (fun g i wr => ∃ j : Nat, g = 400 - j ∧ j ≤ L.length ∧ i = .int .i64 (j : Int) ∧ Hid (Tabs wr c (fun k => (L.take j).count k) (fun _ => 0)) ∧ Hid (Below c w wr))
    case atStart => exact ⟨0, rfl, Nat.zero_le _, rfl, Lib.hid (T0.out.congr (by simp) (by simp)), B0⟩
    case round =>
      obtain ⟨j, hgj, hj, rfl, T, Bw⟩ := hrel
      by_cases hlt : j < L.length
      · have hd : decide ((j : Int) < (L.length : Int)) = true := by simp; omega
        obtain ⟨x, hx⟩ : ∃ x, L[j]? = some x := ⟨_, List.getElem?_eq_getElem hlt⟩
        have hc := (ATB.out _ Bw.out) j x hx
        have hx15 := h15 x (List.mem_of_getElem? hx)
        have hcx := T.out.cell (k := x) (by omega)
        have hfx := T.out.fr x
        have hcl : (L.take j).count x ≤ 300 := Nat.le_trans List.count_le_length (by rw [List.length_take]; omega)
        have hct := count_take L j x
        have HX := Lib.hid hx; clear hx
        obtain ⟨q, hq⟩ : ∃ q, q = (L.take j).count x := ⟨_, rfl⟩
        rw [← hq] at hcx hcl
        have HQ := Lib.hid hq; clear hq
        have HCT := Lib.hid hct; clear hct
        go_wp2
        go_roundg (400 - (j + 1))
        case measure => omega
        case rel =>
          refine ⟨j + 1, rfl, hlt, by go_num, Lib.hid ?_, Lib.hid (Bw.out.setCell (by simp) _)⟩
          have := T.out.set x (q + 1)
          refine this.congr (fun k _ => ?_) (fun _ _ => rfl)
          rw [HCT.out k HX.out, HQ.out]
          by_cases h : k = x
          · subst h; simp
          · simp [h]
      · obtain rfl : j = L.length := by omega
        have hd : decide ((L.length : Int) < (L.length : Int)) = false := by simp
        have hfx := T.out.fr 0
        have hcx := T.out.cell (k := 0) (by omega)
        rw [List.take_length] at T hcx
        go_wp2_with fail
        generalize hW2 : World.setCell _ _ _ = W2
        have T2 : Tabs W2 c (fun k => if k = 0 then 0 else L.count k) (fun _ => 0) := by
          rw [← hW2]; exact (T.out.set 0 0).congr (fun k _ => rfl) (fun _ _ => rfl)
        have B2 : Below c w W2 := by rw [← hW2]; exact Bw.out.setCell (by simp) _
        clear hW2 hfx hcx
        have T2 := Lib.hid T2
        have B2 := Lib.hid B2
        go_loopg [10] 400 (fun g i wr => ∃ k : Nat, g = 401 - k ∧ 1 ≤ k ∧ k ≤ 16 ∧ i = .int .i64 (k : Int) ∧ Hid (Tabs wr c (fun k => if k = 0 then 0 else L.count k) (fun j => if j ≤ k then first L j else 0)) ∧ Hid (Below c w wr))
        case atStart =>
          refine ⟨1, rfl, by omega, by omega, rfl, Lib.hid (T2.out.congr (fun _ _ => rfl) (fun j _ => ?_)), B2⟩
          by_cases h : j ≤ 1
          · rw [if_pos h]
            rcases j with _ | _ | j
            · rfl
            · rfl
            · omega
          · rw [if_neg h]
        case round =>
          obtain ⟨k, hgk, hk1, hk16, rfl, T, Bw⟩ := hrel
          by_cases hk : k ≤ 15
          · have hd : decide ((k : Int) ≤ 15) = true := by simp; omega
            have c1 := T.out.cell (k := k) (by omega)
            have c2 := T.out.cell' (k := k) (by omega)
            have c3 := T.out.cell' (k := k + 1) (by omega)
            have f3 := T.out.fr' (k + 1)
            simp only [if_neg (show ¬ k = 0 by omega), if_pos (Nat.le_refl k), if_neg (show ¬ k + 1 ≤ k by omega)] at c1 c2 c3
            have hfst : first L (k + 1) = (first L k + L.count k) * 2 := by
              obtain ⟨q, rfl⟩ : ∃ q, k = q + 1 := ⟨k - 1, by omega⟩
              rfl
            have hfl := first_le L k hk16 hL
            have hcl : L.count k ≤ 300 := Nat.le_trans List.count_le_length hL
            obtain ⟨x, hx⟩ : ∃ x, x = first L k := ⟨_, rfl⟩
            obtain ⟨y, hy⟩ : ∃ y, y = L.count k := ⟨_, rfl⟩
            rw [← hx] at c2 hfst hfl
            rw [← hy] at c1 hfst hcl
            have HF := Lib.hid hfst; clear hfst
            have HX := Lib.hid hx; clear hx
            have HY := Lib.hid hy; clear hy
            go_wp2_with fail
            go_region
            all_goals
              go_wp2
              go_roundg (401 - (k + 1))
              case measure => omega
              case rel =>
                refine ⟨k + 1, rfl, by omega, by omega, by go_num, Lib.hid ?_, Lib.hid (Bw.out.setCell (by simp) _).drew⟩
                refine ((T.out.set' (k + 1) ((x + y) * 2)).drew).congr (fun _ _ => rfl) (fun j _ => ?_)
                rw [← HF.out]
                by_cases h1 : j = k + 1
                · subst h1; simp
                · by_cases h2 : j ≤ k
                  · rw [if_neg h1, if_pos h2, if_pos (by omega)]
                  · rw [if_neg h1, if_neg h2, if_neg (by omega)]
          · obtain rfl : k = 16 := by omega
            have hd : decide (((16 : Nat) : Int) ≤ 15) = false := by decide
            go_wp2_with fail
            generalize hW3 : World.alloc _ _ = W3
            obtain ⟨o, ho⟩ : ∃ o, o = wr.heap.size := ⟨_, rfl⟩
            rw [← ho]
            have hoc : c + 1 < o := by rw [ho]; exact (Array.getElem?_eq_some_iff.1 T.out.hn).1
            have T3 : Tabs W3 c (fun k => if k = 0 then 0 else L.count k) (fun j => first L j) := by
              refine Tabs.congr (f := fun k => if k = 0 then 0 else L.count k) (h := fun j => if j ≤ 16 then first L j else 0) ⟨?_, ?_⟩ (fun _ _ => rfl) (fun j hj => if_pos (by omega))
              · rw [← hW3, Below.heap_alloc _ _ _ (by omega)]; exact T.out.hc
              · rw [← hW3, Below.heap_alloc _ _ _ (by omega)]; exact T.out.hn
            have B3 : Below c w W3 := by rw [← hW3]; exact Bw.out.alloc (by omega) _
            have O3 : W3.heap[o]? = some (.cells (ints L.length fun _ => 0) 3) := by rw [← hW3, ho]; exact heap_alloc_new _ _
            clear hW3
            have T3 := Lib.hid T3
            have B3 := Lib.hid B3
            have O3 := Lib.hid O3
            have HO := Lib.hid ho; clear ho
            have HOC := Lib.hid hoc; clear hoc
            go_loopg [55] 400 (fun g i wr => ∃ j : Nat, g = 400 - j ∧ j ≤ L.length ∧ i = .int .i64 (j : Int) ∧ Hid (Tabs wr c (fun k => if k = 0 then 0 else L.count k) (fun k => if k = 0 then 0 else first L k + (L.take j).count k)) ∧ Hid (Below c w wr) ∧ Hid (wr.heap[o]? = some (.cells (ints L.length fun i => if i < j then cod L i else 0) 3)))
            case atStart =>
              refine ⟨0, rfl, Nat.zero_le _, rfl, Lib.hid (T3.out.congr (fun _ _ => rfl) (fun k _ => ?_)), B3, Lib.hid ?_⟩
              · by_cases h : k = 0
                · subst h; rfl
                · simp [h]
              · simpa using O3.out
            case round =>
              obtain ⟨j, hgj, hj, rfl, T, Bw, O⟩ := hrel
              by_cases hlt : j < L.length
              · have hd : decide ((j : Int) < (L.length : Int)) = true := by simp; omega
                obtain ⟨x, hx⟩ : ∃ x, L[j]? = some x := ⟨_, List.getElem?_eq_getElem hlt⟩
                have hc := (ATB.out _ Bw.out) j x hx
                have hx15 := h15 x (List.mem_of_getElem? hx)
                have hxD : L.getD j 0 = x := by rw [List.getD_eq_getElem?_getD, hx]; rfl
                by_cases hx0 : x = 0
                · have hp0 : decide ((0 : Int) < (x : Int)) = false := by simp; omega
                  have HX := Lib.hid hx; clear hx
                  have HD := Lib.hid hxD; clear hxD
                  go_wp2
                  go_roundg (400 - (j + 1))
                  case measure => omega
                  case rel =>
                    refine ⟨j + 1, rfl, hlt, by go_num, Lib.hid (T.out.congr (fun _ _ => rfl) (fun k _ => ?_)), Bw, Lib.hid ?_⟩
                    · by_cases h : k = 0
                      · rw [if_pos h, if_pos h]
                      · rw [if_neg h, if_neg h, count_take L j x k HX.out, if_neg (by omega)]; rfl
                    · rw [← ints_congr (f := fun i => if i < j then cod L i else 0) (fun i _ => ?_)]
                      · exact O.out
                      · by_cases h1 : i < j
                        · rw [if_pos h1, if_pos (by omega)]
                        · by_cases h2 : i = j
                          · subst h2
                            rw [if_neg h1, if_pos (by omega)]
                            unfold cod
                            rw [HD.out, if_pos hx0]
                          · rw [if_neg h1, if_neg (by omega)]
                · have hp0 : decide ((0 : Int) < (x : Int)) = true := by simp; omega
                  have c2 := T.out.cell' (k := x) (by omega)
                  have f2 := T.out.fr' x
                  have co : wr.cell? ⟨o, j, none⟩ = some (.int .i64 (0 : Int)) := by
                    rw [cell_at O.out, ints_get _ hlt, if_neg (by omega)]; rfl
                  have fo : wr.frozen? ⟨o, j, none⟩ = false := frozen_of_row wr _ j _ _ O.out
                  simp only [if_neg hx0] at c2
                  have hcod : cod L j = first L x + (L.take j).count x := by unfold cod; rw [hxD, if_neg hx0]
                  have hfl := first_le L x (by omega) hL
                  have hcl : (L.take j).count x ≤ 300 := Nat.le_trans List.count_le_length (by rw [List.length_take]; omega)
                  have hct := count_take L j x
                  obtain ⟨q, hq⟩ : ∃ q, q = first L x + (L.take j).count x := ⟨_, rfl⟩
                  rw [← hq] at c2 hcod
                  have hql : q ≤ 40000000 := by omega
                  have HQ := Lib.hid hq; clear hq
                  have HCT := Lib.hid hct; clear hct
                  have HCO := Lib.hid hcod; clear hcod
                  have HX := Lib.hid hx; clear hx
                  have HD := Lib.hid hxD; clear hxD
                  clear hfl hcl
                  have hne : c + 1 ≠ o := by have := HOC.out; omega
                  have c2' : ∀ u, (wr.setCell ⟨o, j, none⟩ u).cell? ⟨c + 1, x, none⟩ = some (.int .i64 (q : Int)) := fun u => by
                    rw [← c2]; exact World.cell?_of_block (heap_setCell_other _ _ _ _ hne)
                  have f2' : ∀ u, (wr.setCell ⟨o, j, none⟩ u).frozen? ⟨c + 1, x, none⟩ = false := fun u => by
                    rw [World.frozen?_setCell]; exact f2
                  go_wp2
                  go_roundg (400 - (j + 1))
                  case measure => omega
                  case rel =>
                    have hoc := HOC.out
                    have T1 : Tabs (wr.setCell ⟨o, j, none⟩ (.int .i64 (q : Int))) c _ _ := T.out.other o j _ (by omega) (by omega)
                    have T2 := T1.set' x (q + 1)
                    have B1 : Below c w (wr.setCell ⟨o, j, none⟩ (.int .i64 (q : Int))) := Bw.out.setCell (by simp; omega) _
                    refine ⟨j + 1, rfl, hlt, by go_num, Lib.hid (T2.congr (fun _ _ => rfl) (fun k _ => ?_)), Lib.hid (B1.setCell (by simp) _), Lib.hid ?_⟩
                    · have hq := HQ.out
                      by_cases h : k = 0
                      · rw [if_pos h, if_neg (by omega), if_pos h]
                      · rw [if_neg h, if_neg h, HCT.out k HX.out]
                        by_cases h2 : k = x
                        · subst h2; rw [if_pos rfl, if_pos rfl]; omega
                        · rw [if_neg h2, if_neg h2]; rfl
                    · rw [heap_setCell_other _ _ _ _ (Ne.symm hne), heap_setCell_same _ _ _ _ _ _ O.out, ints_set]
                      rw [ints_congr (f := fun k => if k = j then q else if k < j then cod L k else 0) (g := fun i => if i < j + 1 then cod L i else 0) (fun i _ => ?_)]
                      by_cases h2 : i = j
                      · subst h2
                        rw [if_pos rfl, if_pos (by omega), HCO.out]
                      · by_cases h1 : i < j
                        · rw [if_neg h2, if_pos h1, if_pos (by omega)]
                        · rw [if_neg h2, if_neg h1, if_neg (by omega)]
              · obtain rfl : j = L.length := by omega
                have hd : decide ((L.length : Int) < (L.length : Int)) = false := by simp
                go_wp2
                go_ret2
                refine ⟨o, rfl, by have := HOC.out; have := HC.out; omega, by rw [← HC.out]; exact Bw.out, ?_⟩
                rw [O.out, ints_congr (fun i hi => ?_)]
                rw [if_pos hi]
  · rw [roomE_neg hr] at hroom
    simp only [if_neg hr]
    have HR := Lib.hid hroom; clear hroom
    clear H
    go_enter Try.func49, Try.ntmps49
    go_wp2_with fail
    refine HR.out.mono ?_
    rintro e w' ⟨rfl, rfl⟩
    go_wp2
    go_ret2
    exact ⟨rfl, rfl⟩
end Go.Proofs.Ytcgcacegkbbmiaa
