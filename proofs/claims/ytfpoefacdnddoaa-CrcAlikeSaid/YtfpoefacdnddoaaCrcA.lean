/- The walk of the law CrcAlike: it returns true. -/
import Derived.Test.YtfpoefacdnddoaaCrcX
import Derived.Deep.Quiet
import Derived.RegionTactic
import Derived.BigQuiet
import Derived.Laws.BytesArg
namespace Go.Proofs.Ytfpoefacdnddoaa
open Go.RowKit

/-- A region that draws its order, at the class of worlds that are as this one was below B: one walk, in the text's order. -/
theorem wp_region_below_lit {P : Program} {id : Nat} {Q : Exit → Act → World → Prop} {a : Act} {w : World} {l : List Oper} (B : Nat) (w0 : World) (hm : P.follows .mixedOrders = true) (hB : Region.lexB .any l.toArray = true) (hw : Below B w0 w)
    (h : wpQuiet P l.toArray (fun w' => Below B w0 w') (fun a' => ∀ w', Below B w0 w' → Q .normal a' w') l a) : (Code.region id l.toArray true).wp P Q a w :=
  wp_region_quiet (C := fun w' => Below B w0 w') hm hB ⟨hw.os, hw.tape, hw.output, hw.size, hw.block⟩ (by simpa using h)

theorem min2_nat (x y : Nat) : Builtin.min2 (.int .i64 (x : Int)) (.int .i64 (y : Int)) = pure (.int .i64 ((min x y : Nat) : Int)) := by
  simp only [Builtin.min2]
  by_cases h : y < x
  · rw [if_pos (by omega), show min x y = y from by omega]
  · rw [if_neg (by omega), show min x y = x from by omega]
theorem min4_run (x y z : Nat) (w : World) : (Builtin.min_ #[3, 3, 3, 3] 3 #[.int .i64 (x : Int), .int .i64 (y : Int), .int .i64 (z : Int), .int .i64 300]).run Try.prog w = .ok (.int .i64 ((min (min (min x y) z) 300 : Nat) : Int)) w := by
  simp only [Builtin.min_, List.foldlM_cons, List.foldlM_nil]
  rw [min2_nat]
  simp only [pure_bind]
  rw [min2_nat]
  simp only [pure_bind]
  have := min2_nat (min (min x y) z) 300
  rw [show ((300 : Nat) : Int) = 300 from rfl] at this
  rw [this]
  rfl

theorem info5 : (Try.prog.info? 5).map (fun i => (i.zero, i.size, i.bytes)) = some (some (.int .u8 0), 1, 1) := by kernel_rfl

/-- n bytes, of which the first k are told. -/
def rowCells (g : Nat → Nat) (n k : Nat) : Array Value := Array.ofFn (n := n) fun j => .int .u8 (if j.val < k then ((g j.val : Nat) : Int) else 0)
theorem rowCells_size (g : Nat → Nat) (n k : Nat) : (rowCells g n k).size = n := by simp [rowCells]
theorem rowCells_get (g : Nat → Nat) (n k j : Nat) (h : j < n) : (rowCells g n k)[j]? = some (.int .u8 (if j < k then ((g j : Nat) : Int) else 0)) := by
  unfold rowCells
  rw [Array.getElem?_eq_getElem (by simpa using h)]
  simp
theorem rowCells_set (g : Nat → Nat) (n k : Nat) : (rowCells g n k).setIfInBounds k (.int .u8 ((g k : Nat) : Int)) = rowCells g n (k + 1) := by
  apply Array.ext_getElem?
  intro i
  by_cases hi : i < n
  · rw [Array.getElem?_setIfInBounds, rowCells_get g n (k + 1) i hi, rowCells_get g n k i hi, rowCells_size]
    by_cases h : k = i
    · subst h; simp [hi]
    · rw [if_neg h]
      have : (i < k) = (i < k + 1) := by simp; omega
      simp only [this]
  · rw [Array.getElem?_eq_none (by simp [rowCells_size]; omega), Array.getElem?_eq_none (by simp [rowCells_size]; omega)]
theorem rowCells_zero (g : Nat → Nat) (n : Nat) : Array.replicate n (.int .u8 0) = rowCells g n 0 := by
  apply Array.ext_getElem?
  intro i
  by_cases hi : i < n
  · rw [rowCells_get g n 0 i hi]; simp [hi]
  · rw [Array.getElem?_eq_none (by simp; omega), Array.getElem?_eq_none (by simp [rowCells_size]; omega)]
theorem make_row (g : Nat → Nat) (n : Nat) (hn : n ≤ 1000000) (w : World) :
    (Instr.makeSlice 23 (.int .i64 (n : Int)) (.int .i64 (n : Int))).run Try.prog w = .ok (.slice (some ⟨w.heap.size, 0, none⟩) n n) (w.alloc (.cells (rowCells g n 0) 5)) := by
  obtain ⟨i5, hi, hz0, hz1, hz2⟩ := info_parts info5
  rw [run_make w 23 5 i5 (.int .u8 0) Try.underlying23 hi hz0 .i64 .i64 n n (by omega) (by omega) (by rw [hz2]; omega) (by omega)]
  rw [← rowCells_zero, hz1]
  simp only [Int.toNat_natCast, Nat.mul_one]
  congr 3
  apply Array.ext_getElem?
  intro i
  by_cases hi : i < n <;> simp [madeCells, Value.cells, Nat.mod_one, hi]

theorem bval (s : ByteArray) (k : Nat) (h : k < s.size) : s[k] = s.data.toList.getD k 0 := by
  rw [List.getD_eq_getElem?_getD, List.getElem?_eq_getElem (by simpa using h)]; rfl

theorem sum_below (s : ByteArray) (hs : s.size ≤ maxLen) (w0 : World) (x : Nat) (hx : x = Crc.sum s.data.toList) :
    ∀ w, Below w0.heap.size w0 w → Calls Try.prog 6 #[.string s] w fun e w'' => e = .returned (.int .u32 (x : Int)) ∧ Below w0.heap.size w0 w'' := by
  intro w hC
  refine (sum_any s hs w).mono ?_
  rintro e w' ⟨rfl, rfl⟩
  rw [hx]
  exact ⟨rfl, hC.alloc hC.size _⟩

theorem xor3_getD (la lb lc : List UInt8) (k : Nat) (ha : k ≤ la.length) (hb : k ≤ lb.length) (hc : k ≤ lc.length) :
    Crc.xor3 (la.take k) (lb.take k) (lc.take k) = (List.range k).map fun j => la.getD j 0 ^^^ lb.getD j 0 ^^^ lc.getD j 0 := by
  induction k generalizing la lb lc with
  | zero => rfl
  | succ k ih =>
    match la, lb, lc, ha, hb, hc with
    | a :: la, b :: lb, c :: lc, ha, hb, hc =>
      simp only [List.take_succ_cons, Crc.xor3, List.range_succ_eq_map, List.map_cons, List.map_map, List.getD_cons_zero]
      rw [ih la lb lc (by simpa using ha) (by simpa using hb) (by simpa using hc)]
      rfl

set_option maxRecDepth 100000 in
set_option maxHeartbeats 1000000 in
theorem alike_any (a b c : ByteArray) (ha : a.size ≤ maxLen) (hb : b.size ≤ maxLen) (hc : c.size ≤ maxLen) (w : World) :
    Calls Try.prog 3 #[.string a, .string b, .string c] w fun e w' => e = .returned (.bool true) ∧ Below w.heap.size w w' := by
  unfold maxLen at ha hb hc
  obtain ⟨n, hn⟩ : ∃ n, min (min (min a.size b.size) c.size) 300 = n := ⟨_, rfl⟩
  have hna : n ≤ a.size := by omega
  have hnb : n ≤ b.size := by omega
  have hnc : n ≤ c.size := by omega
  have hn3 : n ≤ 300 := by omega
  have hmin := min4_run a.size b.size c.size
  rw [hn] at hmin
  clear hn
  obtain ⟨g, hg⟩ : ∃ g : Nat → Nat, ∀ k, g k = (a.data.toList.getD k 0 ^^^ b.data.toList.getD k 0 ^^^ c.data.toList.getD k 0).toNat := ⟨_, fun _ => rfl⟩
  have Hg := Lib.hid hg; clear hg
  have hmk := make_row g n (by omega)
  go_enter Try.func3, Try.ntmps3
  go_wp2_with fail
  refine (examples_any _).mono ?_
  rintro e w1 ⟨rfl, hb⟩
  go_wp2_with fail
  clear hmk hmin
  go_loopw [10] (fun i wr => ∃ k : Nat, k ≤ n ∧ i = .int .i64 k ∧ Below w1.heap.size w1 wr ∧ wr.heap[w1.heap.size]? = some (.cells (rowCells g n k) 5)) (fun i _ => n - (intOf i).toNat)
  case atStart => exact ⟨0, Nat.zero_le _, rfl, (Below.refl _ _).alloc (Nat.le_refl _) _, heap_alloc_new _ _⟩
  case round =>
    obtain ⟨k, hk, rfl, hbw, hrow⟩ := hrel
    by_cases hlt : k < n
    · have hd : decide ((k : Int) < (n : Int)) = true := by simp; omega
      have hcell : wr.cell? ⟨w1.heap.size, k, none⟩ = some (.int .u8 0) := by
        rw [cell_of_row wr _ k _ _ _ hrow, rowCells_get g n k k hlt, if_neg (by omega)]
      have hfz : wr.frozen? ⟨w1.heap.size, k, none⟩ = false := frozen_of_row wr _ k _ _ hrow
      have hka : (k : Int) < (a.size : Int) := by omega
      have hkb : (k : Int) < (b.size : Int) := by omega
      have hkc : (k : Int) < (c.size : Int) := by omega
      have hx1 := xor_u8 a[k].toNat b[k].toNat a[k].toNat_lt b[k].toNat_lt
      have hx2 := xor_u8 (a[k].toNat ^^^ b[k].toNat) c[k].toNat (Nat.xor_lt_two_pow (n := 8) a[k].toNat_lt b[k].toNat_lt) c[k].toNat_lt
      have hgk : a[k].toNat ^^^ b[k].toNat ^^^ c[k].toNat = g k := by
        rw [Hg.out, ← bval a k (by omega), ← bval b k (by omega), ← bval c k (by omega), UInt8.toNat_xor, UInt8.toNat_xor]
      rw [hgk] at hx2
      clear hgk
      have HB := Lib.hid hbw; clear hbw
      have HR := Lib.hid hrow; clear hrow
      go_wp2
      go_region
      go_wp2
      go_roundw
      case rel => exact ⟨k + 1, by omega, by go_num, (HB.out.setCell (Nat.le_refl _) _).drew, by rw [heap_drew, heap_setCell_same _ _ _ _ _ _ HR.out, rowCells_set]⟩
      case measure => simp [intOf]; omega
    · obtain rfl : k = n := by omega
      go_wp2_with fail
      have hcells : ∀ i, i < k → wr.cell? ⟨w1.heap.size, 0 + i, none⟩ = some (.int .u8 (((List.range k).map fun j => (g j : Int)).getD i 0)) := by
        intro i hi
        rw [Nat.zero_add, cell_of_row wr _ i _ _ _ hrow, rowCells_get g k k i hi, if_pos hi]
        simp [List.getD, hi]
      have hBsz : w1.heap.size < wr.heap.size := by
        rcases Nat.lt_or_ge w1.heap.size wr.heap.size with h | h
        · exact h
        · rw [Array.getElem?_eq_none h] at hrow; cases hrow
      obtain ⟨S, hS⟩ : ∃ S : ByteArray, S = strOfNums ((List.range k).map fun j => (g j : Int)) := ⟨_, rfl⟩
      have hconv : ∀ w', Below wr.heap.size wr w' → (convert 23 9 (.slice (some ⟨w1.heap.size, 0, none⟩) k k)).run Try.prog w' = .ok (.string S) w' := by
        intro w' hC
        rw [hS]
        exact run_convert_bytes_arg w' 23 5 Try.underlying23 Try.underlying5 _ 0 k k _ (by simp) (fun i hi => by rw [hC.cell (p := ⟨w1.heap.size, 0 + i, none⟩) hBsz]; exact hcells i hi) 9 Try.underlying9
      have hSsz : S.size = k := by rw [hS, strOfNums_size]; simp
      have hSl : S.data.toList = Crc.xor3 (a.data.toList.take k) (b.data.toList.take k) (c.data.toList.take k) := by
        rw [xor3_getD _ _ _ k (by simpa using hna) (by simpa using hnb) (by simpa using hnc), hS, strOfNums_data, List.map_map]
        apply List.map_congr_left
        intro j _
        simp only [Function.comp, Int.toNat_natCast]
        rw [Hg.out j, UInt8.ofNat_toNat]
      obtain ⟨A, hA⟩ : ∃ A : ByteArray, a.extract 0 k = A := ⟨_, rfl⟩
      obtain ⟨B, hB⟩ : ∃ B : ByteArray, b.extract 0 k = B := ⟨_, rfl⟩
      obtain ⟨C, hC⟩ : ∃ C : ByteArray, c.extract 0 k = C := ⟨_, rfl⟩
      have hAl : A.data.toList = a.data.toList.take k := by rw [← hA]; simp
      have hBl : B.data.toList = b.data.toList.take k := by rw [← hB]; simp
      have hCl : C.data.toList = c.data.toList.take k := by rw [← hC]; simp
      have hAs : A.size = k := by rw [← hA]; simp; omega
      have hBs : B.size = k := by rw [← hB]; simp; omega
      have hCs : C.size = k := by rw [← hC]; simp; omega
      have hfin : Crc.sum S.data.toList = Crc.sum A.data.toList ^^^ Crc.sum B.data.toList ^^^ Crc.sum C.data.toList := by
        rw [hSl, hAl, hBl, hCl, Crc.sum_xor3 _ _ _ (by simp; omega) (by simp; omega)]
      have lA := Crc.sum_lt A.data.toList
      have lB := Crc.sum_lt B.data.toList
      have lC := Crc.sum_lt C.data.toList
      obtain ⟨xA, eA⟩ : ∃ x, x = Crc.sum A.data.toList := ⟨_, rfl⟩
      obtain ⟨xB, eB⟩ : ∃ x, x = Crc.sum B.data.toList := ⟨_, rfl⟩
      obtain ⟨xC, eC⟩ : ∃ x, x = Crc.sum C.data.toList := ⟨_, rfl⟩
      have cA := sum_below A (by unfold maxLen; omega) wr xA eA
      have cB := sum_below B (by unfold maxLen; omega) wr xB eB
      have cC := sum_below C (by unfold maxLen; omega) wr xC eC
      rw [← eA, ← eB, ← eC] at hfin
      rw [← eA] at lA; rw [← eB] at lB; rw [← eC] at lC
      have cS := sum_below S (by unfold maxLen; omega) wr (xA ^^^ xB ^^^ xC) hfin.symm
      have x1 := xor_u32 xA xB lA lB
      have x2 := xor_u32 (xA ^^^ xB) xC (Nat.xor_lt_two_pow (n := 32) lA lB) lC
      have HA := Lib.hid cA; clear cA
      have HB := Lib.hid cB; clear cB
      have HC := Lib.hid cC; clear cC
      have HS := Lib.hid cS; clear cS
      have HV := Lib.hid hconv; clear hconv
      have kA : (k : Int) ≤ (a.size : Int) := by omega
      have kB : (k : Int) ≤ (b.size : Int) := by omega
      have kC : (k : Int) ≤ (c.size : Int) := by omega
      clear eA eB eC hfin hAl hBl hCl hSl hS hcells hAs hBs hCs hSsz
      have hbs := hb.size
      refine wp_region_below_lit wr.heap.size wr (by kernel_rfl) (by kernel_rfl) (Below.refl _ _) ?_
      repeat (first | go_big_quiet_skip | (go_big_quiet_want; go_big_quiet_op; first | go_big_quiet_on | (refine ⟨_, fun _ _ => rfl, ?_⟩; go_big_quiet_on)))
      go_big_quiet_want
      go_simp
      refine ⟨.string S, fun w' hC => ?_, ?_⟩
      · rw [HV.out w' hC]
        exact ⟨rfl, rfl⟩
      go_big_quiet_on
      go_big_quiet_want
      go_big_quiet_op
      refine ⟨_, HS.out, ?_⟩
      go_big_quiet_on
      repeat (first | go_big_quiet_skip | (go_big_quiet_want; go_big_quiet_op; first | go_big_quiet_on | (refine ⟨_, fun _ _ => rfl, ?_⟩; go_big_quiet_on)))
      go_big_quiet_want
      go_big_quiet_op
      refine ⟨_, HA.out, ?_⟩
      go_big_quiet_on
      repeat (first | go_big_quiet_skip | (go_big_quiet_want; go_big_quiet_op; first | go_big_quiet_on | (refine ⟨_, fun _ _ => rfl, ?_⟩; go_big_quiet_on)))
      go_big_quiet_want
      go_big_quiet_op
      refine ⟨_, HB.out, ?_⟩
      go_big_quiet_on
      repeat (first | go_big_quiet_skip | (go_big_quiet_want; go_big_quiet_op; first | go_big_quiet_on | (refine ⟨_, fun _ _ => rfl, ?_⟩; go_big_quiet_on)))
      go_big_quiet_want
      go_big_quiet_op
      refine ⟨_, HC.out, ?_⟩
      go_big_quiet_on
      repeat (first | go_big_quiet_skip | (go_big_quiet_want; go_big_quiet_op; first | go_big_quiet_on | (refine ⟨_, fun _ _ => rfl, ?_⟩; go_big_quiet_on)))
      refine wpQuiet_nil ?_
      intro w' hw'
      go_wp2
      go_ret
      exact ⟨rfl, hb.trans ((hbw.mono hbs).trans (hw'.mono (by omega)))⟩
end Go.Proofs.Ytfpoefacdnddoaa
