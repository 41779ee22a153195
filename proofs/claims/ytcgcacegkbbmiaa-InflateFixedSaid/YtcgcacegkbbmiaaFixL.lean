/- The law InflateFixed, walked. -/
import Derived.Test.YtcgcacegkbbmiaaFixP
namespace Go.Proofs.Ytcgcacegkbbmiaa
open Go.RowKit

theorem rowOf_nil (n : Nat) : rowOf [] n = Array.replicate n (.int .u8 0) := by
  apply Array.ext_getElem?
  intro j
  by_cases hj : j < n
  · rw [rowOf_get hj, Array.getElem?_replicate, if_pos hj]; rfl
  · rw [Array.getElem?_eq_none (by simp [rowOf]; omega), Array.getElem?_eq_none (by simp; omega)]
theorem bytes_made (n : Nat) : madeCells (Value.int .u8 0).cells n = Array.replicate n (.int .u8 0) := by
  apply Array.ext
  · simp [madeCells]
  · intro i h1 h2
    simp [madeCells, Value.cells, Nat.mod_one]
theorem Pt.move {w w' : World} {pa pb g nb : Nat} {β : List Nat} (h : Pt w pa pb g nb β) (e1 : w'.heap[pa]? = w.heap[pa]?) (e2 : w'.heap[pb]? = w.heap[pb]?) (e3 : w'.heap[g]? = w.heap[g]?) : Pt w' pa pb g nb β :=
  ⟨e1.trans h.ha, e2.trans h.hb, e3.trans h.hr, h.hag, h.hbg, h.hab, h.le⟩
theorem make_bytes (n : Nat) (hn : n ≤ 1000) (w : World) : (Instr.makeSlice 36 (.int .i64 (n : Int)) (.int .i64 (n : Int))).run Try.prog w = .ok (.slice (some ⟨w.heap.size, 0, none⟩) n n) (w.alloc (.cells (rowOf [] n) 5)) := by
  obtain ⟨i5, hi, hz0, hz1, hz2⟩ := info_parts info5
  have := run_makeSlice (P := Try.prog) w 36 5 i5 (.int .u8 0) Try.underlying36 hi hz0 .i64 .i64 (n : Int) (n : Int) (by omega) (by omega) (by rw [hz1]; simp; omega) (by rw [hz2]; omega) (by omega)
  rw [hz1] at this
  simp only [Nat.mul_one, Int.toNat_natCast] at this
  rw [this, rowOf_nil, bytes_made]
/-- The bytes that are wanted, so many of them laid. -/
def wantRow (ws : List Nat) (j n : Nat) : Array Value := ((List.range n).map fun i => Value.int .u8 ((if i < j then ws.getD i 0 else 0 : Nat) : Int)).toArray
theorem wantRow_get {ws : List Nat} {j n i : Nat} (h : i < n) : (wantRow ws j n)[i]? = some (.int .u8 ((if i < j then ws.getD i 0 else 0 : Nat) : Int)) := by
  unfold wantRow
  rw [List.getElem?_toArray, List.getElem?_map, List.getElem?_range h]; rfl
theorem wantRow_zero (ws : List Nat) (n : Nat) : rowOf [] n = wantRow ws 0 n := by
  apply Array.ext_getElem?
  intro j
  by_cases hj : j < n
  · rw [rowOf_get hj, wantRow_get hj, if_neg (by omega)]; rfl
  · rw [Array.getElem?_eq_none (by simp [rowOf]; omega), Array.getElem?_eq_none (by simp [wantRow]; omega)]
theorem wantRow_set (ws : List Nat) (j n : Nat) : (wantRow ws j n).setIfInBounds j (.int .u8 (ws.getD j 0 : Int)) = wantRow ws (j + 1) n := by
  apply Array.ext_getElem?
  intro i
  by_cases hi : i < n
  · rw [wantRow_get hi]
    by_cases h : j = i
    · subst h
      rw [Array.getElem?_setIfInBounds_self_of_lt (by simp [wantRow]; exact hi), if_pos (by omega)]
    · rw [Array.getElem?_setIfInBounds_ne h, wantRow_get hi]
      by_cases h2 : i < j
      · rw [if_pos h2, if_pos (by omega)]
      · rw [if_neg h2, if_neg (by omega)]
  · rw [Array.getElem?_eq_none (by simp [wantRow]; omega), Array.getElem?_eq_none (by simp [wantRow]; omega)]
/-- The words of so many bytes. -/
def wordsTo (ws : List Nat) (j : Nat) : List Nat := (ws.take j).flatMap fun w => hb (48 + w) 8
theorem wordsTo_succ {ws : List Nat} {j : Nat} (h : j < ws.length) : wordsTo ws (j + 1) = wordsTo ws j ++ hb (48 + ws.getD j 0) 8 := by
  unfold wordsTo
  rw [List.take_add_one, List.getD_eq_getElem?_getD, List.getElem?_eq_getElem h, List.flatMap_append]
  simp
theorem wordsTo_length (ws : List Nat) {j : Nat} (h : j ≤ ws.length) : (wordsTo ws j).length = 8 * j := by
  induction j with
  | zero => simp [wordsTo]
  | succ j ih => rw [wordsTo_succ (by omega), List.length_append, ih (by omega), hb_length]; omega
theorem below_setCell' {B : Nat} {w : World} {a : Addr} (u : Value) (h : B ≤ a.block) : Below B w (w.setCell a u) :=
  ⟨rfl, rfl, rfl, by simp [World.setCell], fun k hk => heap_setCell_other _ _ _ _ (by omega)⟩
theorem slice36_h (g l c m : Nat) (h : Int) (hh : h = m) (h2 : m ≤ c) (W : World) : (Instr.sliceAt 36 (.slice (some ⟨g, 0, none⟩) l c) none (some (.int .i64 h)) none).run Try.prog W = .ok (.slice (some ⟨g, 0, none⟩) m c) W := by
  subst hh
  obtain ⟨i5, hi, hz0, hz1, hz2⟩ := info_parts info5
  have he : Try.prog.elem 36 = 5 := by kernel_rfl
  have hadd : (⟨g, 0, none⟩ : Addr).add 0 = ⟨g, 0, none⟩ := rfl
  rw [run_sliceAt_slice _ _ _ _ _ _ (by rw [he]; exact Try.underlying36), run_slice_h _ _ _ _ _ (by rw [he]; exact Try.underlying36) _ _ (by omega) (by omega), he]
  simp [Go.sizeOf, typeInfo, hi, hz1, sliced, hadd]
theorem conv_row {w : World} {b : Nat} {row : Array Value} (h : w.heap[b]? = some (.cells row 5)) (l : List UInt8) (n c : Nat) (hl : l.length = n) (hc : ∀ j (hj : j < l.length), row[j]? = some (.int .u8 (l[j].toNat : Int))) :
    (convert 36 9 (.slice (some ⟨b, 0, none⟩) n c)).run Try.prog w = .ok (.string ⟨l.toArray⟩) w := by
  subst hl
  refine run_convert_bytes_back w 36 9 5 ⟨b, 0, none⟩ c l Try.underlying36 Try.underlying5 Try.underlying9 (fun j hj => ?_)
  have hadd : (⟨b, 0, none⟩ : Addr).add j = ⟨b, j, none⟩ := by unfold Addr.add; split <;> simp_all
  rw [hadd, cell_at h, hc j hj]
theorem byte_get {s : ByteArray} {j : Nat} (h : j < s.size) : s[j].toNat = byteAt s j := by
  have h2 : j < s.data.size := h
  unfold byteAt
  rw [List.getD_eq_getElem?_getD, Array.getElem?_toList, Array.getElem?_eq_getElem h2]; rfl
theorem told_eq {ws : List Nat} {m : Nat} (h : ws.length = m) : hb 6 3 ++ wordsTo ws m ++ hb 0 7 = told ws := by
  unfold told words wordsTo
  rw [List.take_of_length_le (by omega), List.append_assoc]
theorem want_conv {ws : List Nat} {m : Nat} (h : ws.length = m) (h2 : ∀ x ∈ ws, x < 144) (j : Nat) (hj : j < (ws.map UInt8.ofNat).length) : (wantRow ws m m)[j]? = some (.int .u8 ((ws.map UInt8.ofNat)[j].toNat : Int)) := by
  have hj2 : j < ws.length := by simpa using hj
  rw [wantRow_get (by omega), if_pos (by omega), List.getElem_map, List.getD_eq_getElem?_getD, List.getElem?_eq_getElem hj2]
  have := h2 _ (List.getElem_mem hj2)
  simp; omega
theorem pack_conv {β : List Nat} (h : ∀ b ∈ β, b ≤ 1) {n nb : Nat} (hn : n ≤ nb) (j : Nat) (hj : j < ((packed β nb).take n).length) : (rowOf β nb)[j]? = some (.int .u8 (((packed β nb).take n)[j].toNat : Int)) := by
  have hj2 : j < n := by rw [List.length_take] at hj; omega
  rw [rowOf_get (by omega), List.getElem_take]
  have := pk_lt h j
  simp [packed]; omega

/-- The round of the bytes. -/
structure Fx (wr w : World) (p nb m : Nat) (ws : List Nat) (j : Nat) : Prop where
  pt : Pt wr (p + 1 + 1 + 1) (p + 1 + 1) (p + 1) nb (hb 6 3 ++ wordsTo ws j)
  want : wr.heap[p]? = some (.cells (wantRow ws j m) 5)
  kept : Below p w wr

set_option maxRecDepth 100000 in
set_option maxHeartbeats 4000000 in
theorem fixed_law (s : ByteArray) (cut : Nat) (hs : s.size ≤ 140737488355328) (hcut : cut < 256) (w : World) :
    Calls Try.prog 8 #[.string s, .int .u8 (cut : Int)] w fun e w' => e = .returned (.bool true) ∧ Below w.heap.size w w' := by
  obtain ⟨m, hm⟩ : ∃ m, m = min s.size 100 := ⟨_, rfl⟩
  have hmn : (if (100 : Int) < (s.size : Int) then (100 : Int) else (s.size : Int)) = (m : Int) := by split <;> omega
  have hsl : ∀ W : World, (Instr.sliceAt 9 (.string s) none (some (.int .i64 (m : Int))) none).run Try.prog W = .ok (.string (s.extract 0 m)) W := fun W => by
    rw [run_sliceAt_string _ _ _ _ _ _ Try.underlying9, run_slice_string_h _ _ _ Try.underlying9 _ _ (by omega) (by omega)]
    simp
  have hm1 : m ≤ 100 := by omega
  have hms : m ≤ s.size := by omega
  have HM := Lib.hid hm; clear hm
  have hmn2 : min (s.size : Int) 100 = (m : Int) := by have := HM.out; omega
  go_enter Try.func8, Try.ntmps8
  go_wp2_with fail
  refine (ex_any w).mono ?_
  rintro e w1 ⟨rfl, b1⟩
  have b1 := Lib.hid b1
  have mk1 := make_bytes m (by omega)
  have mk2 : ∀ w : World, (Instr.makeSlice 36 (.int .i64 ((m : Int) + 3)) (.int .i64 ((m : Int) + 3))).run Try.prog w = .ok (.slice (some ⟨w.heap.size, 0, none⟩) (m + 3) (m + 3)) (w.alloc (.cells (rowOf [] (m + 3)) 5)) := make_bytes (m + 3) (by omega)
  have hmf : ∀ (fn : Fn) (first cap : Array Value) (w : World), (Instr.makeFunc fn first cap).run Try.prog w = .ok (.func fn first cap) w := fun _ _ _ _ => rfl
  have hxs : (s.extract 0 m).size = m := by rw [ByteArray.size_extract]; omega
  obtain ⟨sx, hsx⟩ : ∃ sx, sx = s.extract 0 m := ⟨_, rfl⟩
  rw [← hsx] at hxs hsl
  have HSX := Lib.hid hsx; clear hsx
  go_wp2_with fail
  obtain ⟨p, hp⟩ : ∃ p, p = w1.heap.size := ⟨_, rfl⟩
  rw [← hp]
  generalize hW : World.alloc (World.alloc (World.alloc (World.alloc w1 _) _) _) _ = W
  have s1 : (w1.alloc (.cells (rowOf [] m) 5)).heap.size = p + 1 := by simp [hp]
  have s2 : ((w1.alloc (.cells (rowOf [] m) 5)).alloc (.cells (rowOf [] (m + 3)) 5)).heap.size = p + 1 + 1 := by simp [hp]
  have s3 : (((w1.alloc (.cells (rowOf [] m) 5)).alloc (.cells (rowOf [] (m + 3)) 5)).alloc (.cells #[.slice (some ⟨p + 1, 0, none⟩) (m + 3) (m + 3)] 36)).heap.size = p + 1 + 1 + 1 := by simp [hp]
  have q0 : W.heap[p]? = some (.cells (rowOf [] m) 5) := by
    rw [← hW, Below.heap_alloc _ _ _ (by rw [s3]; omega), Below.heap_alloc _ _ _ (by rw [s2]; omega), Below.heap_alloc _ _ _ (by rw [s1]; omega), hp]
    exact heap_alloc_new w1 _
  have q1 : W.heap[p + 1]? = some (.cells (rowOf [] (m + 3)) 5) := by
    rw [← hW, Below.heap_alloc _ _ _ (by rw [s3]; omega), Below.heap_alloc _ _ _ (by rw [s2]; omega), ← s1]
    exact heap_alloc_new _ _
  have q2 : W.heap[p + 1 + 1]? = some (.cells #[.slice (some ⟨p + 1, 0, none⟩) (m + 3) (m + 3)] 36) := by
    rw [← hW, Below.heap_alloc _ _ _ (by rw [s3]; omega), ← s2]
    exact heap_alloc_new _ _
  have q3 : W.heap[p + 1 + 1 + 1]? = some (.cells #[.int .i64 0] 3) := by
    rw [← hW, ← s3]
    exact heap_alloc_new _ _
  have BW : Below p w1 W := by
    rw [← hW]
    exact ((((Below.refl _ _).alloc (by omega) _).alloc (by rw [s1]; omega) _).alloc (by rw [s2]; omega) _).alloc (by rw [s3]; omega) _
  have P0 : Pt W (p + 1 + 1 + 1) (p + 1 + 1) (p + 1) (m + 3) [] := ⟨q3, q2, q1, by omega, by omega, by omega, by simp⟩
  have BW := Lib.hid BW
  have HPP := Lib.hid hp; clear hp s1 s2 s3 hW q1 q2 q3
  have hput := put_any 6 3 (by omega) (by omega) (by omega) W P0 (by rw [List.length_nil]; omega)
  have HPUT := Lib.hid hput; clear hput P0
  have Q0 := Lib.hid q0; clear q0
  refine HPUT.out.mono ?_
  rintro e w2 ⟨rfl, P2, k2⟩
  obtain ⟨ws, hws⟩ : ∃ ws : List Nat, ws = (List.range m).map fun i => byteAt sx i % 144 := ⟨_, rfl⟩
  have hwl : ws.length = m := by rw [hws]; simp
  have hw144 : ∀ x ∈ ws, x < 144 := by
    intro x hx
    rw [hws] at hx
    obtain ⟨i, _, rfl⟩ := List.mem_map.1 hx
    omega
  have hwg : ∀ i, i < m → ws.getD i 0 = byteAt sx i % 144 := fun i hi => by
    rw [hws, List.getD_eq_getElem?_getD, List.getElem?_map, List.getElem?_range hi]; rfl
  have hw0 : w1.heap.size ≤ W.heap.size := by have := BW.out.size; exact this
  have F2 : Fx w2 w1 p (m + 3) m ws 0 := ⟨by simpa [wordsTo] using P2, by
      rw [k2.block p (Array.getElem?_eq_some_iff.1 Q0.out).1 (by simp; omega), Q0.out, wantRow_zero ws],
    BW.out.trans (k2.below (by intro k hk; simp at hk; omega) (by have := HPP.out; omega))⟩
  have F2 := Lib.hid F2
  have HWS := Lib.hid hws; clear hws
  have HWL := Lib.hid hwl; clear hwl
  have HWG := Lib.hid hwg; clear hwg
  have H144 := Lib.hid hw144; clear hw144
  clear P2 k2
  go_wp2_with fail
  go_loopg [10] m (fun g i wr => ∃ j : Nat, g = m - j ∧ j ≤ m ∧ i = .int .i64 (j : Int) ∧ Hid (Fx wr w1 p (m + 3) m ws j))
  case atStart => exact ⟨0, rfl, Nat.zero_le _, rfl, F2⟩
  case round =>
    obtain ⟨j, hq, hj, rfl, F⟩ := hrel
    by_cases hlt : j < m
    · have hd : decide ((j : Int) < (m : Int)) = true := by simp; omega
      have hx := HWG.out j hlt
      obtain ⟨x, hxe⟩ : ∃ x, x = ws.getD j 0 := ⟨_, rfl⟩
      rw [← hxe] at hx
      have i1 : (j : Int) < (sx.size : Int) := by omega
      have fW := frozen_of_row wr p j _ _ F.out.want
      have cW : wr.cell? ⟨p, j, none⟩ = some (.int .u8 ((if j < j then ws.getD j 0 else 0 : Nat) : Int)) := by rw [cell_at F.out.want, wantRow_get hlt]
      go_wp2_with fail
      have hxi : ((sx[j]'(by omega)).toNat : Int) % 144 = (x : Int) := by rw [byte_get (by omega)]; omega
      rw [hxi]
      have PW : Pt (wr.setCell ⟨p, j, none⟩ (.int .u8 (x : Int))) (p + 1 + 1 + 1) (p + 1 + 1) (p + 1) (m + 3) (hb 6 3 ++ wordsTo ws j) :=
        F.out.pt.move (heap_setCell_other _ _ _ _ (by show _ ≠ p; omega)) (heap_setCell_other _ _ _ _ (by show _ ≠ p; omega)) (heap_setCell_other _ _ _ _ (by show _ ≠ p; omega))
      have WW : (wr.setCell ⟨p, j, none⟩ (.int .u8 (x : Int))).heap[p]? = some (.cells (wantRow ws (j + 1) m) 5) := by
        rw [heap_setCell_same _ _ _ _ _ _ F.out.want, hxe, wantRow_set]
      have hput := put_any (48 + x) 8 (by omega) (by omega) (by omega) _ PW (by rw [List.length_append, hb_length, wordsTo_length ws (by have := HWL.out; omega)]; omega)
      rw [show ((48 + x : Nat) : Int) = 48 + (x : Int) from by omega] at hput
      have hwp : p ≤ wr.heap.size := by have := F.out.kept.size; have := HPP.out; omega
      have HPUT := Lib.hid hput; clear hput PW
      have HXE := Lib.hid hxe; clear hxe
      have WW := Lib.hid WW
      clear hx hxi
      refine HPUT.out.mono ?_
      rintro e w3 ⟨rfl, P3, k3⟩
      have F3 : Fx w3 w1 p (m + 3) m ws (j + 1) := ⟨by rw [wordsTo_succ (by have := HWL.out; omega), ← List.append_assoc, ← HXE.out]; exact P3,
        (k3.block p (Array.getElem?_eq_some_iff.1 WW.out).1 (by simp; omega)).trans WW.out,
        (F.out.kept.trans (below_setCell' _ (Nat.le_refl _))).trans (k3.below (by intro k hk; simp at hk; omega) (by simp [World.setCell]; exact hwp))⟩
      have F3 := Lib.hid F3
      clear P3 k3
      go_wp2
      go_roundg (m - (j + 1))
      case measure => omega
      case rel => exact ⟨j + 1, rfl, by omega, by go_num, F3⟩
    · obtain rfl : j = m := by omega
      have hd : decide ((j : Int) < (j : Int)) = false := by simp
      have hput := put_any 0 7 (by omega) (by omega) (by omega) wr F.out.pt (by rw [List.length_append, hb_length, wordsTo_length ws (by have := HWL.out; omega)]; omega)
      rw [told_eq HWL.out] at hput
      have HPUT := Lib.hid hput; clear hput
      go_wp2_with fail
      refine HPUT.out.mono ?_
      rintro e w3 ⟨rfl, P3, k3⟩
      have hwp : p ≤ wr.heap.size := by have := F.out.kept.size; have := HPP.out; omega
      have W3 : w3.heap[p]? = some (.cells (wantRow ws j j) 5) := (k3.block p (Array.getElem?_eq_some_iff.1 F.out.want).1 (by simp; omega)).trans F.out.want
      have K3 : Below p w1 w3 := F.out.kept.trans (k3.below (by intro k hk; simp at hk; omega) hwp)
      have htl : (told ws).length = 8 * j + 10 := by rw [told_length, HWL.out]
      have cA : w3.cell? ⟨p + 1 + 1 + 1, 0, none⟩ = some (.int .i64 (8 * (j : Int) + 10)) := by
        rw [cell_at P3.ha, htl]
        show some (Value.int .i64 (((8 * j + 10 : Nat) : Int))) = _
        rw [show ((8 * j + 10 : Nat) : Int) = 8 * (j : Int) + 10 from by omega]
      have cB : w3.cell? ⟨p + 1 + 1, 0, none⟩ = some (.slice (some ⟨p + 1, 0, none⟩) (j + 3) (j + 3)) := by rw [cell_at P3.hb]; rfl
      have hu : (8 * (j : Int) + 10 + 7) / 8 = (j : Int) + 2 := by omega
      obtain ⟨S, hS⟩ : ∃ S : ByteArray, S = ⟨(packed (told ws) (j + 3)).toArray⟩ := ⟨_, rfl⟩
      have hSl : S.data.toList = packed (told ws) (ws.length + 3) := by rw [hS, HWL.out]
      have hSz : S.size = j + 3 := by rw [size_list hSl, HWL.out]; simp [packed]
      have hcv : (convert 36 9 (.slice (some ⟨p + 1, 0, none⟩) (j + 3) (j + 3))).run Try.prog w3 = .ok (.string S) w3 := by
        rw [hS]
        have := conv_row P3.hr ((packed (told ws) (j + 3)).take (j + 3)) (j + 3) (j + 3) (by simp [packed]) (pack_conv (told_le ws) (Nat.le_refl _))
        rwa [List.take_of_length_le (by simp [packed])] at this
      have hop := open_any (s := S) (j : Int) (by omega) w3
      have hok := told_ok H144.out (by rw [HWL.out]; exact hm1) hSl
      rw [HWL.out] at hok
      rw [hok] at hop
      obtain ⟨A, hA⟩ : ∃ A : ByteArray, A = ⟨(ws.map UInt8.ofNat).toArray⟩ := ⟨_, rfl⟩
      rw [← hA] at hop
      have HOP := Lib.hid hop; clear hop hok
      obtain ⟨q, hq0⟩ : ∃ q, q = cut % (j + 2) := ⟨_, rfl⟩
      have hql : q < j + 2 := by rw [hq0]; exact Nat.mod_lt _ (by omega)
      have hqe : (cut : Int).tmod ((j : Int) + 2) = (q : Int) := by rw [Int.tmod_eq_emod_of_nonneg (by omega), hq0]; simp
      have hqe2 : (cut : Int) % ((j : Int) + 2) = (q : Int) := by rw [hq0]; simp
      have P3 := Lib.hid P3
      have W3 := Lib.hid W3
      have K3 := Lib.hid K3
      have HS := Lib.hid hS; clear hS
      have HSL := Lib.hid hSl; clear hSl
      have HSZ := Lib.hid hSz; clear hSz
      have HAA := Lib.hid hA; clear hA
      have HTL := Lib.hid htl; clear htl
      have HQ0 := Lib.hid hq0; clear hq0
      clear k3
      go_wp2_with fail
      refine HOP.out.mono ?_
      rintro e w4 ⟨rfl, b4⟩
      have hp3 : p + 1 + 1 < w3.heap.size := (Array.getElem?_eq_some_iff.1 P3.out.hb).1
      have e4 : ∀ k, k ≤ p + 1 + 1 → w4.heap[k]? = w3.heap[k]? := fun k hk => b4.block k (by omega)
      have cB4 : w4.cell? ⟨p + 1 + 1, 0, none⟩ = some (.slice (some ⟨p + 1, 0, none⟩) (j + 3) (j + 3)) := by rw [cell_at ((e4 _ (by omega)).trans P3.out.hb)]; rfl
      have cB4d : w4.drew.cell? ⟨p + 1 + 1, 0, none⟩ = some (.slice (some ⟨p + 1, 0, none⟩) (j + 3) (j + 3)) := cB4
      obtain ⟨S2, hS2⟩ : ∃ S : ByteArray, S = ⟨((packed (told ws) (j + 3)).take q).toArray⟩ := ⟨_, rfl⟩
      have hs2 : ∀ W : World, (Instr.sliceAt 36 (.slice (some ⟨p + 1, 0, none⟩) (j + 3) (j + 3)) none (some (.int .i64 (q : Int))) none).run Try.prog W = .ok (.slice (some ⟨p + 1, 0, none⟩) q (j + 3)) W := slice36_h _ _ _ _ _ rfl (by omega)
      have hcv2 : (convert 36 9 (.slice (some ⟨p + 1, 0, none⟩) q (j + 3))).run Try.prog w4.drew = .ok (.string S2) w4.drew := by
        rw [hS2]
        exact conv_row (w := w4.drew) ((e4 _ (by omega)).trans P3.out.hr) ((packed (told ws) (j + 3)).take q) q (j + 3) (by simp [packed]; omega) (pack_conv (told_le ws) (by omega))
      have hS2z : S2.size = q := by rw [size_list (l := (packed (told ws) (j + 3)).take q) (by rw [hS2])]; simp [packed]; omega
      have hpf : Pfx q S S2 := ⟨by rw [HSZ.out]; omega, by omega, fun i hi => by
        rw [HS.out, hS2, List.getD_eq_getElem?_getD, List.getD_eq_getElem?_getD, List.getElem?_take, if_pos hi]⟩
      have hcut2 := told_cut H144.out (by rw [HWL.out]; exact hm1) HSL.out hpf hS2z (by rw [HWL.out]; exact hql)
      rw [HWL.out] at hcut2
      have hop2 := open_any (s := S2) (j : Int) (by omega) w4.drew
      obtain ⟨⟨L2, n2, e2⟩, hV2⟩ : ∃ V, V = openV S2 (j : Int) := ⟨_, rfl⟩
      rw [← hV2] at hop2 hcut2
      obtain rfl : e2 = 2 := hcut2
      have hcw : ∀ w5, Below w4.heap.size w4.drew w5 → (convert 36 9 (.slice (some ⟨p, 0, none⟩) j j)).run Try.prog w5 = .ok (.string A) w5 := fun w5 b5 => by
        rw [HAA.out]
        exact conv_row ((b5.block p (by have := b4.size; omega)).trans ((e4 _ (by omega)).trans W3.out)) _ _ _ (by simp [HWL.out]) (want_conv HWL.out H144.out)
      have HCW := Lib.hid hcw; clear hcw
      have HOP2 := Lib.hid hop2; clear hop2
      have HV2 := Lib.hid hV2; clear hV2
      have HS2 := Lib.hid hS2; clear hS2
      have b4 := Lib.hid b4
      clear hS2z
      have i2 : (0 : Int) < (j : Int) + 2 := by omega
      have i3 : ((j : Int) + 2 == 0) = false := by simp; omega
      go_wp2_with fail
      clear hmn hmn2 hsl mk1 mk2 hmf hu cA cB cB4 hcv
      go_region_with (go_at_call 10; refine HOP2.out.mono ?_; rintro e w5 ⟨rfl, b5⟩)
      all_goals
        have hcw2 := HCW.out w5 b5
        have b5 := Lib.hid b5
        go_wp2
        go_ret
        have t1 := b1.out.size
        have t2 := HPP.out
        have t3 := K3.out.size
        have t4 := b4.out.size
        exact ⟨rfl, b1.out.trans ((K3.out.mono (by omega)).trans ((b4.out.mono (by omega)).trans (((Below.drewN' w.heap.size w4 1)).trans (b5.out.mono (by show _ ≤ w4.heap.size; omega)))))⟩
end Go.Proofs.Ytcgcacegkbbmiaa
