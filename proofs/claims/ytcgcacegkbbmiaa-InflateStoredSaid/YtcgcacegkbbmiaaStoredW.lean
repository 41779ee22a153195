/- The law InflateStored, walked. -/
import Derived.Test.YtcgcacegkbbmiaaEx
import Derived.Test.YtcgcacegkbbmiaaStoredL
namespace Go.Proofs.Ytcgcacegkbbmiaa
open Go.RowKit

/-- The texts that are told: ten at most, at most 300 bytes of each. -/
def texts (l : List ByteArray) : List (List UInt8) := (l.take 10).map fun s => s.data.toList.take 300
theorem texts_length (l : List ByteArray) : (texts l).length = min l.length 10 := by simp [texts]; omega
def ats (T : List (List UInt8)) (i : Nat) : List Nat := (List.range i).map fun j => (encs (T.take j)).length + 3

theorem texts_le (l : List ByteArray) : ∀ t ∈ texts l, t.length ≤ 300 := by
  intro t ht
  unfold texts at ht
  obtain ⟨s, _, rfl⟩ := List.mem_map.1 ht
  rw [List.length_take]; omega
theorem texts_getD {l : List ByteArray} {j : Nat} (h : j < min l.length 10) : (texts l).getD j [] = (l.getD j ByteArray.empty).data.toList.take 300 := by
  unfold texts
  rw [List.getD_eq_getElem?_getD, List.getElem?_map, List.getElem?_take, if_pos (by omega), List.getD_eq_getElem?_getD, List.getElem?_eq_getElem (by omega : j < l.length)]
  rfl
theorem encs_len {A : List (List UInt8)} (h : ∀ t ∈ A, t.length ≤ 300) : (encs A).length ≤ 305 * A.length := by
  induction A with
  | nil => simp [encs]
  | cons t A ih =>
    show (enc 0 t ++ encs A).length ≤ 305 * (A.length + 1)
    have := ih (fun u hu => h u (List.mem_cons_of_mem _ hu))
    have := h t List.mem_cons_self
    rw [List.length_append, enc_length]; omega
theorem flat_le {A : List (List UInt8)} (h : ∀ t ∈ A, t.length ≤ 300) : A.flatten.length ≤ 300 * A.length := by
  induction A with
  | nil => simp
  | cons t A ih =>
    have := ih (fun u hu => h u (List.mem_cons_of_mem _ hu))
    have := h t List.mem_cons_self
    rw [List.flatten_cons, List.length_append, List.length_cons]; omega
theorem body_le {T : List (List UInt8)} {j : Nat} (h : ∀ t ∈ T, t.length ≤ 300) : (body T j).length ≤ 305 * j := by
  have ht : ∀ i, (encs (T.take i)).length ≤ 305 * i := fun i => by
    have := encs_len (A := T.take i) (fun u hu => h u (List.mem_of_mem_take hu))
    have h2 : (T.take i).length ≤ i := List.length_take_le _ _
    omega
  unfold body
  split
  · exact ht j
  · rename_i hn
    have := ht (j - 1)
    have hl : (T.getD (j - 1) []).length ≤ 300 := by
      rw [List.getD_eq_getElem?_getD]
      cases hx : T[j - 1]? with
      | none => simp
      | some x => exact h x (List.mem_of_getElem? hx)
    rw [List.length_append, enc_length]; omega

theorem xor_low (n : Nat) (h : n ≤ 300) : bits .xor .i64 (-1) (n : Int) = -(n : Int) - 1 := by
  have : ∀ n : Fin 301, bits .xor .i64 (-1) (n.val : Int) = -(n.val : Int) - 1 := by decide +kernel
  exact this ⟨n, by omega⟩
/-- A length, and its other half. -/
def headOf (n : Nat) : ByteArray := ⟨#[UInt8.ofNat (n % 256), UInt8.ofNat (n / 256), UInt8.ofNat ((65535 - n) % 256), UInt8.ofNat ((65535 - n) / 256)]⟩
theorem conv4 (n : Nat) (h : n ≤ 300) (W : World) : (convert 36 9 (.slice (some ⟨W.heap.size, 0, none⟩) 4 4)).run Try.prog (W.alloc (.cells #[.int .u8 ((n : Int) % 256), .int .u8 ((n : Int) / 256), .int .u8 ((-(n : Int) - 1) % 256), .int .u8 ((-(n : Int) - 1) / 256 % 256)] 5)) = .ok (.string (headOf n)) (W.alloc (.cells #[.int .u8 ((n : Int) % 256), .int .u8 ((n : Int) / 256), .int .u8 ((-(n : Int) - 1) % 256), .int .u8 ((-(n : Int) - 1) / 256 % 256)] 5)) := by
  refine run_convert_bytes_back _ 36 9 5 ⟨W.heap.size, 0, none⟩ 4 [UInt8.ofNat (n % 256), UInt8.ofNat (n / 256), UInt8.ofNat ((65535 - n) % 256), UInt8.ofNat ((65535 - n) / 256)] Try.underlying36 Try.underlying5 Try.underlying9 (fun j hj => ?_)
  have hadd : (⟨W.heap.size, 0, none⟩ : Addr).add j = ⟨W.heap.size, j, none⟩ := by unfold Addr.add; split <;> simp_all
  rw [hadd, cell_at (heap_alloc_new W _)]
  have hj : j < 4 := hj
  have e0 : (n : Int) % 256 = ((UInt8.ofNat (n % 256)).toNat : Int) := by simp
  have e1 : (n : Int) / 256 = ((UInt8.ofNat (n / 256)).toNat : Int) := by simp; omega
  have e2 : (-(n : Int) - 1) % 256 = ((UInt8.ofNat ((65535 - n) % 256)).toNat : Int) := by simp; omega
  have e3 : (-(n : Int) - 1) / 256 % 256 = ((UInt8.ofNat ((65535 - n) / 256)).toNat : Int) := by simp; omega
  rcases j with _ | _ | _ | _ | j
  · rw [e0]; rfl
  · rw [e1]; rfl
  · rw [e2]; rfl
  · rw [e3]; rfl
  · omega

theorem ats_succ (T : List (List UInt8)) (j : Nat) : ats T (j + 1) = ats T j ++ [(encs (T.take j)).length + 3] := by simp [ats, List.range_succ]
theorem bytes_ext {a b : ByteArray} (h : a.data.toList = b.data.toList) : a = b := by
  obtain ⟨a⟩ := a
  obtain ⟨b⟩ := b
  have h : a.toList = b.toList := h
  rw [Array.toList_inj] at h; rw [h]
theorem bytesRow_get {s : ByteArray} {c i : Nat} (h : i < s.size) : (bytesRow s c)[i]? = some (.int .u8 (byteAt s i : Int)) := by
  have h : i < s.data.size := h
  unfold bytesRow byteAt
  rw [Array.getElem?_append_left (by simpa using h), Array.getElem?_map, Array.getElem?_eq_getElem h, List.getD_eq_getElem?_getD, Array.getElem?_toList, Array.getElem?_eq_getElem h]
  rfl
theorem xor8 (a b : Nat) (ha : a < 256) (hb : b < 256) : bits .xor .u8 (a : Int) (b : Int) = ((a ^^^ b : Nat) : Int) := by
  have h : a ^^^ b < 2 ^ 8 := Nat.xor_lt_two_pow (by omega) (by omega)
  have ha' : a % 2 ^ IntKind.u8.bits = a := Nat.mod_eq_of_lt ha
  have hb' : b % 2 ^ IntKind.u8.bits = b := Nat.mod_eq_of_lt hb
  simp only [bits, BitVec.ofInt_natCast, BitVec.toNat_xor, BitVec.toNat_ofNat, ha', hb']
  show (((a ^^^ b : Nat) : Int)) % 256 = _
  omega
theorem heap_setCell_fr {w : World} {b i : Nat} {cs : Array Value} {t : TypeId} {fr : Nat × Nat} (hb : w.heap[b]? = some (.cells cs t fr)) (v : Value) : (w.setCell ⟨b, i, none⟩ v).heap[b]? = some (.cells (cs.setIfInBounds i v) t fr) := by
  simp [World.setCell, Array.getElem?_modify, hb]
theorem addr_add0 (b j : Nat) : (⟨b, 0, none⟩ : Addr).add j = ⟨b, j, none⟩ := by unfold Addr.add; split <;> simp_all
theorem below_setCell {B : Nat} {w : World} {a : Addr} (u : Value) (h : B ≤ a.block) : Below B w (w.setCell a u) :=
  ⟨rfl, rfl, rfl, by simp [World.setCell], fun k hk => heap_setCell_other _ _ _ _ (by omega)⟩
theorem set_two {sv : ByteArray} {row : Array Value} {ps c d j : Nat} (hj : j < sv.size) (hrc : ∀ i, i < sv.size → row[i]? = some (.int .u8 (byteAt sv i : Int))) (hrz : sv.size ≤ row.size) (hc : c < 256) (hd : d < 256)
    (hj2 : j < ((sv.data.toList.set ps (UInt8.ofNat c)).set (ps + 1) (UInt8.ofNat d)).length) :
    ((row.setIfInBounds ps (.int .u8 (c : Int))).setIfInBounds (ps + 1) (.int .u8 (d : Int)))[j]? = some (.int .u8 (((sv.data.toList.set ps (UInt8.ofNat c)).set (ps + 1) (UInt8.ofNat d))[j].toNat : Int)) := by
  have hl : j < sv.data.toList.length := by rw [Array.length_toList]; exact hj
  rw [List.getElem_set]
  by_cases h1 : ps + 1 = j
  · subst h1
    rw [if_pos rfl, Array.getElem?_setIfInBounds_self_of_lt (by simp; omega)]
    simp; omega
  · rw [if_neg h1, List.getElem_set, Array.getElem?_setIfInBounds_ne h1]
    by_cases h2 : ps = j
    · subst h2
      rw [if_pos rfl, Array.getElem?_setIfInBounds_self_of_lt (by omega)]
      simp; omega
    · rw [if_neg h2, Array.getElem?_setIfInBounds_ne h2, hrc j hj]
      unfold byteAt
      rw [List.getD_eq_getElem?_getD, List.getElem?_eq_getElem hl]; rfl
theorem frozen_low {w : World} {b j : Nat} {cs : Array Value} {t : TypeId} {fr : Nat × Nat} (h : w.heap[b]? = some (.cells cs t fr)) (hj : j < fr.1) : w.frozen? ⟨b, j, none⟩ = false := by
  unfold World.frozen?
  simp only [h]
  simp
  omega
theorem step_list {sv t : ByteArray} {x : UInt8} {n : Nat} (h : n = t.data.toList.length) : (sv ++ ⟨#[x]⟩ ++ headOf n ++ t).data.toList = sv.data.toList ++ enc x t.data.toList := by
  rw [ByteArray.data_append, ByteArray.data_append, ByteArray.data_append]
  simp [headOf, enc, encX, h]
theorem body_step {T : List (List UInt8)} {j : Nat} {x : UInt8} (h : j < T.length) (hx : x = if j + 1 = T.length then 1 else 0) : body T j ++ enc x (T.getD j []) = body T (j + 1) := by
  unfold body
  rw [if_pos (.inl h)]
  by_cases h1 : j + 1 = T.length
  · rw [if_pos h1] at hx
    rw [if_neg (by omega), Nat.add_sub_cancel, hx]
  · rw [if_neg h1] at hx
    rw [if_pos (.inl (by omega)), encs_take h, hx]

/-- The round of the texts. -/
structure Sr (wr w : World) (T : List (List UInt8)) (i : Nat) (sv av : ByteArray) (va : Option Addr) (vc : Nat) : Prop where
  kept : Below w.heap.size w wr
  hs : sv.data.toList = body T i
  ha : av.data.toList = (T.take i).flatten
  own : wr.ownsRow w.heap.size 3 1 (.slice va i vc) i (vals (ats T i))

set_option maxRecDepth 100000 in
set_option maxHeartbeats 4000000 in
theorem stored_law (l : List ByteArray) (la : Option Addr) (lc : Nat) (k : Int) (by0 : Nat) (w : World) (hl : l.length ≤ maxLen) (hsz : ∀ s ∈ l, s.size ≤ maxLen) (hby : by0 < 65536) (hk : -9223372036854775808 ≤ k ∧ k ≤ 9223372036854775807)
    (hc : ∀ i, i < l.length → ∃ a, la = some a ∧ a.block < w.heap.size ∧ w.cell? (a.add i) = some (.string (l.getD i ByteArray.empty))) :
    Calls Try.prog 5 #[.slice la l.length lc, .int .i64 k, .int .u16 (by0 : Int)] w fun e w' => e = .returned (.bool true) ∧ Below w.heap.size w w' := by
  have hml : maxLen < 9223372036854775808 := by decide
  have HC := Lib.hid hc; clear hc
  have HSZ := Lib.hid hsz; clear hsz
  have HK := Lib.hid hk; clear hk
  go_enter Try.func5, Try.ntmps5
  go_wp2_with fail
  refine (ex_any w).mono ?_
  rintro e w1 ⟨rfl, b1⟩
  have b1 := Lib.hid b1
  obtain ⟨T, hT⟩ : ∃ T, T = texts l := ⟨_, rfl⟩
  have hTl : T.length = min l.length 10 := by rw [hT]; exact texts_length l
  have HT := Lib.hid hT; clear hT
  have HTL := Lib.hid hTl; clear hTl
  go_wp2_with fail
  go_loopg [8, 9, 10, 11, 12, 13] 10 (fun g s a v i _ _ wr => ∃ (j : Nat) (sv av : ByteArray) (va : Option Addr) (vc : Nat), g = 10 - j ∧ j ≤ min l.length 10 ∧ s = .string sv ∧ a = .string av ∧ v = .slice va j vc ∧ i = .int .i64 (j : Int) ∧ Hid (Sr wr w1 T j sv av va vc))
  case atStart => exact ⟨0, ⟨#[]⟩, ⟨#[]⟩, none, 0, rfl, Nat.zero_le _, rfl, rfl, rfl, rfl, Lib.hid ⟨Below.refl _ _, by simp [body, encs], by simp, World.ownsRow_nil _ _ _ _⟩⟩
  case round =>
    obtain ⟨j, sv, av, va, vc, hgj, hj, rfl, rfl, rfl, rfl, R⟩ := hrel
    by_cases hlt : j < min l.length 10
    · have hd1 : decide ((j : Int) < (l.length : Int)) = true := by simp; omega
      have hd2 : decide ((j : Int) < 10) = true := by simp; omega
      have hjl : j < l.length := by omega
      obtain ⟨a, rfl, hab, hcell⟩ := HC.out j hjl
      have hcell : wr.cell? (a.add j) = some (.string (l.getD j ByteArray.empty)) := (R.out.kept.cell (Nat.lt_of_lt_of_le (by rw [show (a.add j).block = a.block from by unfold Addr.add; split <;> rfl]; exact hab) b1.out.size)).trans (b1.out.cell (by rw [show (a.add j).block = a.block from by unfold Addr.add; split <;> rfl]; exact hab) |>.trans hcell)
      have hss : (l.getD j ByteArray.empty).size ≤ maxLen := by
        rw [List.getD_eq_getElem?_getD, List.getElem?_eq_getElem hjl]; exact HSZ.out _ (List.getElem_mem hjl)
      obtain ⟨s, hs⟩ : ∃ s, s = l.getD j ByteArray.empty := ⟨_, rfl⟩
      rw [← hs] at hcell hss
      have HS := Lib.hid hs; clear hs
      have i0 : (j : Int) < (l.length : Int) := by omega
      obtain ⟨n, hn⟩ : ∃ n, n = min s.size 300 := ⟨_, rfl⟩
      have hmn : min (s.size : Int) 300 = (n : Int) := by omega
      have hsl : ∀ W : World, (Instr.sliceAt 9 (.string s) none (some (.int .i64 (n : Int))) none).run Try.prog W = .ok (.string (s.extract 0 n)) W := fun W => by
        rw [run_sliceAt_string _ _ _ _ _ _ Try.underlying9, run_slice_string_h _ _ _ Try.underlying9 _ _ (by omega) (by omega)]
        simp
      have hn3 : n ≤ 300 := by omega
      go_wp2_with fail
      go_quiet (fail)
      have htt : (if (300 : Int) < (s.size : Int) then (300 : Int) else (s.size : Int)) = (n : Int) := by split <;> omega
      rw [htt, Int.toNat_natCast]
      have HN := Lib.hid hn; clear hn
      obtain ⟨t, ht⟩ : ∃ t, t = s.extract 0 n := ⟨_, rfl⟩
      rw [← ht]
      have htsz : t.size = n := by rw [ht, ByteArray.size_extract]; omega
      have htl : t.data.toList = (texts l).getD j [] := by
        rw [ht, HN.out, texts_getD hlt, HS.out, ByteArray.data_extract, Array.toList_extract]
        simp [List.take_eq_take_iff]
        omega
      generalize hW : World.drewN _ _ = W
      have hWk : Below w1.heap.size w1 W := by rw [← hW]; exact R.out.kept.trans (Below.drewN' _ _ _)
      have hWo : W.ownsRow w1.heap.size 3 1 (.slice va j vc) j (vals (ats T j)) := by rw [← hW]; exact row_kept R.out.own (fun _ _ => rfl)
      obtain ⟨i3, hi3, hz30, hz31, hz32⟩ := info_parts info3
      have HI3 := Lib.hid hi3
      have hWK := Lib.hid hWk
      have HWO := Lib.hid hWo
      have HT0 := Lib.hid ht; clear ht
      clear hW hmn hsl htt hcell hWk hWo
      have hvs : sv.size ≤ 4000 := by
        rw [size_list R.out.hs]
        have := body_le (T := T) (j := j) (by rw [HT.out]; exact texts_le l)
        omega
      have hBW : w1.heap.size ≤ W.heap.size := hWK.out.size
      have hvs2 : av.size ≤ 4000 := by
        rw [size_list R.out.ha]
        have := flat_le (A := T.take j) (fun u hu => by rw [HT.out] at hu; exact texts_le l u (List.mem_of_mem_take hu))
        have h2 : (T.take j).length ≤ j := List.length_take_le _ _
        omega
      have hwo2 : ∀ x, (W.alloc (.cells #[x] 3)).ownsRow w1.heap.size 3 1 (.slice va j vc) j (vals (ats T j)) := fun x => row_kept HWO.out (fun k hk => Below.heap_alloc _ _ _ (by obtain ⟨_, cur, hc⟩ := row_block HWO.out hk; exact (Array.getElem?_eq_some_iff.1 hc).1))
      go_wp2_with (at_builtin; refine wpList_append_lies _ rfl _ _ 34 rfl w1.heap.size 3 i3 _ 1 8 Try.underlying34 hi3 hz30 hz31 hz32 rfl (by decide) (.slice va j vc) j _ rfl (hwo2 _) ⟨W.heap.size, 0, none⟩ 1 1 [.int .i64 ((sv.size : Int) + 3)] rfl rfl ?c2 ?c3 (by decide) ?c4 ?c5 ?c6 (W.heap.size + 1) (by simp) ?c7)
      case c2 =>
        intro i u hu
        cases i with
        | zero =>
          simp at hu
          subst hu
          rw [show (⟨W.heap.size, 0, none⟩ : Addr).add 0 = ⟨W.heap.size, 0, none⟩ from rfl, cell_at (heap_alloc_new W _)]
          rfl
        | succ i => simp at hu
      case c3 => intro u hu; simp at hu; subst hu; rfl
      case c4 => unfold maxLen; omega
      case c5 => omega
      case c6 => simp; omega
      case c7 =>
      intro g8 D8 w8 hown8 hg8 hat8 hlt8
      have B8 : Below w1.heap.size w1 w8 := hWK.out.trans (((Below.refl _ _).alloc hBW _).trans ((KeptBut.of_grown (S := blk va) hg8 (fun k hk => mem_blk.2 hk)).below (fun k hk => (row_block HWO.out hk).1) (by simp; omega)))
      have B8 := Lib.hid B8
      have hW8 : W.heap.size ≤ w8.heap.size := by have := hg8.size; simp at this; omega
      have hvz : (sv.size : Int) + 3 = (((encs (T.take j)).length + 3 : Nat) : Int) := by
        rw [size_list R.out.hs]; unfold body; rw [if_pos (.inl (by rw [HTL.out]; exact hlt))]; rfl
      have O8 : w8.ownsRow w1.heap.size 3 1 (.slice (some ⟨g8, 0, none⟩) (j + 1) D8) (j + 1) (vals (ats T (j + 1))) := by
        rw [hvz] at hown8
        rw [ats_succ, vals_append]; exact hown8
      have O8 := Lib.hid O8
      clear hvz hown8 hg8 hat8 hlt8
      have hcs : (10 < l.length ∧ j = 9) ∨ (10 < l.length ∧ j ≠ 9) ∨ (l.length ≤ 10 ∧ j + 1 = l.length) ∨ (l.length ≤ 10 ∧ j + 1 ≠ l.length) := by omega
      have hx : bits .xor .i64 (-1) (n : Int) = -(n : Int) - 1 := xor_low n hn3
      have hcv : ∀ W : World, (convert 36 9 (.slice (some ⟨W.heap.size, 0, none⟩) 4 4)).run Try.prog (W.alloc (.cells #[.int .u8 ((n : Int) % 256), .int .u8 ((n : Int) / 256), .int .u8 ((-(n : Int) - 1) % 256), .int .u8 ((-(n : Int) - 1) / 256 % 256)] 5)) = .ok (.string (headOf n)) (W.alloc (.cells #[.int .u8 ((n : Int) % 256), .int .u8 ((n : Int) / 256), .int .u8 ((-(n : Int) - 1) % 256), .int .u8 ((-(n : Int) - 1) / 256 % 256)] 5)) := conv4 n hn3
      rcases hcs with ⟨h10, h9⟩ | ⟨h10, h9⟩ | ⟨h10, h9⟩ | ⟨h10, h9⟩
      case' inl =>
        have p10 : (10 : Int) < (l.length : Int) := by omega
        have hB : ((j : Int) == 9) = true := by simp; omega
        obtain ⟨x, hx1⟩ : ∃ x : UInt8, x = 1 := ⟨_, rfl⟩
        have HX : Hid (x = if j + 1 = min l.length 10 then 1 else 0) := Lib.hid (by rw [if_pos (by omega), hx1])
      case' inr.inl =>
        have p10 : (10 : Int) < (l.length : Int) := by omega
        have hB : ((j : Int) == 9) = false := by simp; omega
        obtain ⟨x, hx1⟩ : ∃ x : UInt8, x = 0 := ⟨_, rfl⟩
        have HX : Hid (x = if j + 1 = min l.length 10 then 1 else 0) := Lib.hid (by rw [if_neg (by omega), hx1])
      case' inr.inr.inl =>
        have p10 : ¬ (10 : Int) < (l.length : Int) := by omega
        have hB : ((j : Int) == (l.length : Int) - 1) = true := by simp; omega
        obtain ⟨x, hx1⟩ : ∃ x : UInt8, x = 1 := ⟨_, rfl⟩
        have HX : Hid (x = if j + 1 = min l.length 10 then 1 else 0) := Lib.hid (by rw [if_pos (by omega), hx1])
      case' inr.inr.inr =>
        have p10 : ¬ (10 : Int) < (l.length : Int) := by omega
        have hB : ((j : Int) == (l.length : Int) - 1) = false := by simp; omega
        obtain ⟨x, hx1⟩ : ∃ x : UInt8, x = 0 := ⟨_, rfl⟩
        have HX : Hid (x = if j + 1 = min l.length 10 then 1 else 0) := Lib.hid (by rw [if_neg (by omega), hx1])
      all_goals
        have H9 := Lib.hid h9; clear h9
        have HX1 := Lib.hid hx1; clear hx1
        have n1 : ¬ 9223372036854775807 < sv.size + 1 + (headOf n).size := by rw [show (headOf n).size = 4 from rfl]; omega
        have n2 : ¬ 9223372036854775807 < sv.size + 1 + (headOf n).size + n := by rw [show (headOf n).size = 4 from rfl]; omega
        have n3 : ¬ 9223372036854775807 < av.size + n := by omega
        go_wp2
        go_roundg (10 - (j + 1))
        case measure => omega
        case rel =>
          refine ⟨j + 1, _, _, _, _, rfl, by omega, rfl, rfl, rfl, by go_num, Lib.hid ⟨?_, ?_, ?_, ?_⟩⟩
          · exact B8.out.alloc (Nat.le_trans hBW hW8) _
          · have e := step_list (sv := sv) (t := t) (x := x) (n := n) (by rw [← htsz]; rfl)
            have e2 : (sv ++ ⟨#[x]⟩ ++ headOf n ++ t).data.toList = body T (j + 1) := by
              rw [e, R.out.hs, htl, ← HT.out]
              exact body_step (by rw [HTL.out]; exact hlt) (by rw [HTL.out]; exact HX.out)
            rw [HX1.out] at e2
            exact e2
          · rw [ByteArray.data_append, Array.toList_append, R.out.ha, htl, ← HT.out]
            exact take_flat (by rw [HTL.out]; exact hlt)
          · exact row_kept O8.out (fun k hk => Below.heap_alloc _ _ _ (by obtain ⟨_, cur, hc⟩ := row_block O8.out hk; exact (Array.getElem?_eq_some_iff.1 hc).1))
    · obtain rfl : j = min l.length 10 := by omega
      have hN : T.length = min l.length 10 := HTL.out
      rw [← hN] at R ⊢
      have h3 : ∀ t ∈ T, t.length ≤ 300 := by rw [HT.out]; exact texts_le l
      have hTl : T.length ≤ 10 := by omega
      have HL : Hid (min l.length 10 = T.length) := Lib.hid hN.symm
      have HLT := Lib.hid hlt; clear hlt hN hj hgj
      obtain ⟨N, hN⟩ : ∃ N, N = T.length := ⟨_, rfl⟩
      rw [← hN] at R hTl HL ⊢
      have HNT := Lib.hid hN; clear hN
      have hvs : sv.size ≤ 4000 := by
        rw [size_list R.out.hs]
        have := body_le (T := T) (j := N) h3
        omega
      have hvs2 : av.size ≤ 4000 := by
        rw [size_list R.out.ha]
        have := flat_le (A := T.take N) (fun u hu => h3 u (List.mem_of_mem_take hu))
        have h2 : (T.take N).length ≤ N := List.length_take_le _ _
        omega
      have hcs : (N < l.length ∧ ¬ N < 10) ∨ ¬ N < l.length := by have := HL.out; omega
      rcases hcs with ⟨hA, hB⟩ | hA
      case' inl =>
        have hd1 : decide ((N : Int) < (l.length : Int)) = true := by simp; omega
        have hd2 : decide ((N : Int) < 10) = false := by simp; omega
      case' inr =>
        have hd1 : decide ((N : Int) < (l.length : Int)) = false := by simp; omega
      all_goals
        by_cases hT0 : N = 0
        · try omega
          all_goals
            have hsv : sv = ⟨#[]⟩ := by
              have := R.out.hs
              rw [hT0] at this
              exact bytes_ext (this.trans (by simp [body, encs]))
            subst hsv
            have hT0 := Lib.hid hT0
            have hop := open_any (s := ⟨#[]⟩) 0 (by decide) wr
            rw [openV_none] at hop
            go_wp2_with fail
            refine hop.mono ?_
            rintro e w2 ⟨rfl, b2⟩
            have b2 := Lib.hid b2
            go_wp2
            go_ret
            have s1 := b1.out.size
            have s2 := R.out.kept.size
            exact ⟨rfl, b1.out.trans ((R.out.kept.mono s1).trans (b2.out.mono (by omega)))⟩
        · have hTne : T ≠ [] := fun h => hT0 (by rw [HNT.out, h]; rfl)
          have hs0 : sv.data.toList = body T T.length := by rw [← HNT.out]; exact R.out.hs
          have ha0 : av.data.toList = T.flatten := by rw [R.out.ha, HNT.out, List.take_length]
          have hE : sv.toList.isEmpty = false := by
            rw [ByteArray.toList_eq, hs0, body_all hTne]
            simp [enc, encX]
          have n1 : ¬ 9223372036854775807 < sv.size + 4 := by omega
          have hop := open_any (s := sv ++ ⟨#[109, 111, 114, 101]⟩) (av.size : Int) (by rw [ByteArray.size_append]; show 8 * (sv.size + 4) < _; omega) wr
          rw [law_ok [109, 111, 114, 101] hTne h3 hs0 ha0 (by rw [ByteArray.data_append, Array.toList_append]) (by omega)] at hop
          dsimp only at hop
          rw [show (⟨av.data.toList.toArray⟩ : ByteArray) = av from bytes_ext (by simp)] at hop
          have HOP := Lib.hid hop; clear hop
          have hsh := law_short hTne h3 hs0 ha0 (by omega)
          have hbd := fun (S : ByteArray) (i lo hi : Nat) (h : i < T.length) => law_bad (sv := sv) (S := S) (lo := lo) (hi := hi) h h3 (by rw [← HNT.out]; exact hTl) hs0
          have HSH := Lib.hid hsh; clear hsh
          have HBD := Lib.hid hbd; clear hbd
          have HS0 := Lib.hid hs0; clear hs0
          have HA0 := Lib.hid ha0; clear ha0
          go_wp2_with fail
          refine HOP.out.mono ?_
          rintro e w3 ⟨rfl, b3⟩
          have b3 := Lib.hid b3
          obtain ⟨ga, rfl⟩ : ∃ g, va = some ⟨g, 0, none⟩ := by
            rcases R.out.own.2 with ⟨_, h0⟩ | ⟨g, cap, cur, hv, _⟩
            · omega
            · simp at hv; exact ⟨g, hv.1⟩
          have hga : ga < wr.heap.size := by
            obtain ⟨_, cur, hc⟩ := row_block R.out.own (k := ga) (by simp [blk])
            exact (Array.getElem?_eq_some_iff.1 hc).1
          obtain ⟨hk1, hk2⟩ := HK.out
          obtain ⟨row, hrow⟩ : ∃ row, row = bytesRow sv (grownCap w3 sv.size 0 5) := ⟨_, rfl⟩
          have hrz : sv.size ≤ row.size := by rw [hrow]; unfold bytesRow; rw [Array.size_append, Array.size_map]; exact Nat.le_add_right _ _
          have hrc : ∀ i, i < sv.size → row[i]? = some (.int .u8 (byteAt sv i : Int)) := fun i hi => by rw [hrow]; exact bytesRow_get hi
          obtain ⟨k0, hk0⟩ : ∃ k0 : Nat, (k0 : Int) = if k < 0 then -(k + 1) else k := ⟨(if k < 0 then -(k + 1) else k).toNat, by split <;> omega⟩
          have hi0 : k0 % N < N := Nat.mod_lt _ (by omega)
          obtain ⟨i0, hi0e⟩ : ∃ i0, i0 = k0 % N := ⟨_, rfl⟩
          rw [← hi0e] at hi0
          have hrem : (k0 : Int).tmod (N : Int) = (i0 : Int) := by rw [Int.tmod_eq_emod_of_nonneg (by omega), hi0e]; simp
          obtain ⟨ps, hps⟩ : ∃ ps, ps = (encs (T.take i0)).length + 3 := ⟨_, rfl⟩
          obtain ⟨xx, rest, hxx, hbs⟩ := body_split (T := T) (i := i0) (by rw [← HNT.out]; exact hi0)
          have hpl : ps + 1 < sv.size := by
            have h1 := size_list HS0.out
            rw [hbs, List.length_append, List.length_append, enc_length] at h1
            omega
          clear hbs hxx
          have hconv := run_bytes_of_string (P := Try.prog) w3 9 36 5 sv Try.underlying9 Try.underlying36 Try.underlying5
          obtain ⟨bk, hbk⟩ : ∃ b, b = w3.heap.size := ⟨_, rfl⟩
          obtain ⟨C, hC⟩ : ∃ C, C = grownCap w3 sv.size 0 5 := ⟨_, rfl⟩
          rw [← hC] at hrow hconv
          rw [← hrow, ← hbk] at hconv
          obtain ⟨W3, hW3⟩ : ∃ W, W = w3.drew.alloc (.cells row 5 (row.size, row.size + 1)) := ⟨_, rfl⟩
          rw [← hW3] at hconv
          have BW3 : Below w3.heap.size w3 W3 := by rw [hW3]; exact (Below.refl _ _).drew.alloc (Nat.le_refl _) _
          have hB3 : W3.heap[bk]? = some (.cells row 5 (row.size, row.size + 1)) := by rw [hW3, hbk]; exact heap_alloc_new w3.drew _
          have hsW3 : w3.heap.size < W3.heap.size := by have := (Array.getElem?_eq_some_iff.1 hB3).1; omega
          have cA : W3.cell? ⟨ga, i0, none⟩ = some (.int .i64 (ps : Int)) := by
            have h1 := own_at R.out.own i0 ps (by unfold ats; rw [List.getElem?_map, List.getElem?_range hi0, hps]; rfl)
            rw [Nat.zero_add] at h1
            have h2 : w3.cell? ⟨ga, i0, none⟩ = some (.int .i64 (ps : Int)) := (b3.out.cell (p := ⟨ga, i0, none⟩) hga).trans h1
            exact (BW3.cell (p := ⟨ga, i0, none⟩) (by have := b3.out.size; show ga < w3.heap.size; omega)).trans h2
          have cB : W3.cell? ⟨bk, ps, none⟩ = some (.int .u8 (byteAt sv ps : Int)) := by rw [cell_at hB3, hrc _ (by omega)]
          have fB : W3.frozen? ⟨bk, ps, none⟩ = false := frozen_low hB3 (by show ps < row.size; omega)
          have hB4 : ∀ u, (W3.setCell ⟨bk, ps, none⟩ u).heap[bk]? = some (.cells (row.setIfInBounds ps u) 5 (row.size, row.size + 1)) := fun u => heap_setCell_fr hB3 u
          have cB4 : ∀ u, (W3.setCell ⟨bk, ps, none⟩ u).cell? ⟨bk, ps + 1, none⟩ = some (.int .u8 (byteAt sv (ps + 1) : Int)) := fun u => by
            rw [cell_at (hB4 u), Array.getElem?_setIfInBounds_ne (by omega), hrc _ (by omega)]
          have fB4 : ∀ u, (W3.setCell ⟨bk, ps, none⟩ u).frozen? ⟨bk, ps + 1, none⟩ = false := fun u => frozen_low (hB4 u) (by show ps + 1 < row.size; omega)
          have HROW := Lib.hid hrow; clear hrow
          have HW3 := Lib.hid hW3; clear hW3
          have HBK := Lib.hid hbk; clear hbk
          have HCC := Lib.hid hC; clear hC
          have BW3 := Lib.hid BW3
          have hpsz : ps < 4000 := by omega
          have HPS := Lib.hid hps; clear hps
          have HI0 := Lib.hid hi0e; clear hi0e
          have HB4 := Lib.hid hB4; clear hB4 hB3
          have HRC := Lib.hid hrc; clear hrc
          have HRZ := Lib.hid hrz; clear hrz hsW3
          obtain ⟨lo, hlo⟩ : ∃ lo, lo = (if by0 = 0 then 1 else by0 % 256) := ⟨_, rfl⟩
          obtain ⟨hi, hhi⟩ : ∃ hi, hi = (if by0 = 0 then 0 else by0 / 256) := ⟨_, rfl⟩
          have hlo2 : lo < 256 := by rw [hlo]; split <;> omega
          have hhi2 : hi < 256 := by rw [hhi]; split <;> omega
          have hlh : lo ≠ 0 ∨ hi ≠ 0 := by rw [hlo, hhi]; split <;> omega
          obtain ⟨c', hc'⟩ : ∃ c, c = byteAt sv ps ^^^ lo := ⟨_, rfl⟩
          obtain ⟨d', hd'⟩ : ∃ d, d = byteAt sv (ps + 1) ^^^ hi := ⟨_, rfl⟩
          have hx1 := xor8 (byteAt sv ps) lo (byteAt_lt _ _) hlo2
          have hx2 := xor8 (byteAt sv (ps + 1)) hi (byteAt_lt _ _) hhi2
          have hcl : c' < 256 := by rw [hc']; exact Nat.xor_lt_two_pow (n := 8) (byteAt_lt _ _) hlo2
          have hdl : d' < 256 := by rw [hd']; exact Nat.xor_lt_two_pow (n := 8) (byteAt_lt _ _) hhi2
          rw [← hc'] at hx1
          rw [← hd'] at hx2
          obtain ⟨S, hS⟩ : ∃ S : ByteArray, S = ⟨((sv.data.toList.set ps (UInt8.ofNat c')).set (ps + 1) (UInt8.ofNat d')).toArray⟩ := ⟨_, rfl⟩
          have hSl : S.data.toList = (sv.data.toList.set ps (UInt8.ofNat c')).set (ps + 1) (UInt8.ofNat d') := by rw [hS]
          have hSz : S.size = sv.size := by rw [size_list hSl, List.length_set, List.length_set, Array.length_toList]; rfl
          have hwrong : (openV S 1048576).2.2 = 2 := HBD.out S i0 lo hi (by rw [← HNT.out]; exact hi0) hlo2 hhi2 hlh (by rw [← HPS.out, show (encs (T.take i0)).length + 4 = ps + 1 from by rw [HPS.out], ← hc', ← hd']; exact hSl)
          obtain ⟨W5, hW5⟩ : ∃ W, W = (W3.setCell ⟨bk, ps, none⟩ (.int .u8 (c' : Int))).setCell ⟨bk, ps + 1, none⟩ (.int .u8 (d' : Int)) := ⟨_, rfl⟩
          have hB5 : W5.heap[bk]? = some (.cells ((row.setIfInBounds ps (.int .u8 (c' : Int))).setIfInBounds (ps + 1) (.int .u8 (d' : Int))) 5 (row.size, row.size + 1)) := by rw [hW5]; exact heap_setCell_fr (HB4.out _) _
          have hcv2 : (convert 36 9 (.slice (some ⟨bk, 0, none⟩) sv.size C)).run Try.prog W5 = .ok (.string S) W5 := by
            have hlen : ((sv.data.toList.set ps (UInt8.ofNat c')).set (ps + 1) (UInt8.ofNat d')).length = sv.size := by rw [List.length_set, List.length_set, Array.length_toList]; rfl
            have := run_convert_bytes_back (P := Try.prog) W5 36 9 5 ⟨bk, 0, none⟩ C ((sv.data.toList.set ps (UInt8.ofNat c')).set (ps + 1) (UInt8.ofNat d')) Try.underlying36 Try.underlying5 Try.underlying9 (fun j hj => ?_)
            · rw [hlen, ← hS] at this; exact this
            · have hadd : (⟨bk, 0, none⟩ : Addr).add j = ⟨bk, j, none⟩ := addr_add0 _ _
              have hj2 : j < sv.size := by rw [hlen] at hj; exact hj
              rw [hadd, cell_at hB5]
              exact set_two hj2 HRC.out HRZ.out hcl hdl hj
          rw [hW5] at hcv2
          have hW5s : W5.heap.size = W3.heap.size := by rw [hW5]; simp [World.setCell]
          have BW5 : Below w3.heap.size w3 W5 := by
            rw [hW5]
            exact ((BW3.out.trans (below_setCell _ (by rw [HBK.out]; exact Nat.le_refl _))).trans (below_setCell _ (by rw [HBK.out]; exact Nat.le_refl _)))
          have hop2 := open_any (s := S) 1048576 (by rw [hSz]; omega) W5
          obtain ⟨⟨LL, nn, ee⟩, hV2⟩ : ∃ V, V = openV S 1048576 := ⟨_, rfl⟩
          rw [← hV2] at hop2 hwrong
          obtain rfl : ee = 2 := hwrong
          rw [hW5] at hop2
          have HOP2 := Lib.hid hop2; clear hop2
          have BW5 := Lib.hid BW5
          have HW5 := Lib.hid hW5; clear hW5 hB5 hW5s
          have HV2 := Lib.hid hV2; clear hV2
          have HS := Lib.hid hS; clear hS hSl hSz
          have HLO := Lib.hid hlo
          have HHI := Lib.hid hhi
          clear hc' hd'
          by_cases hz : by0 = 0
          case' pos =>
            rw [if_pos hz] at hlo hhi
            subst hz; subst hlo; subst hhi
            have hx1 : bits .xor .u8 (byteAt sv ps : Int) 1 = (c' : Int) := hx1
            have hx2 : bits .xor .u8 (byteAt sv (ps + 1) : Int) 0 = (d' : Int) := hx2
          case' neg =>
            rw [if_neg hz] at hlo hhi
            rw [hlo] at hx1
            rw [hhi] at hx2
            have q1 : ((by0 % 256 : Nat) : Int) = (by0 : Int) % 256 := by omega
            have q2 : ((by0 / 256 : Nat) : Int) = (by0 : Int) / 256 := by omega
            rw [q1] at hx1
            rw [q2] at hx2
            have pz : (1 : Int) ≤ (by0 : Int) := by omega
            have pz2 : ¬ (by0 : Int) < 1 := by omega
            clear hlo hhi q1 q2
          all_goals
            by_cases hk : k < 0
            case' pos =>
              have hdk : decide (k < 0) = true := by simp [hk]
              have hrem2 : -(k + 1).tmod (N : Int) = (i0 : Int) := by
                rw [← hrem, hk0, if_pos hk, Int.neg_tmod]
              have HK0 := Lib.hid hk0; clear hk0 hrem
            case' neg =>
              have hdk : decide (k < 0) = false := by simp; omega
              have hrem2 : k.tmod (N : Int) = (i0 : Int) := by
                rw [← hrem, hk0, if_neg hk]
              have HK0 := Lib.hid hk0; clear hk0 hrem
            all_goals
              go_wp2_with fail
              refine HOP2.out.mono ?_
              rintro e w6 ⟨rfl, b6⟩
              have b6 := Lib.hid b6
              have hsh := HSH.out
              by_cases hav : av.size = 0
              case' pos =>
                rw [if_pos hav] at hsh
                have hEa : av.toList.isEmpty = true := by
                  rw [ByteArray.toList_eq, List.isEmpty_iff]
                  exact List.length_eq_zero_iff.1 (by rw [Array.length_toList]; exact hav)
                have hop3 := open_any (s := sv) ((av.size - 1 : Nat) : Int) (by omega) w6
                obtain ⟨⟨L3, n3, e3⟩, hV3⟩ : ∃ V, V = openV sv ((av.size - 1 : Nat) : Int) := ⟨_, rfl⟩
                rw [← hV3] at hop3 hsh
                obtain rfl : e3 = 0 := hsh
                rw [hav] at hop3
                have hop3 : Calls Try.prog 10 #[.string sv, .int .i64 0] w6 _ := hop3
                have HV3 := Lib.hid hV3; clear hV3
                have HOP3 := Lib.hid hop3; clear hop3
              case' neg =>
                rw [if_neg hav] at hsh
                have hEa : av.toList.isEmpty = false := by
                  rw [ByteArray.toList_eq]
                  cases h : av.data.toList with
                  | nil => exact absurd (by rw [size_list h]; rfl) hav
                  | cons _ _ => rfl
                have hop3 := open_any (s := sv) ((av.size - 1 : Nat) : Int) (by omega) w6
                obtain ⟨⟨L3, n3, e3⟩, hV3⟩ : ∃ V, V = openV sv ((av.size - 1 : Nat) : Int) := ⟨_, rfl⟩
                rw [← hV3] at hop3 hsh
                obtain rfl : e3 = 9 := hsh
                have hap : 1 ≤ av.size := by omega
                rw [show ((av.size - 1 : Nat) : Int) = (av.size : Int) - 1 from by omega] at hop3
                have HV3 := Lib.hid hV3; clear hV3
                have HOP3 := Lib.hid hop3; clear hop3
              all_goals
                go_wp2_with fail
                refine HOP3.out.mono ?_
                rintro e w7 ⟨rfl, b7⟩
                have b7 := Lib.hid b7
                go_wp2
                go_ret
                have s1 := b1.out.size
                have s2 := R.out.kept.size
                have s3 := b3.out.size
                have s5 := BW5.out.size
                have s6 : W5.heap.size ≤ w6.heap.size := by rw [HW5.out]; exact b6.out.size
                have b6' : Below W5.heap.size W5 w6 := by rw [HW5.out]; exact b6.out
                exact ⟨rfl, b1.out.trans ((R.out.kept.mono s1).trans ((b3.out.mono (by omega)).trans ((BW5.out.mono (by omega)).trans ((b6'.mono (by omega)).trans (b7.out.mono (by omega))))))⟩
end Go.Proofs.Ytcgcacegkbbmiaa
