/- The law InflateEnds, walked. -/
import Derived.Test.YtcgcacegkbbmiaaEx
import Derived.Test.YtcgcacegkbbmiaaSim
namespace Go.Proofs.Ytcgcacegkbbmiaa
open Go.RowKit

theorem pfx_cut {n : Nat} {s : ByteArray} (h : n ≤ s.size) : Pfx n s (s.extract 0 n) ∧ (s.extract 0 n).size = n := by
  have hs : (s.extract 0 n).size = n := by rw [ByteArray.size_extract]; omega
  refine ⟨⟨h, by omega, fun i hi => ?_⟩, hs⟩
  rw [ByteArray.data_extract, Array.toList_extract, List.getD_eq_getElem?_getD, List.getD_eq_getElem?_getD]
  simp [hi]
theorem pfx_more {n : Nat} {s : ByteArray} (h : n ≤ s.size) (t : ByteArray) : Pfx n s (s.extract 0 n ++ t) := by
  obtain ⟨h1, h2⟩ := pfx_cut h
  refine ⟨h, by rw [ByteArray.size_append]; omega, fun i hi => ?_⟩
  rw [← h1.same i hi, ByteArray.data_append, Array.toList_append, List.getD_eq_getElem?_getD, List.getD_eq_getElem?_getD, List.getElem?_append_left (by rw [Array.length_toList]; show i < (s.extract 0 n).size; omega)]

set_option maxRecDepth 100000 in
set_option maxHeartbeats 2000000 in
theorem ends_any (s t : ByteArray) (m : Nat) (hs : s.size ≤ 140737488355328) (ht : t.size ≤ 140737488355328) (hm : m < 65536) (w : World) : Calls Try.prog 7 #[.string s, .string t, .int .u16 (m : Int)] w fun e w' => e = .returned (.bool true) ∧ Below w.heap.size w w' := by
  obtain ⟨k, hk⟩ : ∃ k, k = m % 2001 := ⟨_, rfl⟩
  have hkl : k ≤ 2000 := by omega
  have hk1 : (m : Int) % 2001 = (k : Int) := by omega
  have hk2 : (m : Int).tmod 2001 = (k : Int) := by rw [Int.tmod_eq_emod_of_nonneg (by omega)]; omega
  clear hk
  go_enter Try.func7, Try.ntmps7
  go_wp2_with fail
  refine (ex_any w).mono ?_
  rintro e w1 ⟨rfl, b1⟩
  have b1 := Lib.hid b1
  have h1 := open_any (s := s) (k : Int) (by omega) w1
  have hbad := openV_bad (s := s) (k := (k : Int))
  have hgood := openV_bounds (s := s) (k := k)
  have hmore := fun (x : ByteArray) => openV_more (s := s) (t := x) (k := k)
  have hcut := fun (x : ByteArray) (n : Nat) => openV_cut (s := s) (t := x) (k := k) (n := n)
  obtain ⟨V, hV⟩ : ∃ V, V = openV s (k : Int) := ⟨_, rfl⟩
  rw [← hV] at h1 hbad hgood
  simp only [← hV] at hmore hcut
  obtain ⟨L, n, er⟩ := V
  have HV := Lib.hid hV; clear hV
  have H1 := Lib.hid h1; clear h1
  have HM := Lib.hid hmore; clear hmore
  have HC := Lib.hid hcut; clear hcut
  dsimp only at hbad hgood
  have HBAD := Lib.hid hbad; clear hbad
  have HGOOD := Lib.hid hgood; clear hgood
  go_wp2_with fail
  refine H1.out.mono ?_
  rintro e w2 ⟨rfl, b2⟩
  have b2 := Lib.hid b2
  by_cases her : er = 0
  · subst her
    obtain ⟨hn1, hn2, hL⟩ := HGOOD.out rfl
    have hd1 : decide ((s.size : Int) < (n : Int)) = false := by simp; omega
    have hd0 : decide ((n : Int) < 0) = false := by simp
    have hz : ((0 : Int) != 0) = false := rfl
    have i1 : (n : Int) ≤ (s.size : Int) := by omega
    go_wp2_with fail
    have h3 := open_any (s := s.extract 0 n ++ t) (k : Int) (by rw [ByteArray.size_append]; have := (pfx_cut hn2).2; omega) w2
    rw [HM.out _ (by first | rfl | trivial) (pfx_more hn2 t)] at h3
    refine h3.mono ?_
    rintro e w3 ⟨rfl, b3⟩
    have b3 := Lib.hid b3
    obtain ⟨n0, hn0⟩ : ∃ n0, n = n0 + 1 := ⟨n - 1, by omega⟩
    have h4 := open_any (s := s.extract 0 n0) (k : Int) (by have := (pfx_cut (n := n0) (s := s) (by omega)).2; omega) w3
    have hc := HC.out (s.extract 0 n0) n0 (by first | rfl | trivial) hn0.symm (pfx_cut (by omega)).1 (pfx_cut (by omega)).2
    obtain ⟨⟨L', n', e'⟩, hV'⟩ : ∃ V, V = openV (s.extract 0 n0) (k : Int) := ⟨_, rfl⟩
    rw [← hV'] at h4 hc
    have hV' := Lib.hid hV'
    obtain rfl : e' = 2 := hc
    have hn0 := Lib.hid hn0
    go_wp2_with fail
    refine h4.mono ?_
    rintro e w4 ⟨rfl, b4⟩
    have b4 := Lib.hid b4
    have hsz : (⟨L.toArray⟩ : ByteArray).size = L.length := by simp [ByteArray.size]
    have hle : (⟨L.toArray⟩ : ByteArray).size ≤ k := by rw [hsz]; exact hL
    generalize (⟨L.toArray⟩ : ByteArray) = A at hle
    clear hsz
    have en : (((n0 : Int) + 1) == ((n0 : Int) + 1)) = true := by simp
    go_wp2
    go_ret
    have s1 := b1.out.size
    have s2 := b2.out.size
    have s3 := b3.out.size
    exact ⟨rfl, b1.out.trans ((b2.out.mono s1).trans ((b3.out.mono (by omega)).trans (b4.out.mono (by omega))))⟩
  · obtain ⟨hL, hn⟩ := HBAD.out her
    subst hL; subst hn
    have hne : (er != 0) = true := by simp [her]
    go_wp2
    go_ret
    exact ⟨rfl, b1.out.trans (b2.out.mono b1.out.size)⟩
end Go.Proofs.Ytcgcacegkbbmiaa
