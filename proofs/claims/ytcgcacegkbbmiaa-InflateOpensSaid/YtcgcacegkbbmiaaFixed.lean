/- What fixed of package inflate does. -/
import Derived.Test.YtcgcacegkbbmiaaConcat
import Derived.Test.YtcgcacegkbbmiaaStored
namespace Go.Proofs.Ytcgcacegkbbmiaa
open Go.RowKit

def fixedLs : List (List Nat) := [List.replicate 144 8, List.replicate 112 9, List.replicate 24 7, List.replicate 8 8]
def fixedL : List Nat := fixedLs.flatten
def fixedD : List Nat := List.replicate 32 5

/-- Repeat of a slice of one element that has just been made. -/
def RepQ (x n : Nat) (w : World) (e : Ending) (w' : World) : Prop :=
  ∃ o, e = .returned (.slice (some ⟨o, 0, none⟩) n n) ∧ Below w.heap.size w w' ∧ w.heap.size ≤ o ∧ o < w'.heap.size ∧ At w' o 0 (List.replicate n x)
theorem rep_any (x n : Nat) (xi ni : Int) (hx : xi = x) (hn : ni = n) (h1 : 1 ≤ n) (h2 : n ≤ 300) (w : World) :
    Calls Try.prog 30 #[.slice (some ⟨w.heap.size, 0, none⟩) 1 1, .int .i64 ni] (w.alloc (.cells #[.int .i64 xi] 3)) (RepQ x n w) := by
  subst hx; subst hn
  refine (repeat_any (g := w.heap.size) (off := 0) (c := 1) x n h1 h2 (w.alloc (.cells #[.int .i64 (x : Int)] 3)) (by simp) (by rw [cell_at (heap_alloc_new w _)]; rfl)).mono ?_
  rintro e w' ⟨rfl, hb, ho⟩
  have hb' : Below w.heap.size w w' := ((Below.refl _ _).alloc (Nat.le_refl _) _).trans (hb.mono (by simp))
  refine ⟨_, rfl, hb', by simp, (Array.getElem?_eq_some_iff.1 ho).1, fun i y hy => ?_⟩
  have hi : i < n := by have := (List.getElem?_eq_some_iff.1 hy).1; simpa using this
  rw [List.getElem?_replicate, if_pos hi] at hy
  simp at hy
  subst hy
  rw [cell_at ho, Nat.zero_add, ints_get _ hi]
theorem At.below {w w' : World} {o off : Nat} {L : List Nat} (h : At w o off L) {B : Nat} (hb : Below B w w') (ho : o < B) : At w' o off L := h.kept (hb.block o ho)

set_option maxRecDepth 100000 in
set_option maxHeartbeats 1000000 in
theorem fixed_any {B p most : Nat} {s : ByteArray} {r : St} {va : Option Addr} {vc : Nat} (hs : 8 * s.size < 4611686018427387904) (hm : most ≤ 1048576) (w : World) (hB : B ≤ w.heap.size) (H : Rd w B p s most r va vc) :
    Calls Try.prog 19 #[.pointer (some ⟨p, 0, none⟩)] w fun e w' => e = .returned (.tuple #[]) ∧ ∃ va' vc', Rd w' B p s most (block s most fixedL fixedD r) va' vc' ∧ Mv p w va w' va' := by
  have hpl := H.lt
  have HH := Lib.hid H; clear H
  obtain ⟨FL, hFL⟩ : ∃ F, F = fixedL := ⟨_, rfl⟩
  rw [← hFL]
  have HFL := Lib.hid hFL; clear hFL
  go_enter Try.func19, Try.ntmps19
  go_wp2_with fail
  refine (rep_any 8 144 8 144 rfl rfl (by omega) (by omega) _).mono ?_
  rintro e w1 ⟨o1, rfl, b1, hl1, hu1, A1⟩
  have b1 := Lib.hid b1
  have A1 := Lib.hid A1
  go_wp2_with fail
  refine (rep_any 9 112 9 112 rfl rfl (by omega) (by omega) _).mono ?_
  rintro e w2 ⟨o2, rfl, b2, hl2, hu2, A2⟩
  have b2 := Lib.hid b2
  have A2 := Lib.hid A2
  go_wp2_with fail
  refine (rep_any 7 24 7 24 rfl rfl (by omega) (by omega) _).mono ?_
  rintro e w3 ⟨o3, rfl, b3, hl3, hu3, A3⟩
  have b3 := Lib.hid b3
  have A3 := Lib.hid A3
  go_wp2_with fail
  refine (rep_any 8 8 8 8 rfl rfl (by omega) (by omega) _).mono ?_
  rintro e w4 ⟨o4, rfl, b4, hl4, hu4, A4⟩
  have b4 := Lib.hid b4
  have A4 := Lib.hid A4
  go_wp2_with fail
  have bl : ∀ {a b : World}, Below a.heap.size a b → a.heap.size ≤ b.heap.size := fun h => h.size
  have s1 := bl b1.out
  have s2 := bl b2.out
  have s3 := bl b3.out
  have s4 := bl b4.out
  have A1' := (((A1.out.below b2.out hu1).below b3.out (by omega)).below b4.out (by omega))
  have A2' := ((A2.out.below b3.out hu2).below b4.out (by omega))
  have A3' := (A3.out.below b4.out hu3)
  have A4' := A4.out
  have B4 : Below w.heap.size w w4 := b1.out.trans ((b2.out.mono s1).trans ((b3.out.mono (by omega)).trans (b4.out.mono (by omega))))
  generalize hW : World.alloc w4 _ = W
  have hcell : W.heap[w4.heap.size]? = some (.cells #[.slice (some ⟨o1, 0, none⟩) 144 144, .slice (some ⟨o2, 0, none⟩) 112 112, .slice (some ⟨o3, 0, none⟩) 24 24, .slice (some ⟨o4, 0, none⟩) 8 8] 34) := by rw [← hW]; exact heap_alloc_new _ _
  have hWs : W.heap.size = w4.heap.size + 1 := by rw [← hW]; simp
  have B5 : Below w.heap.size w W := by rw [← hW]; exact B4.alloc (by omega) _
  have hk : ∀ k, k < w4.heap.size → W.heap[k]? = w4.heap[k]? := fun k hk => by rw [← hW]; exact Below.heap_alloc _ _ _ hk
  have hits : Its W w4.heap.size fixedLs := by
    intro j L hL
    have c : ∀ i, W.cell? ⟨w4.heap.size, i, none⟩ = _ := fun i => cell_at hcell i
    rcases j with _ | _ | _ | _ | j
    · obtain rfl : List.replicate 144 8 = L := by simpa [fixedLs] using hL
      exact ⟨by simp, o1, 144, by omega, (by rw [c 0]; simp), A1'.kept (hk o1 (by omega))⟩
    · obtain rfl : List.replicate 112 9 = L := by simpa [fixedLs] using hL
      exact ⟨by simp, o2, 112, by omega, (by rw [c 1]; simp), A2'.kept (hk o2 (by omega))⟩
    · obtain rfl : List.replicate 24 7 = L := by simpa [fixedLs] using hL
      exact ⟨by simp, o3, 24, by omega, (by rw [c 2]; simp), A3'.kept (hk o3 (by omega))⟩
    · obtain rfl : List.replicate 8 8 = L := by simpa [fixedLs] using hL
      exact ⟨by simp, o4, 8, by omega, (by rw [c 3]; simp), A4'.kept (hk o4 (by omega))⟩
    · simp [fixedLs] at hL
  have hlen : fixedLs.flatten.length = 288 := by simp [fixedLs]
  have hcat := concat_any (g := w4.heap.size) (cap := 4) fixedLs (by simp [fixedLs]) (by omega) (by omega) W (by omega) hits
  rw [show fixedLs.length = 4 from rfl] at hcat
  have h15 : ∀ x ∈ fixedL, x ≤ 15 := by
    intro x hx
    unfold fixedL fixedLs at hx
    simp at hx
    omega
  have hll : fixedL.length ≤ 300 := by unfold fixedL; omega
  have hl0 : 0 < fixedL.length := by unfold fixedL; omega
  have hcat : Calls Try.prog 29 #[.slice (some ⟨w4.heap.size, 0, none⟩) 4 4] W fun e w' => ∃ o C, e = .returned (.slice (some ⟨o, 0, none⟩) fixedL.length C) ∧ Below W.heap.size W w' ∧ W.heap.size ≤ o ∧ o < w'.heap.size ∧ At w' o 0 fixedL := hcat
  have B5 := Lib.hid B5
  rw [← HFL.out] at hcat h15 hll hl0
  have HCAT := Lib.hid hcat
  clear hcat hits hcell hk A1' A2' A3' A4' B4 hW hlen
  refine HCAT.out.mono ?_
  rintro e w5 ⟨o5, C, rfl, b5, hl5, hu5, A5⟩
  have b5 := Lib.hid b5
  have A5 := Lib.hid A5
  go_wp2_with fail
  refine (rep_any 5 32 5 32 rfl rfl (by omega) (by omega) _).mono ?_
  rintro e w6 ⟨o6, rfl, b6, hl6, hu6, A6⟩
  have s5 := bl b5.out
  have s6 := bl b6
  have B6 : Below w.heap.size w w6 := B5.out.trans ((b5.out.mono (by omega)).trans (b6.mono (by omega)))
  have R6 : Rd w6 B p s most r va vc := HH.out.kept (S := []) (KeptBut.of_below B6) (by simp) (by simp)
  have hblk := block_any (cap := C) (cap2 := 32) FL fixedD hll (by simp [fixedD]) hl0 h15 (by intro x hx; unfold fixedD at hx; simp at hx; omega) hs hm w6 (Nat.le_trans hB B6.size) R6 (by omega) hu6 (by omega) (A5.out.below b6 hu5) A6
  rw [show fixedD.length = 32 from by simp [fixedD]] at hblk
  have HBLK := Lib.hid hblk; clear hblk R6
  have B6 := Lib.hid B6
  go_wp2_with fail
  refine HBLK.out.mono ?_
  rintro e w7 ⟨rfl, va', vc', R7, M7⟩
  have R7 := Lib.hid R7
  have M7 := Lib.hid M7
  go_wp2
  go_end0
  exact ⟨rfl, va', vc', R7.out, (Mv.of va (KeptBut.of_below B6.out)).trans M7.out⟩
end Go.Proofs.Ytcgcacegkbbmiaa
