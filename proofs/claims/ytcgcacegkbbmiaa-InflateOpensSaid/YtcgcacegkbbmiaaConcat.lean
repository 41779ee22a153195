/- What slices.Grow (of nil) and slices.Concat do. -/
import Derived.Test.YtcgcacegkbbmiaaSlices
namespace Go.Proofs.Ytcgcacegkbbmiaa
open Go.RowKit

set_option maxRecDepth 100000 in
set_option maxHeartbeats 1000000 in
theorem grow_any (n : Nat) (h1 : 1 ≤ n) (hn : n ≤ 1000) (w : World) :
    Calls Try.prog 40 #[.slice none 0 0, .int .i64 (n : Int)] w fun e w' => ∃ C, e = .returned (.slice (some ⟨w.heap.size, 0, none⟩) 0 C) ∧ Below w.heap.size w w' ∧ w'.ownsRow w.heap.size 3 1 (.slice (some ⟨w.heap.size, 0, none⟩) 0 C) 0 [] := by
  obtain ⟨i3, hi, hz0, hz1, hz2⟩ := info_parts info3
  have hr := fun ty => Go.Lib.run_append_nil_zeros (P := Try.prog) w 34 3 ty 3 i3 (.int .i64 0) .i64 .i64 Try.underlying34 Try.underlying3 hi hz0 n h1 (by rw [hz1]; omega) (by omega) (by rw [hz2]; omega)
  have hge := grownCap_ge w n 0 3
  have hml := grownCap_le_maxLen w n 0 3 (by unfold maxLen; omega)
  obtain ⟨C, hC⟩ : ∃ C, C = grownCap w n 0 3 := ⟨_, rfl⟩
  rw [← hC] at hge hml
  simp only [← hC] at hr
  have hown : (w.drew.alloc (.cells (Builtin.zeroCells (Value.int .i64 0).cells n ++ Builtin.zeroCells (Value.int .i64 0).cells (C - n)) 3)).ownsRow w.heap.size 3 1 (.slice (some ⟨w.heap.size, 0, none⟩) 0 C) 0 [] := by
    refine World.ownsRow_made (w := w.drew) _ C (Nat.le_refl _) hml ?_
    rw [Array.size_append, size_zeroCells, size_zeroCells]
    simp [Value.cells]; omega
  have hbel : Below w.heap.size w (w.drew.alloc (.cells (Builtin.zeroCells (Value.int .i64 0).cells n ++ Builtin.zeroCells (Value.int .i64 0).cells (C - n)) 3)) := (Below.refl _ _).drew.alloc (Nat.le_refl _) _
  have HOWN := Lib.hid hown; clear hown
  have HBEL := Lib.hid hbel; clear hbel
  have HC := Lib.hid hC; clear hC
  have hd0 : decide ((n : Int) < 0) = false := by simp
  have hd1 : decide ((0 : Int) < (n : Int)) = true := by simp; omega
  have i1 : (0 : Int) ≤ (C : Int) := by omega
  go_enter Try.func40, Try.ntmps40
  go_wp2_with (at_builtin; refine Lib.wpList_append_run _ rfl _ _ _ _ rfl _ _ rfl rfl _ _ (hr _) ?_)
  go_ret
  exact ⟨C, rfl, HBEL.out, HOWN.out⟩

def vals (L : List Nat) : List Value := L.map fun (x : Nat) => .int .i64 (x : Int)
theorem vals_append (a b : List Nat) : vals (a ++ b) = vals a ++ vals b := by simp [vals]
theorem vals_length (a : List Nat) : (vals a).length = a.length := by simp [vals]
/-- Slices of numbers lie behind block g. -/
def Its (w : World) (g : Nat) (Ls : List (List Nat)) : Prop :=
  ∀ (j : Nat) (L : List Nat), Ls[j]? = some L → 0 < L.length ∧ ∃ b c, b < w.heap.size ∧ w.cell? ⟨g, j, none⟩ = some (.slice (some ⟨b, 0, none⟩) L.length c) ∧ At w b 0 L

theorem flat_take_le (Ls : List (List Nat)) (j : Nat) : (Ls.take j).flatten.length ≤ Ls.flatten.length := by
  have h : Ls.flatten = (Ls.take j).flatten ++ (Ls.drop j).flatten := by rw [← List.flatten_append, List.take_append_drop]
  rw [h, List.length_append]; omega
theorem flat_take_succ (Ls : List (List Nat)) (j : Nat) (L : List Nat) (h : Ls[j]? = some L) : (Ls.take (j + 1)).flatten = (Ls.take j).flatten ++ L := by
  rw [List.take_add_one, h, List.flatten_append]; simp

theorem own_at {w : World} {B o n C : Nat} {L : List Nat} (h : w.ownsRow B 3 1 (.slice (some ⟨o, 0, none⟩) n C) n (vals L)) : At w o 0 L := fun i x hx => by
  have := h.cells (g := o) rfl i (.int .i64 (x : Int)) (by unfold vals; rw [List.getElem?_map, hx]; rfl)
  have hadd : (⟨o, 0, none⟩ : Addr).add i = ⟨o, 0 + i, none⟩ := by unfold Addr.add; split <;> simp_all
  rwa [hadd] at this

set_option maxRecDepth 100000 in
set_option maxHeartbeats 1000000 in
theorem concat_any {g cap : Nat} (Ls : List (List Nat)) (hl : Ls.length ≤ 100) (h1 : 1 ≤ Ls.flatten.length) (hn : Ls.flatten.length ≤ 1000) (w : World) (hg : g < w.heap.size) (H : Its w g Ls) :
    Calls Try.prog 29 #[.slice (some ⟨g, 0, none⟩) Ls.length cap] w fun e w' => ∃ o C, e = .returned (.slice (some ⟨o, 0, none⟩) Ls.flatten.length C) ∧ Below w.heap.size w w' ∧ w.heap.size ≤ o ∧ o < w'.heap.size ∧ At w' o 0 Ls.flatten := by
  have hgr := grow_any Ls.flatten.length h1 hn w
  have HGR := Lib.hid hgr; clear hgr
  have HH := Lib.hid H; clear H
  obtain ⟨i3, hi, hz0, hz1, hz2⟩ := info_parts info3
  go_enter Try.func29, Try.ntmps29
  go_wp2_with fail
  go_loopg [3, 11] 200 (fun q n i wr => w = wr ∧ ∃ j : Nat, q = 200 - j ∧ j ≤ Ls.length ∧ i = .int .i64 (j : Int) ∧ n = .int .i64 ((Ls.take j).flatten.length : Int))
  case atStart => exact ⟨rfl, 0, rfl, Nat.zero_le _, rfl, rfl⟩
  case round =>
    obtain ⟨rfl, j, hqj, hj, rfl, rfl⟩ := hrel
    have hfl := flat_take_le Ls j
    by_cases hlt : j < Ls.length
    · have hd : decide ((j : Int) < (Ls.length : Int)) = true := by simp; omega
      obtain ⟨L, hL⟩ : ∃ L, Ls[j]? = some L := ⟨_, List.getElem?_eq_getElem hlt⟩
      obtain ⟨hl0, b, c, hb, hc, hA⟩ := HH.out j L hL
      have hs := flat_take_succ Ls j L hL
      have hfl2 := flat_take_le Ls (j + 1)
      rw [hs, List.length_append] at hfl2
      obtain ⟨m, hm⟩ : ∃ m, m = (Ls.take j).flatten.length := ⟨_, rfl⟩
      rw [← hm] at hfl hfl2 ⊢
      have HS : Hid ((Ls.take (j + 1)).flatten.length = m + L.length) := Lib.hid (by rw [hs, List.length_append, hm])
      have hneg : decide ((m : Int) + (L.length : Int) < 0) = false := by simp; omega
      clear hs hL hA hm
      go_wp2
      go_roundg (200 - (j + 1))
      case measure => omega
      case rel => exact ⟨rfl, j + 1, rfl, hlt, by go_num, by rw [HS.out]; go_num⟩
    · obtain rfl : j = Ls.length := by omega
      have hd : decide ((Ls.length : Int) < (Ls.length : Int)) = false := by simp
      rw [List.take_length]
      obtain ⟨N, hN⟩ : ∃ N, N = Ls.flatten.length := ⟨_, rfl⟩
      rw [← hN] at HGR hn h1 ⊢
      have HN := Lib.hid hN; clear hN
      clear hfl
      go_wp2_with fail
      refine HGR.out.mono ?_
      rintro e w1 ⟨C, rfl, hb1, hown1⟩
      have HB1 := Lib.hid hb1; clear hb1
      have HO1 := Lib.hid hown1; clear hown1
      go_wp2_with fail
      obtain ⟨B, hB⟩ : ∃ B, B = w.heap.size := ⟨_, rfl⟩
      rw [← hB] at HB1 HO1 ⊢
      have HBE := Lib.hid hB; clear hB
      have hB1 : B ≤ w1.heap.size := by have := HB1.out.size; have := HBE.out; omega
      have hB1 := Lib.hid hB1
      have HO2 : Hid (∃ o, w1.ownsRow B 3 1 (.slice (some ⟨o, 0, none⟩) 0 C) 0 []) := Lib.hid ⟨_, HO1.out⟩
      go_loopg [6, 27] 200 (fun q v i wq => ∃ (j : Nat) (o D : Nat), q = 200 - j ∧ j ≤ Ls.length ∧ i = .int .i64 (j : Int) ∧ v = .slice (some ⟨o, 0, none⟩) (Ls.take j).flatten.length D ∧ Hid (wq.ownsRow B 3 1 (.slice (some ⟨o, 0, none⟩) (Ls.take j).flatten.length D) (Ls.take j).flatten.length (vals (Ls.take j).flatten)) ∧ Hid (Below B w wq))
      case atStart => exact ⟨0, B, C, rfl, Nat.zero_le _, rfl, rfl, HO1, HB1⟩
      case round =>
        obtain ⟨j, o, D, hqj2, hj2, rfl, rfl, O, Bq⟩ := hrel
        have hfl := flat_take_le Ls j
        rw [← HN.out] at hfl
        by_cases hlt : j < Ls.length
        · have hd : decide ((j : Int) < (Ls.length : Int)) = true := by simp; omega
          obtain ⟨L, hL⟩ : ∃ L, Ls[j]? = some L := ⟨_, List.getElem?_eq_getElem hlt⟩
          obtain ⟨hl0, b, c, hb, hc, hA⟩ := HH.out j L hL
          have hgB : g < B := by rw [HBE.out]; exact hg
          have hbB : b < B := by rw [HBE.out]; exact hb
          have hcq : wr.cell? ⟨g, j, none⟩ = some (.slice (some ⟨b, 0, none⟩) L.length c) := (Bq.out.cell (p := ⟨g, j, none⟩) hgB).trans hc
          have hAq : At wr b 0 L := hA.kept (Bq.out.block b hbB)
          have hs := flat_take_succ Ls j L hL
          have hfl2 := flat_take_le Ls (j + 1)
          rw [hs, List.length_append, ← HN.out] at hfl2
          have hBq : B ≤ wr.heap.size := by have := Bq.out.size; have := HBE.out; omega
          obtain ⟨F, hF⟩ : ∃ F, F = (Ls.take j).flatten := ⟨_, rfl⟩
          rw [← hF] at O hfl hs hfl2 ⊢
          have HS := Lib.hid hs; clear hs
          have HF := Lib.hid hF; clear hF
          clear hc hA hL
          have hAq := Lib.hid hAq
          go_wp2_with (at_builtin; refine wpList_append_lies _ rfl _ _ 34 rfl B 3 i3 _ 1 8 Try.underlying34 hi hz0 hz1 hz2 rfl (by decide) (.slice (some ⟨o, 0, none⟩) F.length D) F.length _ rfl O.out ⟨b, 0, none⟩ L.length c (vals L) rfl ?c1 ?c2 ?c3 hl0 ?c4 ?c5 hBq wr.heap.size rfl ?c6)
          case c1 => rw [vals_length]; omega
          case c2 =>
            intro i u hu
            unfold vals at hu
            rw [List.getElem?_map] at hu
            cases hx : L[i]? with
            | none => rw [hx] at hu; cases hu
            | some x =>
              rw [hx] at hu
              simp at hu
              subst hu
              have hadd : (⟨b, 0, none⟩ : Addr).add i = ⟨b, 0 + i, none⟩ := by unfold Addr.add; split <;> simp_all
              rw [hadd]
              exact hAq.out i x hx
          case c3 =>
            intro u hu
            unfold vals at hu
            obtain ⟨x, _, rfl⟩ := List.mem_map.1 hu
            rfl
          case c4 => unfold maxLen; omega
          case c5 => omega
          case c6 =>
          intro o2 D2 w4 hown4 hg4 hat4 hlt4
          rw [← vals_append, ← HS.out] at hown4
          have hol : B ≤ o := (O.out.lt o rfl).1
          have B4 : Below B w w4 := Bq.out.trans ((KeptBut.of_grown (S := [o]) hg4 (fun k hk => by simp [Value.ownBlock] at hk; subst hk; simp)).below (by simpa using hol) hBq)
          have B4 := Lib.hid B4
          have hlen : F.length + L.length = (Ls.take (j + 1)).flatten.length := by rw [HS.out, List.length_append]
          rw [hlen] at hown4
          have HLEN := Lib.hid hlen; clear hlen
          have O4 := Lib.hid hown4; clear hown4
          clear hg4 hat4 hlt4
          go_wp2
          go_roundg (200 - (j + 1))
          case measure => omega
          case rel => exact ⟨j + 1, o2, D2, rfl, hlt, by go_num, by rw [HLEN.out], O4, B4⟩
        · obtain rfl : j = Ls.length := by omega
          have hd : decide ((Ls.length : Int) < (Ls.length : Int)) = false := by simp
          rw [List.take_length] at O ⊢
          go_wp2
          go_ret
          have h1 := O.out.lt o rfl
          exact ⟨o, D, rfl, by rw [← HBE.out]; exact Bq.out, by rw [← HBE.out]; exact h1.1, h1.2, own_at O.out⟩
end Go.Proofs.Ytcgcacegkbbmiaa
