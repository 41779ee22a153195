/- What Next of package huff does. -/
import Derived.Test.YtcgcacegkbbmiaaNew
import Derived.WalkMore
namespace Go.Proofs.Ytcgcacegkbbmiaa
open Go.RowKit Go.Maps

/-- The next symbol, and where it ends: so many rounds, behind so many bits of a code. -/
def next (s : ByteArray) (L : List Nat) : Nat → Nat → Nat → Nat → Option (Nat × Nat)
  | 0, _, _, _ => none
  | f + 1, k, c, i => if 8 * s.size ≤ i then none else
      match look L (k + 1) (2 * c + bit s i) with
      | some x => some (x, i + 1)
      | none => next s L f (k + 1) (2 * c + bit s i) (i + 1)

theorem wraps_i64' (n : Nat) (h : n < 9223372036854775808) : wrap64 (n : Int) = n := by unfold wrap64; omega
theorem next_bits (s : ByteArray) (j cd : Nat) (h : j / 8 < s.size) (hcd : cd < 1099511627776) :
    bits .or .i64 ((cd : Int) * 2) (bits .and .i64 (wrap64 ((s[j / 8].toNat : Int) / 2 ^ (j % 8))) 1) = ((2 * cd + bit s j : Nat) : Int) := by
  have hc : s[j / 8].toNat < 256 := s[j / 8].toNat_lt
  have hq : s[j / 8].toNat / 2 ^ (j % 8) < 256 := Nat.lt_of_le_of_lt (Nat.div_le_self _ _) hc
  have e1 : (s[j / 8].toNat : Int) / 2 ^ (j % 8) = ((s[j / 8].toNat / 2 ^ (j % 8) : Nat) : Int) := by simp
  have hand := (bits_nat .i64 63 (by decide) wraps_i64 (s[j / 8].toNat / 2 ^ (j % 8)) 1 (by omega) (by decide)).1
  rw [Nat.and_one_is_mod] at hand
  rw [e1, wraps_i64' _ (by omega)]
  rw [show ((1 : Int)) = ((1 : Nat) : Int) from rfl, hand, bit_at s j h]
  obtain ⟨q, hqe⟩ : ∃ q, q = s[j / 8].toNat / 2 ^ (j % 8) % 2 := ⟨_, rfl⟩
  rw [← hqe]
  have hor := (bits_nat .i64 63 (by decide) wraps_i64 (cd * 2) q (by omega) (by omega)).2
  rw [show ((cd * 2 : Nat) : Int) = (cd : Int) * 2 from by omega] at hor
  rw [hor]
  have h2 := Nat.two_pow_add_eq_or_of_lt (i := 1) (b := q) (by omega) cd
  rw [show cd * 2 = 2 ^ 1 * cd from by omega, ← h2]

/-- What Next does. -/
def NextQ (s : ByteArray) (L : List Nat) (i : Nat) (w : World) (e : Ending) (w' : World) : Prop :=
  Below w.heap.size w w' ∧ match next s L 15 0 0 i with
    | some (x, j) => e = .returned (.tuple #[.int .i64 (x : Int), .int .i64 (j : Int), .int .i64 0])
    | none => ∃ q : Int, q ≠ 0 ∧ e = .returned (.tuple #[.int .i64 0, .int .i64 0, .int .i64 q])
theorem NextQ.some {s : ByteArray} {L : List Nat} {i x j : Nat} {w w' : World} (h : next s L 15 0 0 i = some (x, j)) (hb : Below w.heap.size w w') :
    NextQ s L i w (.returned (.tuple #[.int .i64 (x : Int), .int .i64 (j : Int), .int .i64 0])) w' := by
  unfold NextQ; rw [h]; exact ⟨hb, rfl⟩
theorem NextQ.none {s : ByteArray} {L : List Nat} {i : Nat} {q : Int} {w w' : World} (h : next s L 15 0 0 i = none) (hq : q ≠ 0) (hb : Below w.heap.size w w') :
    NextQ s L i w (.returned (.tuple #[.int .i64 0, .int .i64 0, .int .i64 q])) w' := by
  unfold NextQ; rw [h]; exact ⟨hb, q, hq, rfl⟩

set_option maxRecDepth 100000 in
set_option maxHeartbeats 2000000 in
theorem next_any {c m : Nat} (L : List Nat) (s : ByteArray) (hs : 8 * s.size < 4611686018427387904) (at0 : Nat) (hat : at0 ≤ 8 * s.size) (w : World) (H : Code w c m L) :
    Calls Try.prog 44 #[.pointer (some ⟨c, 0, none⟩), .string s, .int .i64 (at0 : Int)] w (NextQ s L at0 w) := by
  have hcl : c < w.heap.size := (Array.getElem?_eq_some_iff.1 H.hc).1
  have hml : m < w.heap.size := H.tab.lt
  have HH := Lib.hid H; clear H
  have hd0 : decide ((at0 : Int) < 0) = false := by simp
  go_enter Try.func44, Try.ntmps44
  go_wp2_with fail
  go_step3
  go_wp2_with fail
  go_step3
  go_wp2_with fail
  obtain ⟨b, hb⟩ : ∃ b, b = w.heap.size := ⟨_, rfl⟩
  rw [← hb]
  generalize hW : World.alloc w _ = W
  have K0 : W.heap[b]? = some (.cells (ints 2 fun _ => 0) 95) := by
    rw [← hW, hb]; exact heap_alloc_new _ _
  have B0 : Below w.heap.size w W := by rw [← hW]; exact (Below.refl _ _).alloc (Nat.le_refl _) _
  clear hW
  have hcb : c < b := by rw [hb]; exact hcl
  have hmb : m < b := by rw [hb]; exact hml
  have K0 := Lib.hid K0
  have B0 := Lib.hid B0
  have HB := Lib.hid hb; clear hb
  go_loopg [2, 8] 20 (fun g i e wr => ∃ k cd j : Nat, g = 20 - k ∧ k ≤ 15 ∧ cd < 2 ^ k ∧ j ≤ 8 * s.size ∧ i = .int .i64 (j : Int) ∧ e = .int .i64 0 ∧ Hid (next s L 15 0 0 at0 = next s L (15 - k) k cd j) ∧ Hid (Below w.heap.size w wr) ∧ Hid (wr.heap[b]? = some (.cells (ints 2 fun i => if i = 0 then k else cd) 95)))
  case atStart =>
    refine ⟨0, 0, at0, rfl, by omega, by decide, hat, rfl, rfl, Lib.hid rfl, B0, Lib.hid ?_⟩
    rw [K0.out]
    rw [ints_congr (fun i _ => ?_)]
    split <;> rfl
  case round =>
    obtain ⟨k, cd, j, hgk, hk15, hcd, hj, rfl, rfl, HN, Bw, K⟩ := hrel
    have k0 : wr.cell? ⟨b, 0, none⟩ = some (.int .i64 (k : Int)) := by rw [cell_at K.out, ints_get _ (by omega)]; rfl
    have k1 : wr.cell? ⟨b, 1, none⟩ = some (.int .i64 (cd : Int)) := by rw [cell_at K.out, ints_get _ (by omega)]; rfl
    have f0 : wr.frozen? ⟨b, 0, none⟩ = false := frozen_of_row wr _ 0 _ _ K.out
    have f1 : wr.frozen? ⟨b, 1, none⟩ = false := frozen_of_row wr _ 1 _ _ K.out
    have hcd2 : cd < 32768 := Nat.lt_of_lt_of_le hcd (Nat.pow_le_pow_right (by decide) hk15)
    by_cases hk : k < 15
    · have hd : decide ((k : Int) < 15) = true := by simp; omega
      by_cases hin : j < 8 * s.size
      · have hi0 : (0 : Int) ≤ (j : Int) / 8 := by omega
        have hi1 : (j : Int) / 8 < (s.size : Int) := by omega
        have hd8 : decide ((s.size : Int) ≤ (j : Int) / 8) = false := by simp; omega
        go_wp2_with fail
        go_region
        have hval := next_bits s j cd (by omega) (by omega)
        obtain ⟨nc, hnc⟩ : ∃ nc, nc = 2 * cd + bit s j := ⟨_, rfl⟩
        have hbl := bit_lt s j
        have hnl : nc < 2 ^ (k + 1) := by rw [Nat.pow_succ]; omega
        have hnl2 : nc < 65536 := by omega
        rw [← hnc] at hval
        simp only [hval]
        generalize hW1 : World.drew _ = W1
        have e2 : ((k : Int) + 1) = ((k + 1 : Nat) : Int) := by omega
        have K1 : W1.heap[b]? = some (.cells (ints 2 fun i => if i = 0 then k + 1 else nc) 95) := by
          rw [← hW1]
          show ((wr.setCell ⟨b, 0, none⟩ (.int .i64 ((k : Int) + 1))).setCell ⟨b, 1, none⟩ (.int .i64 (nc : Int))).heap[b]? = _
          rw [e2, heap_setCell_same _ _ _ _ _ _ (heap_setCell_same _ _ _ _ _ _ K.out), ints_set, ints_set]
          rw [ints_congr (fun i hi => ?_)]
          rcases i with _ | _ | i
          · rfl
          · rfl
          · omega
        have hbw := HB.out
        have B1 : Below w.heap.size w W1 := by rw [← hW1]; exact ((Bw.out.setCell (by simp; omega) _).setCell (by simp; omega) _).drew
        clear hW1
        have HC1 : Code W1 c m L := HH.out.kept (B1.block c hcl) (B1.block m hml)
        have c0 : W1.cell? ⟨c, 0, none⟩ = some (.map (some m)) := by rw [cell_at HC1.hc]; rfl
        have q0 : W1.cell? ⟨b, 0, none⟩ = some (.int .i64 ((k : Int) + 1)) := by rw [cell_at K1, ints_get _ (by omega), e2]; rfl
        have q1 : W1.cell? ⟨b, 1, none⟩ = some (.int .i64 (nc : Int)) := by rw [cell_at K1, ints_get _ (by omega)]; rfl
        have hlook : ∀ n, (Instr.lookup 91 (.map (some m)) (.agg #[.int .i64 ((k : Int) + 1), .int .i64 (nc : Int)]) true).run Try.prog (W1.drewN n) = .ok (.tuple #[.int .i64 ((lookTo L L.length (k + 1) nc).getD 0 : Nat), .bool (lookTo L L.length (k + 1) nc).isSome]) (W1.drewN n) := fun n => by
          have := (HC1.tab.kept (w' := W1.drewN n) rfl).look (k + 1) nc (by omega) (by omega)
          rw [e2]; exact this
        have hla := lookTo_all L (k + 1) nc
        rw [if_neg (by omega)] at hla
        rw [hla] at hlook
        have hstep : next s L (15 - k) k cd j = match look L (k + 1) nc with | some x => some (x, j + 1) | none => next s L (15 - (k + 1)) (k + 1) nc (j + 1) := by
          obtain ⟨f, hf⟩ : ∃ f, 15 - k = f + 1 := ⟨14 - k, by omega⟩
          rw [hf, show 15 - (k + 1) = f from by omega]
          show (if 8 * s.size ≤ j then none else _) = _
          rw [if_neg (by omega), ← hnc]
        have K1 := Lib.hid K1
        have B1 := Lib.hid B1
        have HC1 := Lib.hid HC1
        have HVAL := Lib.hid hval; clear hval
        have HNC := Lib.hid hnc; clear hnc
        clear hla e2 hbw
        cases hl : look L (k + 1) nc with
        | some x =>
          rw [hl] at hlook hstep
          simp only [Option.getD_some, Option.isSome_some] at hlook
          have G := NextQ.some (w := w) (w' := W1) (HN.out.trans hstep) B1.out
          have GN := fun n => NextQ.some (w := w) (w' := W1.drewN n) (HN.out.trans hstep) (B1.out.trans ⟨rfl, rfl, rfl, Nat.le_refl _, fun _ _ => rfl⟩)
          have GN := Lib.hid GN
          have HS := Lib.hid hstep; clear hstep
          have HL := Lib.hid hl; clear hl
          clear G
          go_wp2_with fail
          go_quiet (fail)
          go_wp2
          go_ret3
          have := GN.out (‹Nat›)
          rw [show ((j + 1 : Nat) : Int) = (j : Int) + 1 from by omega] at this
          exact this
        | none =>
          rw [hl] at hlook hstep
          simp only [Option.getD_none, Option.isSome_none] at hlook
          have HS := Lib.hid hstep; clear hstep
          have HL := Lib.hid hl; clear hl
          go_wp2_with fail
          go_quiet (fail)
          go_wp2
          go_roundg (20 - (k + 1))
          case measure => omega
          case rel =>
            refine ⟨k + 1, nc, j + 1, rfl, by omega, hnl, by omega, by go_num, rfl, Lib.hid (HN.out.trans HS.out), Lib.hid (B1.out.trans ⟨rfl, rfl, rfl, Nat.le_refl _, fun _ _ => rfl⟩), Lib.hid K1.out⟩
      · have hd8 : decide ((s.size : Int) ≤ (j : Int) / 8) = true := by simp; omega
        have hstep : next s L (15 - k) k cd j = none := by
          obtain ⟨f, hf⟩ : ∃ f, 15 - k = f + 1 := ⟨14 - k, by omega⟩
          rw [hf]
          show (if 8 * s.size ≤ j then none else _) = _
          rw [if_pos (by omega)]
        have G := NextQ.none (w := w) (w' := wr) (q := 3) (HN.out.trans hstep) (by omega) Bw.out
        have G := Lib.hid G
        clear hstep
        go_wp2
        go_ret3
        exact G.out
    · obtain rfl : k = 15 := by omega
      have hd : decide (((15 : Nat) : Int) < 15) = false := by decide
      have hstep : next s L (15 - 15) 15 cd j = none := rfl
      have G := NextQ.none (w := w) (w' := wr) (q := 2) (HN.out.trans hstep) (by omega) Bw.out
      have G := Lib.hid G
      clear hstep
      go_wp2
      go_ret3
      exact G.out
end Go.Proofs.Ytcgcacegkbbmiaa
