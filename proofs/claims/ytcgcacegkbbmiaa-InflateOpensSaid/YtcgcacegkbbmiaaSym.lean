/- What code, symbol, copies, block, stored of package inflate do. -/
import Derived.Test.YtcgcacegkbbmiaaNext
import Derived.Deep.RegionHeld3
namespace Go.Proofs.Ytcgcacegkbbmiaa
open Go.RowKit Go.Maps

theorem next_le {s : ByteArray} {L : List Nat} {f k c i x j : Nat} (h : next s L f k c i = some (x, j)) : i < j ∧ j ≤ 8 * s.size ∧ x < L.length := by
  induction f generalizing k c i with
  | zero => simp [next] at h
  | succ f ih =>
    simp only [next] at h
    by_cases hi : 8 * s.size ≤ i
    · rw [if_pos hi] at h; cases h
    · rw [if_neg hi] at h
      cases hl : look L (k + 1) (2 * c + bit s i) with
      | some y =>
        rw [hl] at h
        simp at h
        obtain ⟨rfl, rfl⟩ := h
        have := scan_index hl
        omega
      | none =>
        rw [hl] at h
        have := ih h
        omega

/-- The next symbol. -/
def sym (s : ByteArray) (L : List Nat) (r : St) : Nat × St :=
  if r.err = 0 then match next s L 15 0 0 r.pos with
    | some (x, i) => (x, { r with pos := i })
    | none => (0, { r with err := 2 })
  else (0, r)

theorem cell_kept {S : List Nat} {w w' : World} (hk : KeptBut S w w') {b o : Nat} {v : Value} (hb : b < w.heap.size) (hn : b ∉ S) (h : w.cell? ⟨b, o, none⟩ = some v) : w'.cell? ⟨b, o, none⟩ = some v :=
  (World.cell?_of_block (a := ⟨b, o, none⟩) (hk.block b hb hn)).trans h

set_option maxRecDepth 100000 in
set_option maxHeartbeats 1000000 in
theorem symbol_any {B p most : Nat} {s : ByteArray} {r : St} {va : Option Addr} {vc : Nat} (a : Option Addr) (L : List Nat) (hs : 8 * s.size < 4611686018427387904) (w : World) (H : Rd w B p s most r va vc)
    (hC : r.err = 0 → ∃ c m, a = some ⟨c, 0, none⟩ ∧ Code w c m L) :
    Calls Try.prog 33 #[.pointer (some ⟨p, 0, none⟩), .pointer a] w fun e w' => e = .returned (.int .i64 ((sym s L r).1 : Int)) ∧ Rd w' B p s most (sym s L r).2 va vc ∧ KeptBut [p] w w' := by
  have c0 := H.c0
  have c1 := H.c1
  have c4 := H.c4
  have hpl := H.lt
  have hpos := H.pos
  by_cases he : r.err = 0
  · obtain ⟨c, m, rfl, HC⟩ := hC he
    have hne : (r.err != 0) = false := by simp [he]
    have hnx := next_any L s hs r.pos hpos w.drew (HC.kept rfl rfl)
    have hf1 : ∀ w', KeptBut [] w w' → Rd w' B p s most r va vc := fun w' hk => H.kept hk (by simp) (by simp)
    have HF := Lib.hid hf1; clear hf1
    have HH := Lib.hid H; clear H
    have HC := Lib.hid HC
    clear hC
    cases hn : next s L 15 0 0 r.pos with
    | some xi =>
      obtain ⟨x, i⟩ := xi
      have hsym : sym s L r = (x, { r with pos := i }) := by unfold sym; rw [if_pos he, hn]
      rw [hsym]
      have hil := (next_le hn).2.1
      have hnx : Calls Try.prog 44 #[.pointer (some ⟨c, 0, none⟩), .string s, .int .i64 (r.pos : Int)] w.drew fun e w' => e = .returned (.tuple #[.int .i64 (x : Int), .int .i64 (i : Int), .int .i64 0]) ∧ Rd w' B p s most r va vc ∧ KeptBut [p] w w' := by
        refine hnx.mono ?_
        rintro e w' ⟨hb, hq⟩
        rw [hn] at hq
        have hk : KeptBut [] w w' := ((KeptBut.refl _ _).drew).trans (KeptBut.of_below hb)
        exact ⟨hq, HF.out _ hk, hk.mono (by simp)⟩
      have hnx := Lib.hid hnx
      have HS := Lib.hid hsym; clear hsym
      have HN := Lib.hid hn; clear hn
      go_enter Try.func33, Try.ntmps33
      go_wp2_with fail
      go_region_held3 (fun w' => w'.cell? ⟨p, 0, none⟩ = some (.string s) ∧ w'.cell? ⟨p, 1, none⟩ = some (.int .i64 (r.pos : Int)))
        (first
          | go_keep
          | exact ⟨k0, k1⟩)
        (first
          | (go_at_call 44; refine hnx.out.mono ?_; rintro e w1 ⟨rfl, R1, b1⟩; have k0 := R1.c0; have k1 := R1.c1; have f1 := R1.fr 1; have R1 := Lib.hid R1; have B1 := Lib.hid b1; clear b1))
      go_wp2
      go_ret
      exact ⟨rfl, R1.out.setPos i hil, B1.out.setCell (by simp) _⟩
    | none =>
      have hsym : sym s L r = (0, { r with err := 2 }) := by unfold sym; rw [if_pos he, hn]
      rw [hsym]
      have hf : fail r 2 = { r with err := 2 } := by unfold fail; rw [if_pos he]
      have hnx : Calls Try.prog 44 #[.pointer (some ⟨c, 0, none⟩), .string s, .int .i64 (r.pos : Int)] w.drew fun e w' => (∃ q : Int, (q != 0) = true ∧ e = .returned (.tuple #[.int .i64 0, .int .i64 0, .int .i64 q])) ∧ Rd w' B p s most r va vc ∧ KeptBut [p] w w' := by
        refine hnx.mono ?_
        rintro e w' ⟨hb, hq⟩
        rw [hn] at hq
        obtain ⟨q, h1, h2⟩ := hq
        have hk : KeptBut [] w w' := ((KeptBut.refl _ _).drew).trans (KeptBut.of_below hb)
        exact ⟨⟨q, by simp [h1], h2⟩, HF.out _ hk, hk.mono (by simp)⟩
      have hnx := Lib.hid hnx
      have HS := Lib.hid hsym; clear hsym
      have HN := Lib.hid hn; clear hn
      go_enter Try.func33, Try.ntmps33
      go_wp2_with fail
      go_region_held3 (fun w' => w'.cell? ⟨p, 0, none⟩ = some (.string s) ∧ w'.cell? ⟨p, 1, none⟩ = some (.int .i64 (r.pos : Int)))
        (first
          | go_keep
          | exact ⟨k0, k1⟩)
        (first
          | (go_at_call 44; refine hnx.out.mono ?_; rintro e w1 ⟨⟨q, hq, rfl⟩, R1, b1⟩; have k0 := R1.c0; have k1 := R1.c1; have R1 := Lib.hid R1; have B1 := Lib.hid b1; clear b1))
      go_wp2_with fail
      refine (fail_any 2 _ R1.out).mono ?_
      rintro e w2 ⟨rfl, H2, k2⟩
      rw [hf] at H2
      have H2 := Lib.hid H2
      have K2 := Lib.hid k2; clear k2
      go_wp2
      go_ret
      exact ⟨rfl, H2.out, B1.out.trans K2.out⟩
  · have hsym : sym s L r = (0, r) := by unfold sym; rw [if_neg he]
    rw [hsym]
    have hne : (r.err != 0) = true := by simp [he]
    have HH := Lib.hid H; clear H hsym hC
    go_enter Try.func33, Try.ntmps33
    go_wp2
    go_ret
    exact ⟨rfl, HH.out, KeptBut.refl _ _⟩

/-- What code does. -/
def CodeQ (w : World) (B p : Nat) (s : ByteArray) (most : Nat) (r : St) (va : Option Addr) (vc : Nat) (L : List Nat) (e : Ending) (w' : World) : Prop :=
  ∃ a, e = .returned (.pointer a) ∧ KeptBut [p] w w' ∧ Rd w' B p s most (if good L = true then r else fail r 2) va vc ∧
    (good L = true → ∃ c m, a = some ⟨c, 0, none⟩ ∧ w.heap.size ≤ c ∧ w.heap.size ≤ m ∧ Code w' c m L)

set_option maxRecDepth 100000 in
set_option maxHeartbeats 1000000 in
theorem code_any {B p most : Nat} {s : ByteArray} {r : St} {va : Option Addr} {vc : Nat} {g off cap : Nat} (L : List Nat) (hL : L.length ≤ 300) (h15 : ∀ x ∈ L, x ≤ 15) (w : World) (hg : g < w.heap.size) (HA : At w g off L) (H : Rd w B p s most r va vc) :
    Calls Try.prog 32 #[.pointer (some ⟨p, 0, none⟩), .slice (some ⟨g, off, none⟩) L.length cap] w (CodeQ w B p s most r va vc L) := by
  have hnew := new_any (cap := cap) L hL h15 w hg HA
  have hf1 : ∀ w', KeptBut [] w w' → Rd w' B p s most r va vc := fun w' hk => H.kept hk (by simp) (by simp)
  have HF := Lib.hid hf1; clear hf1
  have hnew := Lib.hid hnew
  clear H HA
  go_enter Try.func32, Try.ntmps32
  go_wp2_with fail
  refine hnew.out.mono ?_
  intro e w1 hq
  unfold NewQ at hq
  by_cases hgd : good L = true
  · rw [if_pos hgd] at hq
    obtain ⟨c, m, rfl, hb, hc, hm, HC⟩ := hq
    have HC := Lib.hid HC
    have HB := Lib.hid hb; clear hb
    go_wp2
    go_ret
    exact ⟨_, rfl, KeptBut.of_below HB.out, by rw [if_pos hgd]; exact HF.out _ (KeptBut.of_below HB.out), fun _ => ⟨c, m, rfl, hc, hm, HC.out⟩⟩
  · rw [if_neg hgd] at hq
    obtain ⟨rfl, hb⟩ := hq
    have HB := Lib.hid hb; clear hb
    go_wp2_with fail
    refine (fail_any 2 _ (HF.out _ (KeptBut.of_below HB.out))).mono ?_
    rintro e w2 ⟨rfl, H2, k2⟩
    have H2 := Lib.hid H2
    have K2 := Lib.hid k2; clear k2
    go_wp2
    go_ret
    exact ⟨_, rfl, (KeptBut.of_below HB.out).trans K2.out, by rw [if_neg hgd]; exact H2.out, fun h => absurd h hgd⟩
end Go.Proofs.Ytcgcacegkbbmiaa
