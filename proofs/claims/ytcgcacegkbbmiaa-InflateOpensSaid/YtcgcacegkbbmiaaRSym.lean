/- The reference's symbol and code. -/
import Derived.Test.YtcgcacegkbbmiaaRNext
import Derived.Deep.RegionHeld3
import Derived.StillTailTactics
namespace Go.Proofs.Ytcgcacegkbbmiaa
open Go.RowKit

/-- A slice's three. -/
structure Sl where
  a : Option Addr
  n : Nat
  c : Nat
def Sl.v (x : Sl) : Value := .slice x.a x.n x.c
/-- A code of the reference at two slices. -/
structure Cr (w : World) (x y : Sl) (L : List Nat) (a b : Nat) : Prop where
  xa : x.a = some ⟨a, 0, none⟩
  xn : x.n = L.length
  ya : y.a = some ⟨b, 0, none⟩
  yn : y.n = L.length
  yc : y.c = L.length
  la : a < w.heap.size
  lb : b < w.heap.size
  hA : At w a 0 L
  hB : w.heap[b]? = some (.cells (ints L.length (cod L)) 3)
theorem Cr.kept {w w' : World} {x y : Sl} {L : List Nat} {a b : Nat} (h : Cr w x y L a b) (hs : w.heap.size ≤ w'.heap.size) (ea : w'.heap[a]? = w.heap[a]?) (eb : w'.heap[b]? = w.heap[b]?) : Cr w' x y L a b :=
  ⟨h.xa, h.xn, h.ya, h.yn, h.yc, Nat.lt_of_lt_of_le h.la hs, Nat.lt_of_lt_of_le h.lb hs, h.hA.kept ea, eb.trans h.hB⟩

set_option maxRecDepth 100000 in
set_option maxHeartbeats 2000000 in
theorem rsymbol_any {B p most : Nat} {s : ByteArray} {r : St} {va : Option Addr} {vc : Nat} (x y : Sl) (L : List Nat) (hL : L.length ≤ 300) (hs : 8 * s.size < 4611686018427387904) (w : World) (H : Ri w B p s most r va vc)
    (hC : r.err = 0 → ∃ a b, Cr w x y L a b) :
    Calls Try.prog 36 #[.pointer (some ⟨p, 0, none⟩), .agg #[.slice x.a x.n x.c, .slice y.a y.n y.c]] w fun e w' => e = .returned (.int .i64 ((sym s L r).1 : Int)) ∧ Ri w' B p s most (sym s L r).2 va vc ∧ KeptBut [p] w w' := by
  have hpl := H.lt
  obtain ⟨q, hq⟩ : ∃ q, q = w.heap.size := ⟨_, rfl⟩
  obtain ⟨W, hW⟩ : ∃ W, W = w.alloc (.cells #[.slice x.a x.n x.c, .slice y.a y.n y.c] 65) := ⟨_, rfl⟩
  have kW : KeptBut [] w W := by rw [hW]; exact (KeptBut.refl _ _).alloc _
  have HW0 : Ri W B p s most r va vc := H.kept kW (by simp) (by simp)
  have cW : W.heap[q]? = some (.cells #[.slice x.a x.n x.c, .slice y.a y.n y.c] 65) := by rw [hW, hq]; exact heap_alloc_new _ _
  have hqW : W.heap.size = q + 1 := by rw [hW, hq]; simp
  have c2 := HW0.c2
  have c2x := c2
  rw [hW] at c2x
  have HW := Lib.hid hW; clear hW
  have HQ := Lib.hid hq; clear hq
  by_cases he : r.err = 0
  · obtain ⟨a, b, C⟩ := hC he
    have hne : (r.err != 0) = false := by simp [he]
    go_enter Try.func36, Try.ntmps36
    go_wp2_with fail
    rw [← HW.out, ← HQ.out]
    clear c2x
    have HC := Lib.hid C; clear C
    have c0 := HW0.c0
    have c1 := HW0.c1
    have cq0 : W.cell? ⟨q, 0, none⟩ = some (.slice x.a x.n x.c) := by rw [cell_at cW]; rfl
    have cq1 : W.cell? ⟨q, 1, none⟩ = some (.slice y.a y.n y.c) := by rw [cell_at cW]; rfl
    have hRd : Ri W.drew B p s most r va vc := HW0.drewN 1
    have kd : KeptBut [] w W.drew := kW.drewN 1
    have Cd : Cr W.drew x y L a b := HC.out.kept (by show w.heap.size ≤ W.heap.size; exact kW.size) (kW.block a HC.out.la (by simp)) (kW.block b HC.out.lb (by simp))
    have hnx : Calls Try.prog 46 #[.agg #[.slice x.a x.n x.c, .slice y.a y.n y.c], .string s, .int .i64 (r.pos : Int)] W.drew (NextQ s L r.pos W.drew) := by
      rw [HC.out.xa, HC.out.xn, HC.out.ya, HC.out.yn, HC.out.yc]
      exact rnext_any s L r.pos hL hs HW0.pos W.drew Cd.la Cd.lb Cd.hA Cd.hB
    unfold NextQ at hnx
    cases hn : next s L 15 0 0 r.pos with
    | none =>
      simp only [hn] at hnx
      have hsym : sym s L r = (0, { r with err := 2 }) := by unfold sym; rw [if_pos he, hn]
      have HSYM := Lib.hid hsym; clear hsym
      have HNX := Lib.hid hnx; clear hnx
      have HHN := Lib.hid hn; clear hn
      have HRd := Lib.hid hRd; clear hRd
      clear Cd
      go_region_with (go_at_call 46; refine HNX.out.mono ?_; rintro e w5 ⟨b5, e0, he0, rfl⟩; have hz0 : (e0 != 0) = true := by simp [he0])
      all_goals
        have R5 : Ri w5 B p s most r va vc := HRd.out.kept (S := []) (KeptBut.of_below b5) (by simp) (by simp)
        have d2 := R5.c2
        have g2 := R5.fr 2
        have R5 := Lib.hid R5
        have b5 := Lib.hid b5
        clear c0 c1 c2 cq0 cq1
        go_wp2
        go_ret
        rw [HSYM.out]
        exact ⟨rfl, R5.out.setErr 2, ((kd.mono (by simp)).trans (KeptBut.of_below b5.out)).setCell (by simp) _⟩
    | some z =>
      obtain ⟨xs, i⟩ := z
      simp only [hn] at hnx
      have hsym : sym s L r = (xs, { r with pos := i }) := by unfold sym; rw [if_pos he, hn]
      have hil : i ≤ 8 * s.size := (next_le hn).2.1
      have HSYM := Lib.hid hsym; clear hsym
      have HNX := Lib.hid hnx; clear hnx
      have HHN := Lib.hid hn; clear hn
      have HRd := Lib.hid hRd; clear hRd
      clear Cd
      go_region_with (go_at_call 46; refine HNX.out.mono ?_; rintro e w5 ⟨b5, rfl⟩)
      all_goals
        have R5 : Ri w5 B p s most r va vc := HRd.out.kept (S := []) (KeptBut.of_below b5) (by simp) (by simp)
        have d1 := R5.c1
        have g1 := R5.fr 1
        have R5 := Lib.hid R5
        have b5 := Lib.hid b5
        clear c0 c1 c2 cq0 cq1
        go_wp2
        go_ret
        rw [HSYM.out]
        exact ⟨rfl, R5.out.setPos i hil, ((kd.mono (by simp)).trans (KeptBut.of_below b5.out)).setCell (by simp) _⟩
  · have hne : (r.err != 0) = true := by simp [he]
    have hsym : sym s L r = (0, r) := by unfold sym; rw [if_neg he]
    rw [hsym]
    go_enter Try.func36, Try.ntmps36
    go_wp2_with fail
    rw [← HW.out]
    go_ret
    exact ⟨rfl, HW0, kW.mono (by simp)⟩

/-- What code says. -/
def RCodeQ (w : World) (B p : Nat) (s : ByteArray) (most : Nat) (r' : St) (va : Option Addr) (vc : Nat) (L : List Nat) (e : Ending) (w' : World) : Prop :=
  ∃ x y : Sl, e = .returned (.agg #[.slice x.a x.n x.c, .slice y.a y.n y.c]) ∧ KeptBut [p] w w' ∧ Ri w' B p s most r' va vc ∧ (r'.err = 0 → ∃ a b, Cr w' x y L a b ∧ w.heap.size ≤ a ∧ w.heap.size ≤ b)

set_option maxRecDepth 100000 in
set_option maxHeartbeats 2000000 in
theorem rcode_err {B p most : Nat} {s : ByteArray} {r : St} {va : Option Addr} {vc : Nat} (l : Sl) (L : List Nat) (w : World) (H : Ri w B p s most r va vc) (he : r.err ≠ 0) :
    Calls Try.prog 35 #[.pointer (some ⟨p, 0, none⟩), .slice l.a l.n l.c] w (RCodeQ w B p s most r va vc L) := by
  have hpl := H.lt
  obtain ⟨q, hq⟩ : ∃ q, q = w.heap.size := ⟨_, rfl⟩
  obtain ⟨W, hW⟩ : ∃ W, W = w.alloc (.cells #[.slice none 0 0, .slice none 0 0] 65) := ⟨_, rfl⟩
  have kW : KeptBut [] w W := by rw [hW]; exact (KeptBut.refl _ _).alloc _
  have HW0 : Ri W B p s most r va vc := H.kept kW (by simp) (by simp)
  have cW : W.heap[q]? = some (.cells #[.slice none 0 0, .slice none 0 0] 65) := by rw [hW, hq]; exact heap_alloc_new _ _
  have c2 := HW0.c2
  rw [hW] at c2
  have hne : (r.err != 0) = true := by simp [he]
  have HW := Lib.hid hW; clear hW
  have HQ := Lib.hid hq; clear hq
  go_enter Try.func35, Try.ntmps35
  go_wp2_with (refine wpList_store_row rfl 65 _ _ rfl w.heap.size #[.slice none 0 0, .slice none 0 0] rfl rfl 65 #[.slice none 0 0, .slice none 0 0] (heap_alloc_new w _) size65 rfl (two_one _ _ _ _ _ _) ?_)
  rw [← HW.out, ← HQ.out]
  (try simp only [Exit.inBlock, Exit.then])
  refine bodyPost_ret (results_cell_row rfl _ _ q 65 _ (0, 0) _ rfl (setRow_heap _ _ _ _ _ _ cW) Try.underlying65 rfl size65) rfl ?_
  have hb : Below w.heap.size w (W.setRow q #[.slice none 0 0, .slice none 0 0]) := below_setRow (kW.below (by simp) (Nat.le_refl _)) (by rw [HQ.out]; exact Nat.le_refl _) _
  exact ⟨⟨none, 0, 0⟩, ⟨none, 0, 0⟩, rfl, KeptBut.of_below hb, H.kept (S := []) (KeptBut.of_below hb) (by simp) (by simp), fun h => absurd h he⟩

set_option maxRecDepth 100000 in
set_option maxHeartbeats 2000000 in
theorem rcode_any {B p most : Nat} {s : ByteArray} {r : St} {va : Option Addr} {vc : Nat} {g off cap : Nat} (L : List Nat) (hL : L.length ≤ 300) (hL0 : 0 < L.length) (h15 : ∀ x ∈ L, x ≤ 15) (w : World) (hg : g < w.heap.size) (HA : At w g off L) (H : Ri w B p s most r va vc) (he : r.err = 0) :
    Calls Try.prog 35 #[.pointer (some ⟨p, 0, none⟩), .slice (some ⟨g, off, none⟩) L.length cap] w (RCodeQ w B p s most (coder L r) va vc L) := by
  have hpl := H.lt
  obtain ⟨q, hq⟩ : ∃ q, q = w.heap.size := ⟨_, rfl⟩
  obtain ⟨W, hW⟩ : ∃ W, W = w.alloc (.cells #[.slice none 0 0, .slice none 0 0] 65) := ⟨_, rfl⟩
  have kW : KeptBut [] w W := by rw [hW]; exact (KeptBut.refl _ _).alloc _
  have HW0 : Ri W B p s most r va vc := H.kept kW (by simp) (by simp)
  have cW : W.heap[q]? = some (.cells #[.slice none 0 0, .slice none 0 0] 65) := by rw [hW, hq]; exact heap_alloc_new _ _
  have c2 := HW0.c2
  rw [hW] at c2
  have hsW : w.heap.size < W.heap.size := by rw [hW]; simp
  have hne : (r.err != 0) = false := by simp [he]
  have hnew := rnew_any (cap := cap) L hL hL0 h15 W (by omega) (HA.kept (kW.block g hg (by simp)))
  rw [hW] at hnew
  have HNEW := Lib.hid hnew; clear hnew
  have HW := Lib.hid hW; clear hW
  have HQ := Lib.hid hq; clear hq
  have H0 := Lib.hid H; clear H
  have HW0 := Lib.hid HW0
  by_cases hgood : good L = true
  · have hco : coder L r = r := by unfold coder; rw [if_pos hgood]
    rw [hco]
    go_enter Try.func35, Try.ntmps35
    go_wp2_with fail
    refine HNEW.out.mono ?_
    rintro e w2 ⟨b2, hq2⟩
    rw [if_pos hgood] at hq2
    obtain ⟨v, rfl, a, ca, b, rfl, hla, hlb, hau, hbu, hA2, hB2⟩ := hq2
    rw [← HW.out] at b2 hla hlb
    have hq1 := HQ.out
    have cq2 : w2.heap[w.heap.size]? = some (.cells #[.slice none 0 0, .slice none 0 0] 65) := (b2.block _ (by omega)).trans (hq1 ▸ cW)
    have c22 : ∀ o, (w2.alloc o).heap[w.heap.size]? = some (.cells #[.slice none 0 0, .slice none 0 0] 65) := fun o => (Below.heap_alloc _ _ _ (Array.getElem?_eq_some_iff.1 cq2).1).trans cq2
    have C22 := Lib.hid c22; clear c22
    have cq2 := Lib.hid cq2
    have b2 := Lib.hid b2
    have hA2 := Lib.hid hA2
    have hB2 := Lib.hid hB2
    clear hq1
    go_wp2_with (refine wpList_store_row rfl 65 _ _ rfl w.heap.size _ rfl rfl 65 #[.slice none 0 0, .slice none 0 0] (C22.out _) size65 rfl (two_one _ _ _ _ _ _) ?_)
    (try simp only [Exit.inBlock, Exit.then])
    refine bodyPost_ret (results_cell_row rfl _ _ w.heap.size 65 _ (0, 0) _ rfl (setRow_heap _ _ _ _ _ _ (C22.out _)) Try.underlying65 rfl size65) rfl ?_
    have k2 : KeptBut [] W w2 := KeptBut.of_below b2.out
    have hbb : Below w.heap.size w w2 := (kW.below (by simp) (Nat.le_refl _)).trans (b2.out.mono (by omega))
    generalize hW3 : World.setRow (World.alloc w2 _) _ _ = W3
    have b3 : Below w.heap.size w W3 := by rw [← hW3]; exact below_setRow (hbb.alloc hbb.size _) (Nat.le_refl _) _
    have s3 : W3.heap.size = w2.heap.size + 1 := by rw [← hW3, setRow_size]; simp
    have e3 : ∀ k, w.heap.size < k → k < w2.heap.size → W3.heap[k]? = w2.heap[k]? := fun k h1 h2 => by
      rw [← hW3, setRow_other _ _ _ (by omega)]; exact Below.heap_alloc _ _ _ h2
    refine ⟨⟨some ⟨a, 0, none⟩, L.length, ca⟩, ⟨some ⟨b, 0, none⟩, L.length, L.length⟩, rfl, KeptBut.of_below b3, H0.out.kept (S := []) (KeptBut.of_below b3) (by simp) (by simp), fun _ => ⟨a, b, ⟨rfl, rfl, rfl, rfl, rfl, by omega, by omega, hA2.out.kept (e3 a (by omega) hau), (e3 b (by omega) hbu).trans hB2.out⟩, by omega, by omega⟩⟩
  · have hco : coder L r = fail r 2 := by unfold coder; rw [if_neg hgood]
    have hfl : fail r 2 = { r with err := 2 } := by unfold fail; rw [if_pos he]
    rw [hco, hfl]
    go_enter Try.func35, Try.ntmps35
    go_wp2_with fail
    refine HNEW.out.mono ?_
    rintro e w2 ⟨b2, hq2⟩
    rw [if_neg hgood] at hq2
    unfold noCd at hq2
    subst hq2
    rw [← HW.out] at b2
    have hq1 := HQ.out
    have cq2 : w2.heap[w.heap.size]? = some (.cells #[.slice none 0 0, .slice none 0 0] 65) := (b2.block _ (by omega)).trans (hq1 ▸ cW)
    have R2 : Ri w2 B p s most r va vc := HW0.out.kept (S := []) (KeptBut.of_below b2) (by simp) (by simp)
    have hbb : Below w.heap.size w w2 := (kW.below (by simp) (Nat.le_refl _)).trans (b2.mono (by omega))
    obtain ⟨W3, hW3⟩ : ∃ W3, W3 = w2.alloc (.cells #[.slice none 0 0, .slice none 0 0] 65) := ⟨_, rfl⟩
    have R3 : Ri W3 B p s most r va vc := by rw [hW3]; exact R2.kept (S := []) ((KeptBut.refl _ _).alloc _) (by simp) (by simp)
    have cq3 : W3.heap[w.heap.size]? = some (.cells #[.slice none 0 0, .slice none 0 0] 65) := by rw [hW3]; exact (Below.heap_alloc _ _ _ (Array.getElem?_eq_some_iff.1 cq2).1).trans cq2
    have b3 : Below w.heap.size w W3 := by rw [hW3]; exact hbb.alloc hbb.size _
    have d2 := R3.c2
    have g2 := R3.fr 2
    have v0 : W3.heap[w2.heap.size]? = some (.cells #[.slice none 0 0, .slice none 0 0] 65) := by rw [hW3]; exact heap_alloc_new _ _
    have hpq : p ≠ w2.heap.size := by have := R2.lt; omega
    have hpw : p ≠ w.heap.size := by omega
    have v1 : (W3.setCell ⟨p, 2, none⟩ (.int .i64 2)).heap[w2.heap.size]? = some (.cells #[.slice none 0 0, .slice none 0 0] 65) := by rw [heap_setCell_other _ _ _ _ (fun e => hpq e.symm)]; exact v0
    have v2 : (W3.setCell ⟨p, 2, none⟩ (.int .i64 2)).heap[w.heap.size]? = some (.cells #[.slice none 0 0, .slice none 0 0] 65) := by rw [heap_setCell_other _ _ _ _ (fun e => hpw e.symm)]; exact cq3
    have u0 : (W3.setCell ⟨p, 2, none⟩ (.int .i64 2)).cell? ⟨w2.heap.size, 0, none⟩ = some (.slice none 0 0) := by rw [cell_at v1]; rfl
    have u1 : (W3.setCell ⟨p, 2, none⟩ (.int .i64 2)).cell? ⟨w2.heap.size, 1, none⟩ = some (.slice none 0 0) := by rw [cell_at v1]; rfl
    rw [hW3] at d2 g2 u0 u1
    have V2 := Lib.hid v2
    have R3 := Lib.hid R3
    have b3 := Lib.hid b3
    have HW3 := Lib.hid hW3
    clear v0 v1 v2 cq2 cq3 R2 hbb hq1 b2
    rw [hW3] at V2
    clear hW3
    go_wp2_with (refine wpList_store_row rfl 65 _ _ rfl w.heap.size _ rfl rfl 65 #[.slice none 0 0, .slice none 0 0] V2.out size65 rfl (two_one _ _ _ _ _ _) ?_)
    (try simp only [Exit.inBlock, Exit.then])
    refine bodyPost_ret (results_cell_row rfl _ _ w.heap.size 65 _ (0, 0) _ rfl (setRow_heap _ _ _ _ _ _ V2.out) Try.underlying65 rfl size65) rfl ?_
    rw [← HW3.out]
    have kk : KeptBut [p] w (W3.setCell ⟨p, 2, none⟩ (.int .i64 2)) := (KeptBut.of_below b3.out).setCell (by simp) _
    have RR := R3.out.setErr 2
    have kr : KeptBut [w.heap.size] (W3.setCell ⟨p, 2, none⟩ (.int .i64 2)) ((W3.setCell ⟨p, 2, none⟩ (.int .i64 2)).setRow w.heap.size #[.slice none 0 0, .slice none 0 0]) := ⟨rfl, rfl, rfl, by rw [setRow_size]; exact Nat.le_refl _, fun k _ hn => setRow_other _ _ _ (by simpa using hn)⟩
    refine ⟨⟨none, 0, 0⟩, ⟨none, 0, 0⟩, rfl, ?_, RR.kept kr (by simp; omega) (fun k hk => by have := (H0.out.blk_lt hk).2; simp; omega), fun h => absurd (show (2 : Int) = 0 from h) (by decide)⟩
    exact ⟨kk.os, kk.tape, kk.output, by rw [setRow_size]; exact kk.size, fun k hk hn => (setRow_other _ _ _ (by omega)).trans (kk.block k hk hn)⟩
end Go.Proofs.Ytcgcacegkbbmiaa
