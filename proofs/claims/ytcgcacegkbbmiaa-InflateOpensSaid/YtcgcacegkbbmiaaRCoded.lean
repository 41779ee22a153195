/- The reference's coded. -/
import Derived.Test.YtcgcacegkbbmiaaRCopy
namespace Go.Proofs.Ytcgcacegkbbmiaa
open Go.RowKit

/-- A code that lies apart from the reader. -/
def CrA (w : World) (p : Nat) (va : Option Addr) (x y : Sl) (L : List Nat) : Prop := ∃ a b, Cr w x y L a b ∧ a ∉ p :: blk va ∧ b ∉ p :: blk va
/-- A variable of a code that lies apart from the reader. -/
structure Bx (w : World) (p : Nat) (va : Option Addr) (q : Nat) (x y : Sl) : Prop where
  hq : w.heap[q]? = some (.cells #[.slice x.a x.n x.c, .slice y.a y.n y.c] 65)
  far : q ∉ p :: blk va
theorem far_move {w w' : World} {p : Nat} {va va' : Option Addr} (M : Mv p w va w' va') {k : Nat} (hk : k < w.heap.size) (hn : k ∉ p :: blk va) : k ∉ p :: blk va' := fun hm => by
  rcases List.mem_cons.1 hm with e | hb
  · exact hn (e ▸ List.mem_cons_self)
  · rcases M.new k hb with h | h
    · exact hn (List.mem_cons_of_mem _ h)
    · omega
theorem CrA.move {w w' : World} {p : Nat} {va va' : Option Addr} {x y : Sl} {L : List Nat} (h : CrA w p va x y L) (M : Mv p w va w' va') : CrA w' p va' x y L := by
  obtain ⟨a, b, C, h1, h2⟩ := h
  exact ⟨a, b, C.kept M.kept.size (M.kept.block a C.la h1) (M.kept.block b C.lb h2), far_move M C.la h1, far_move M C.lb h2⟩
theorem Bx.lt {w : World} {p : Nat} {va : Option Addr} {q : Nat} {x y : Sl} (h : Bx w p va q x y) : q < w.heap.size := (Array.getElem?_eq_some_iff.1 h.hq).1
theorem Bx.move {w w' : World} {p : Nat} {va va' : Option Addr} {q : Nat} {x y : Sl} (h : Bx w p va q x y) (M : Mv p w va w' va') : Bx w' p va' q x y :=
  ⟨(M.kept.block q h.lt h.far).trans h.hq, far_move M h.lt h.far⟩
theorem Bx.c0 {w : World} {p : Nat} {va : Option Addr} {q : Nat} {x y : Sl} (h : Bx w p va q x y) : w.cell? ⟨q, 0, none⟩ = some (.slice x.a x.n x.c) := by rw [cell_at h.hq]; rfl
theorem Bx.c1 {w : World} {p : Nat} {va : Option Addr} {q : Nat} {x y : Sl} (h : Bx w p va q x y) : w.cell? ⟨q, 1, none⟩ = some (.slice y.a y.n y.c) := by rw [cell_at h.hq]; rfl
/-- code, whatever the state. -/
theorem rcode_all {B p most : Nat} {s : ByteArray} {r : St} {va : Option Addr} {vc : Nat} {g off cap : Nat} (L : List Nat) (hL : L.length ≤ 300) (hL0 : 0 < L.length) (h15 : ∀ x ∈ L, x ≤ 15) (w : World) (hg : g < w.heap.size) (HA : At w g off L) (H : Ri w B p s most r va vc) :
    Calls Try.prog 35 #[.pointer (some ⟨p, 0, none⟩), .slice (some ⟨g, off, none⟩) L.length cap] w (RCodeQ w B p s most (coder L r) va vc L) := by
  by_cases he : r.err = 0
  · exact rcode_any L hL hL0 h15 w hg HA H he
  · have hco : coder L r = r := by
      unfold coder
      split
      · rfl
      · unfold fail; rw [if_neg he]
    rw [hco]
    exact rcode_err ⟨some ⟨g, off, none⟩, L.length, cap⟩ L w H he
theorem sym_zero {s : ByteArray} {L : List Nat} {r : St} (h : (sym s L r).2.err ≠ 0) : (sym s L r).1 = 0 := by
  unfold sym at h ⊢
  by_cases he : r.err = 0
  · rw [if_pos he] at h ⊢
    cases hnx : next s L 15 0 0 r.pos with
    | none => rfl
    | some z => rw [hnx] at h; exact absurd he h
  · rw [if_neg he]

/-- The reader at a round of a block. -/
structure Bi (wr : World) (B p : Nat) (s : ByteArray) (most : Nat) (Ll Ld : List Nat) (rb : St) (va : Option Addr) (w : World) (q1 q2 : Nat) (x1 y1 x2 y2 : Sl) (f : Nat) (r : St) (va' : Option Addr) (vc' : Nat) : Prop where
  rd : Ri wr B p s most r va' vc'
  mv : Mv p w va wr va'
  eq : rb = blockLoop s most Ll Ld f r
  left : r.err = 0 → 8 * s.size < r.pos + f
  b1 : Bx wr p va' q1 x1 y1
  b2 : Bx wr p va' q2 x2 y2
  ca1 : r.err = 0 → CrA wr p va' x1 y1 Ll
  ca2 : r.err = 0 → CrA wr p va' x2 y2 Ld

set_option maxRecDepth 100000 in
set_option maxHeartbeats 4000000 in
theorem coded_any {B p most : Nat} {s : ByteArray} {r : St} {va : Option Addr} {vc : Nat} {g off cap g2 off2 cap2 : Nat} (Ll Ld : List Nat) (hLl : Ll.length ≤ 300) (hLd : Ld.length ≤ 300) (hl0 : 0 < Ll.length) (hd0 : 0 < Ld.length) (h15 : ∀ x ∈ Ll, x ≤ 15) (h15' : ∀ x ∈ Ld, x ≤ 15)
    (hs : 8 * s.size < 4611686018427387904) (hm : most ≤ 1048576) (w : World) (hB : B ≤ w.heap.size) (H : Ri w B p s most r va vc) (hg : g < w.heap.size) (hg2 : g2 < w.heap.size) (hgp : g2 ≠ p) (A1 : At w g off Ll) (A2 : At w g2 off2 Ld) :
    Calls Try.prog 25 #[.pointer (some ⟨p, 0, none⟩), .slice (some ⟨g, off, none⟩) Ll.length cap, .slice (some ⟨g2, off2, none⟩) Ld.length cap2] w fun e w' => e = .returned (.tuple #[]) ∧ ∃ va' vc', Ri w' B p s most (block s most Ll Ld r) va' vc' ∧ Mv p w va w' va' := by
  have hc1 := rcode_all (cap := cap) Ll hLl hl0 h15 w hg A1 H
  have hpl := H.lt
  have hbl : ∀ k ∈ blk va, k < w.heap.size := fun k hk => (H.blk_lt hk).2
  have HC1 := Lib.hid hc1; clear hc1
  have HA2 := Lib.hid A2; clear A2
  have HBL := Lib.hid hbl; clear hbl
  go_enter Try.func25, Try.ntmps25
  go_wp2_with fail
  refine HC1.out.mono ?_
  rintro e w1 ⟨x1, y1, rfl, k1, R1, hcode1⟩
  have hA21 : At w1 g2 off2 Ld := HA2.out.kept (k1.block g2 hg2 (by simpa using hgp))
  obtain ⟨W1, hW1⟩ : ∃ W, W = w1.alloc (.cells #[.slice x1.a x1.n x1.c, .slice y1.a y1.n y1.c] 65) := ⟨_, rfl⟩
  obtain ⟨q1, hq1⟩ : ∃ q, q = w1.heap.size := ⟨_, rfl⟩
  have kW1 : KeptBut [] w1 W1 := by rw [hW1]; exact (KeptBut.refl _ _).alloc _
  have cW1 : W1.heap[q1]? = some (.cells #[.slice x1.a x1.n x1.c, .slice y1.a y1.n y1.c] 65) := by rw [hW1, hq1]; exact heap_alloc_new _ _
  have hg21 : g2 < w1.heap.size := Nat.lt_of_lt_of_le hg2 k1.size
  have RW1 : Ri W1 B p s most (coder Ll r) va vc := R1.kept kW1 (by simp) (by simp)
  have hc2 := rcode_all (cap := cap2) Ld hLd hd0 h15' W1 (Nat.lt_of_lt_of_le hg21 kW1.size) (hA21.kept (kW1.block g2 hg21 (by simp))) RW1
  rw [hW1] at hc2
  have HC2 := Lib.hid hc2; clear hc2
  have HW1 := Lib.hid hW1; clear hW1
  have k1 := Lib.hid k1
  have kW1 := Lib.hid kW1
  have hcode1 := Lib.hid hcode1
  clear hA21 RW1 R1
  go_wp2_with fail
  refine HC2.out.mono ?_
  rintro e w2 ⟨x2, y2, rfl, k2, R2, hcode2⟩
  rw [← HW1.out] at k2 hcode2
  rw [← hq1]
  obtain ⟨W2, hW2⟩ : ∃ W, W = w2.alloc (.cells #[.slice x2.a x2.n x2.c, .slice y2.a y2.n y2.c] 65) := ⟨_, rfl⟩
  obtain ⟨q2, hq2⟩ : ∃ q, q = w2.heap.size := ⟨_, rfl⟩
  have kW2 : KeptBut [] w2 W2 := by rw [hW2]; exact (KeptBut.refl _ _).alloc _
  have cW2 : W2.heap[q2]? = some (.cells #[.slice x2.a x2.n x2.c, .slice y2.a y2.n y2.c] 65) := by rw [hW2, hq2]; exact heap_alloc_new _ _
  have RW2 : Ri W2 B p s most (coder Ld (coder Ll r)) va vc := R2.kept kW2 (by simp) (by simp)
  have s1 := k1.out.size
  have s2 := kW1.out.size
  have s3 := k2.size
  have s4 := kW2.size
  have hqW1 : q1 < W1.heap.size := (Array.getElem?_eq_some_iff.1 cW1).1
  have nc : ∀ k, w.heap.size ≤ k → k ∉ p :: blk va := fun k hk hm => by
    rcases List.mem_cons.1 hm with e | hb'
    · omega
    · have := HBL.out k hb'; omega
  have BX1 : Bx W2 p va q1 x1 y1 := ⟨(kW2.block q1 (by omega) (by simp)).trans ((k2.block q1 hqW1 (by simp; omega)).trans cW1), nc q1 (by omega)⟩
  have BX2 : Bx W2 p va q2 x2 y2 := ⟨cW2, nc q2 (by omega)⟩
  have CA1 : (coder Ll r).err = 0 → CrA W2 p va x1 y1 Ll := fun h => by
    obtain ⟨a, b, C, h1, h2⟩ := hcode1.out h
    have C1 : Cr W1 x1 y1 Ll a b := C.kept s2 (kW1.out.block a C.la (by simp)) (kW1.out.block b C.lb (by simp))
    have C2 : Cr w2 x1 y1 Ll a b := C1.kept s3 (k2.block a C1.la (by simp; omega)) (k2.block b C1.lb (by simp; omega))
    exact ⟨a, b, C2.kept s4 (kW2.block a C2.la (by simp)) (kW2.block b C2.lb (by simp)), nc a h1, nc b h2⟩
  have CA2 : (coder Ld (coder Ll r)).err = 0 → CrA W2 p va x2 y2 Ld := fun h => by
    obtain ⟨a, b, C, h1, h2⟩ := hcode2 h
    exact ⟨a, b, C.kept s4 (kW2.block a C.la (by simp)) (kW2.block b C.lb (by simp)), nc a (by omega), nc b (by omega)⟩
  have KW2 : KeptBut [p] w W2 := k1.out.trans ((kW1.out.mono (by simp)).trans (k2.trans (kW2.mono (by simp))))
  have hblk : block s most Ll Ld r = blockLoop s most Ll Ld (8 * s.size + 1) (coder Ld (coder Ll r)) := rfl
  have B0 : Bi W2 B p s most Ll Ld (block s most Ll Ld r) va w q1 q2 x1 y1 x2 y2 (8 * s.size + 1) (coder Ld (coder Ll r)) va vc :=
    ⟨RW2, Mv.of va KW2, hblk, fun _ => by omega, BX1, BX2, fun h => CA1 (coder_err h).2, CA2⟩
  have B0 := Lib.hid B0
  have HW2 := Lib.hid hW2; clear hW2
  have HQ2 := Lib.hid hq2; clear hq2
  have HQ1 := Lib.hid hq1; clear hq1
  clear hblk BX1 BX2 CA1 CA2 RW2 R2 hcode2 cW1 cW2 k2 kW2 KW2 nc
  go_wp2_with fail
  rw [← HW2.out, ← HQ2.out]
  go_loopg [8] (8 * s.size + 1) (fun g _ wr => ∃ r' va' vc', Hid (Bi wr B p s most Ll Ld (block s most Ll Ld r) va w q1 q2 x1 y1 x2 y2 g r' va' vc'))
  case atStart => exact ⟨_, va, vc, B0⟩
  case round =>
    obtain ⟨r', va', vc', C⟩ := hrel
    have c2 := C.out.rd.c2
    have u0 := C.out.b1.c0
    have u1 := C.out.b1.c1
    by_cases he : r'.err = 0
    · have hee : (r'.err == 0) = true := by simp [he]
      have hlf := C.out.left he
      have hrp := C.out.rd.pos
      obtain ⟨f, hf⟩ : ∃ f, gk = f + 1 := ⟨gk - 1, by omega⟩
      have hsy := rsymbol_any x1 y1 Ll hLl hs wr C.out.rd (fun h => by obtain ⟨a, b, hc, _⟩ := C.out.ca1 h; exact ⟨a, b, hc⟩)
      have hsl := sym_lt s Ll r' hl0
      have hsp := sym_pos (s := s) (L := Ll) (r := r')
      have hsz := sym_zero (s := s) (L := Ll) (r := r')
      have heq : block s most Ll Ld r = (if (sym s Ll r').1 = 256 then (sym s Ll r').2
          else if (sym s Ll r').1 < 256 then blockLoop s most Ll Ld f (say most (UInt8.ofNat (sym s Ll r').1) (sym s Ll r').2)
          else blockLoop s most Ll Ld f (copies s most Ld ((sym s Ll r').1 : Int) (sym s Ll r').2)) := by
        rw [C.out.eq, hf]
        show (if r'.err = 0 then _ else r') = _
        rw [if_pos he]
      obtain ⟨S, hS⟩ : ∃ S, S = sym s Ll r' := ⟨_, rfl⟩
      rw [← hS] at hsy hsl hsp heq hsz
      have HS := Lib.hid hS; clear hS
      have HSY := Lib.hid hsy; clear hsy
      have HSP := Lib.hid hsp; clear hsp
      have HEQ := Lib.hid heq; clear heq
      have HSZ := Lib.hid hsz; clear hsz
      have HF := Lib.hid hf; clear hf
      go_wp2_with fail
      refine HSY.out.mono ?_
      rintro e w3 ⟨rfl, R3, k3⟩
      clear c2 u0 u1
      have c2 := R3.c2
      by_cases hSe : S.2.err = 0
      · have hse : (S.2.err != 0) = false := by simp [hSe]
        by_cases h256 : S.1 = 256
        · have hd1 : ((S.1 : Int) == 256) = true := by simp; omega
          have heq : block s most Ll Ld r = S.2 := by rw [HEQ.out, if_pos h256]
          have HEQ2 := Lib.hid heq; clear heq
          have R3 := Lib.hid R3
          have K3 := Lib.hid k3; clear k3
          go_wp2
          ((try simp only [Exit.inBlock, Exit.then]); refine bodyPost_ret (results_none rfl _ _ _) rfl ?_)
          exact ⟨rfl, va', vc', by rw [HEQ2.out]; exact R3.out, C.out.mv.trans (Mv.of va' K3.out)⟩
        · have hd1 : ((S.1 : Int) == 256) = false := by simp; omega
          by_cases hlt : S.1 < 256
          · have hd2 : decide ((S.1 : Int) < 256) = true := by simp; omega
            have heq : block s most Ll Ld r = blockLoop s most Ll Ld f (say most (UInt8.ofNat S.1) S.2) := by rw [HEQ.out, if_neg h256, if_pos hlt]
            have HEQ2 := Lib.hid heq; clear heq
            have hsay := rsay_any (UInt8.ofNat S.1) hm w3 (Nat.le_trans hB (Nat.le_trans C.out.mv.kept.size k3.size)) R3
            rw [ofNat_toNat hlt] at hsay
            have HSAY := Lib.hid hsay; clear hsay
            have R3 := Lib.hid R3
            have K3 := Lib.hid k3; clear k3
            go_wp2_with fail
            refine HSAY.out.mono ?_
            rintro e w4 ⟨rfl, va4, vc4, R4, M4⟩
            have R4 := Lib.hid R4
            have M4 := Lib.hid M4
            clear c2
            go_wp2
            go_roundg f
            case measure => have := HF.out; omega
            case rel =>
              have M := (Mv.of va' K3.out).trans M4.out
              have herr : (say most (UInt8.ofNat S.1) S.2).err = 0 → S.2.err = 0 := fun h => (say_len h).1
              refine ⟨_, va4, vc4, Lib.hid ⟨R4.out, C.out.mv.trans M, HEQ2.out, fun h => ?_, C.out.b1.move M, C.out.b2.move M, fun h => ?_, fun h => ?_⟩⟩
              · rw [say_pos]
                have := HSP.out.2 (herr h)
                have := HF.out
                omega
              · exact (C.out.ca1 he).move M
              · exact (C.out.ca2 he).move M
          · have hd2 : decide ((S.1 : Int) < 256) = false := by simp; omega
            have heq : block s most Ll Ld r = blockLoop s most Ll Ld f (copies s most Ld (S.1 : Int) S.2) := by rw [HEQ.out, if_neg h256, if_neg hlt]
            have HEQ2 := Lib.hid heq; clear heq
            have B23 := C.out.b2.move (Mv.of va' k3)
            have v0 := B23.c0
            have v1 := B23.c1
            have hcop := copied_any (S.1 : Int) x2 y2 Ld hLd hs hm w3 (Nat.le_trans hB (Nat.le_trans C.out.mv.kept.size k3.size)) R3 hSe (by
              obtain ⟨a, b, hc, h1, h2⟩ := (C.out.ca2 he).move (Mv.of va' k3)
              exact ⟨a, b, hc, fun e => h1 (e ▸ List.mem_cons_self), fun e => h2 (e ▸ List.mem_cons_self)⟩)
            have hcp := copies_pos (s := s) (most := most) (Ld := Ld) (n := (S.1 : Int)) R3.pos
            have HCOP := Lib.hid hcop; clear hcop
            have HCP := Lib.hid hcp; clear hcp
            have R3 := Lib.hid R3
            have K3 := Lib.hid k3; clear k3
            clear B23
            go_wp2_with fail
            refine HCOP.out.mono ?_
            rintro e w4 ⟨rfl, va4, vc4, R4, M4⟩
            have R4 := Lib.hid R4
            have M4 := Lib.hid M4
            clear c2 v0 v1
            go_wp2
            go_roundg f
            case measure => have := HF.out; omega
            case rel =>
              have M := (Mv.of va' K3.out).trans M4.out
              have herr : (copies s most Ld (S.1 : Int) S.2).err = 0 → S.2.err = 0 := copies_err
              refine ⟨_, va4, vc4, Lib.hid ⟨R4.out, C.out.mv.trans M, HEQ2.out, fun h => ?_, C.out.b1.move M, C.out.b2.move M, fun h => ?_, fun h => ?_⟩⟩
              · have h1 := HSP.out.2 (herr h)
                have h2 := HCP.out
                have := HF.out
                omega
              · exact (C.out.ca1 he).move M
              · exact (C.out.ca2 he).move M
      · have hse : (S.2.err != 0) = true := by simp [hSe]
        have heq : block s most Ll Ld r = S.2 := by
          rw [HEQ.out, HSZ.out hSe, if_neg (by decide), if_pos (by decide), say_err hSe, blockLoop_err _ hSe]
        have HEQ2 := Lib.hid heq; clear heq
        have R3 := Lib.hid R3
        have K3 := Lib.hid k3; clear k3
        go_wp2
        ((try simp only [Exit.inBlock, Exit.then]); refine bodyPost_ret (results_none rfl _ _ _) rfl ?_)
        exact ⟨rfl, va', vc', by rw [HEQ2.out]; exact R3.out, C.out.mv.trans (Mv.of va' K3.out)⟩
    · have hee : (r'.err == 0) = false := by simp [he]
      have heq : block s most Ll Ld r = r' := C.out.eq.trans (blockLoop_err _ he)
      have HEQ := Lib.hid heq; clear heq
      go_wp2
      go_end0
      exact ⟨rfl, va', vc', by rw [HEQ.out]; exact C.out.rd, C.out.mv⟩
end Go.Proofs.Ytcgcacegkbbmiaa
