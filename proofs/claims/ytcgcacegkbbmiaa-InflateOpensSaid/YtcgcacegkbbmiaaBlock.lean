/- What block and stored of package inflate do. -/
import Derived.Test.YtcgcacegkbbmiaaCopies
namespace Go.Proofs.Ytcgcacegkbbmiaa
open Go.RowKit Go.Maps

/-- A code lies apart from the reader. -/
def CodeA (w : World) (p : Nat) (va : Option Addr) (a : Option Addr) (L : List Nat) : Prop :=
  ∃ c m, a = some ⟨c, 0, none⟩ ∧ Code w c m L ∧ c ∉ p :: blk va ∧ m ∉ p :: blk va
theorem Code.ltc {w : World} {c m : Nat} {L : List Nat} (h : Code w c m L) : c < w.heap.size := (Array.getElem?_eq_some_iff.1 h.hc).1
theorem CodeA.move {w w' : World} {p : Nat} {va va' a : Option Addr} {L : List Nat} (h : CodeA w p va a L) (M : Mv p w va w' va') : CodeA w' p va' a L := by
  obtain ⟨c, m, e, hc, h1, h2⟩ := h
  have far : ∀ k, k < w.heap.size → k ∉ p :: blk va → k ∉ p :: blk va' := fun k hk hn hm => by
    rcases List.mem_cons.1 hm with e | hb
    · exact hn (e ▸ List.mem_cons_self)
    · rcases M.new k hb with h | h
      · exact hn (List.mem_cons_of_mem _ h)
      · omega
  exact ⟨c, m, e, hc.kept (M.kept.block c hc.ltc h1) (M.kept.block m hc.tab.lt h2), far c hc.ltc h1, far m hc.tab.lt h2⟩

def coder (L : List Nat) (r : St) : St := if good L = true then r else fail r 2
/-- So many symbols of a block, or till it ends. -/
def blockLoop (s : ByteArray) (most : Nat) (Ll Ld : List Nat) : Nat → St → St
  | 0, r => r
  | f + 1, r => if r.err = 0 then
      if (sym s Ll r).1 = 256 then (sym s Ll r).2
      else if (sym s Ll r).1 < 256 then blockLoop s most Ll Ld f (say most (UInt8.ofNat (sym s Ll r).1) (sym s Ll r).2)
      else blockLoop s most Ll Ld f (copies s most Ld ((sym s Ll r).1 : Int) (sym s Ll r).2)
    else r
def block (s : ByteArray) (most : Nat) (Ll Ld : List Nat) (r : St) : St := blockLoop s most Ll Ld (8 * s.size + 1) (coder Ld (coder Ll r))

theorem fail_err_ne {r : St} {e : Int} (he : e ≠ 0) : (fail r e).err ≠ 0 := by
  unfold fail
  by_cases h : r.err = 0
  · rw [if_pos h]; exact he
  · rw [if_neg h]; exact h
theorem coder_err {L : List Nat} {r : St} (h : (coder L r).err = 0) : good L = true ∧ r.err = 0 := by
  unfold coder at h
  by_cases hg : good L = true
  · rw [if_pos hg] at h; exact ⟨hg, h⟩
  · rw [if_neg hg] at h; exact absurd h (fail_err_ne (by decide))
theorem blockLoop_err {s : ByteArray} {most : Nat} {Ll Ld : List Nat} {r : St} (f : Nat) (h : r.err ≠ 0) : blockLoop s most Ll Ld f r = r := by
  cases f with
  | zero => rfl
  | succ f => unfold blockLoop; rw [if_neg h]

theorem fail_err {r : St} {e : Int} (h : (fail r e).err = 0) : r.err = 0 := by
  unfold fail at h
  by_cases he : r.err = 0
  · exact he
  · rw [if_neg he] at h; exact h
theorem copyLoop_err0 {most back n : Nat} {r : St} (h : (copyLoop most back n r).err = 0) : r.err = 0 := by
  by_cases he : r.err = 0
  · exact he
  · rw [copyLoop_err n he] at h; exact absurd h he
theorem copies_err {s : ByteArray} {most : Nat} {Ld : List Nat} {n : Int} {r : St} (h : (copies s most Ld n r).err = 0) : r.err = 0 := by
  unfold copies at h
  by_cases h1 : (lengthP n).2.2 = true
  · rw [if_pos h1] at h
    by_cases h2 : (distP ((sym s Ld (num s (lengthP n).2.1 r).2).1 : Int)).2.2 = true
    · simp only [if_pos h2] at h
      have h3 := copyLoop_err0 h
      have h4 : (num s (distP ((sym s Ld (num s (lengthP n).2.1 r).2).1 : Int)).2.1 (sym s Ld (num s (lengthP n).2.1 r).2).2).2.err = 0 := by
        unfold tooFar at h3
        split at h3
        · exact fail_err h3
        · exact h3
      exact num_err (sym_err (num_err h4))
    · simp only [if_neg h2] at h
      exact num_err (sym_err (fail_err h))
  · rw [if_neg h1] at h; exact fail_err h

/-! the next bit never falls back -/
theorem num_pos {s : ByteArray} {k : Nat} {r : St} (h : r.pos ≤ 8 * s.size) : r.pos ≤ (num s k r).2.pos := by
  unfold num
  by_cases he : r.err = 0
  · rw [if_pos he]
    by_cases hk : r.pos + k ≤ 8 * s.size
    · rw [if_pos hk]; exact Nat.le_add_right _ _
    · rw [if_neg hk]; exact h
  · rw [if_neg he]; exact Nat.le_refl _
theorem num_pos_le {s : ByteArray} {k : Nat} {r : St} (h : r.pos ≤ 8 * s.size) : (num s k r).2.pos ≤ 8 * s.size := by
  unfold num
  by_cases he : r.err = 0
  · rw [if_pos he]
    by_cases hk : r.pos + k ≤ 8 * s.size
    · rw [if_pos hk]; exact hk
    · rw [if_neg hk]; exact Nat.le_refl _
  · rw [if_neg he]; exact h
theorem sym_pos {s : ByteArray} {L : List Nat} {r : St} : r.pos ≤ (sym s L r).2.pos ∧ ((sym s L r).2.err = 0 → r.pos < (sym s L r).2.pos) := by
  unfold sym
  by_cases he : r.err = 0
  · rw [if_pos he]
    cases h : next s L 15 0 0 r.pos with
    | none => exact ⟨Nat.le_refl _, fun (h : (2 : Int) = 0) => absurd h (by decide)⟩
    | some x =>
      have := (next_le (x := x.1) (j := x.2) h).1
      exact ⟨Nat.le_of_lt this, fun _ => this⟩
  · rw [if_neg he]; exact ⟨Nat.le_refl _, fun h => absurd h he⟩
theorem sym_pos_le {s : ByteArray} {L : List Nat} {r : St} (h : r.pos ≤ 8 * s.size) : (sym s L r).2.pos ≤ 8 * s.size := by
  unfold sym
  by_cases he : r.err = 0
  · rw [if_pos he]
    cases h2 : next s L 15 0 0 r.pos with
    | none => exact h
    | some x => exact (next_le (x := x.1) (j := x.2) h2).2.1
  · rw [if_neg he]; exact h
theorem say_pos (most : Nat) (b : UInt8) (r : St) : (say most b r).pos = r.pos := by
  unfold say; split <;> try split
  all_goals rfl
theorem fail_pos (r : St) (e : Int) : (fail r e).pos = r.pos := by
  unfold fail; split <;> rfl
theorem copyLoop_pos (most back n : Nat) (r : St) : (copyLoop most back n r).pos = r.pos := by
  induction n generalizing r with
  | zero => rfl
  | succ n ih => show (copyLoop most back n _).pos = _; rw [ih, say_pos]
theorem tooFar_pos (back : Nat) (r : St) : (tooFar back r).pos = r.pos := by
  unfold tooFar; split
  · exact fail_pos _ _
  · rfl
theorem copies_pos {s : ByteArray} {most : Nat} {Ld : List Nat} {n : Int} {r : St} (h : r.pos ≤ 8 * s.size) : r.pos ≤ (copies s most Ld n r).pos := by
  unfold copies
  by_cases h1 : (lengthP n).2.2 = true
  · rw [if_pos h1]
    have p1 := num_pos (k := (lengthP n).2.1) h
    have p2 := num_pos_le (k := (lengthP n).2.1) h
    have p3 := (sym_pos (s := s) (L := Ld) (r := (num s (lengthP n).2.1 r).2)).1
    have p4 := sym_pos_le (L := Ld) p2
    by_cases h2 : (distP ((sym s Ld (num s (lengthP n).2.1 r).2).1 : Int)).2.2 = true
    · simp only [if_pos h2]
      rw [copyLoop_pos, tooFar_pos]
      have p5 := num_pos (k := (distP ((sym s Ld (num s (lengthP n).2.1 r).2).1 : Int)).2.1) p4
      omega
    · simp only [if_neg h2]
      rw [fail_pos]
      omega
  · rw [if_neg h1, fail_pos]; exact Nat.le_refl _

/-- The reader at a round of a block. -/
structure Bk (wr : World) (B p : Nat) (s : ByteArray) (most : Nat) (Ll Ld : List Nat) (rb : St) (va : Option Addr) (w : World) (a1 a2 : Option Addr) (f : Nat) (r : St) (va' : Option Addr) (vc' : Nat) : Prop where
  rd : Rd wr B p s most r va' vc'
  mv : Mv p w va wr va'
  eq : rb = blockLoop s most Ll Ld f r
  left : r.err = 0 → 8 * s.size < r.pos + f
  ca1 : r.err = 0 → CodeA wr p va' a1 Ll
  ca2 : r.err = 0 → CodeA wr p va' a2 Ld

theorem CodeA.moveK {w w' : World} {p : Nat} {va a : Option Addr} {L : List Nat} (h : CodeA w p va a L) (k : KeptBut [p] w w') : CodeA w' p va a L := h.move (Mv.of va k)
theorem ofNat_toNat {n : Nat} (h : n < 256) : (UInt8.ofNat n).toNat = n := by simp; omega

set_option maxRecDepth 100000 in
set_option maxHeartbeats 4000000 in
theorem block_any {B p most : Nat} {s : ByteArray} {r : St} {va : Option Addr} {vc : Nat} {g off cap g2 off2 cap2 : Nat} (Ll Ld : List Nat) (hLl : Ll.length ≤ 300) (hLd : Ld.length ≤ 300) (hl0 : 0 < Ll.length) (h15 : ∀ x ∈ Ll, x ≤ 15) (h15' : ∀ x ∈ Ld, x ≤ 15)
    (hs : 8 * s.size < 4611686018427387904) (hm : most ≤ 1048576) (w : World) (hB : B ≤ w.heap.size) (H : Rd w B p s most r va vc) (hg : g < w.heap.size) (hg2 : g2 < w.heap.size) (hgp : g2 ≠ p) (A1 : At w g off Ll) (A2 : At w g2 off2 Ld) :
    Calls Try.prog 31 #[.pointer (some ⟨p, 0, none⟩), .slice (some ⟨g, off, none⟩) Ll.length cap, .slice (some ⟨g2, off2, none⟩) Ld.length cap2] w fun e w' => e = .returned (.tuple #[]) ∧ ∃ va' vc', Rd w' B p s most (block s most Ll Ld r) va' vc' ∧ Mv p w va w' va' := by
  have hc1 := code_any (cap := cap) Ll hLl h15 w hg A1 H
  have hpl := H.lt
  have hbl : ∀ k ∈ blk va, k < w.heap.size := fun k hk => (H.blk_lt hk).2
  have HC1 := Lib.hid hc1; clear hc1
  have HBL := Lib.hid hbl; clear hbl
  have hA2 := Lib.hid A2
  clear H A1
  go_enter Try.func31, Try.ntmps31
  go_wp2_with fail
  refine HC1.out.mono ?_
  rintro e w1 ⟨a1, rfl, k1, R1, hcode1⟩
  have hA21 : At w1 g2 off2 Ld := hA2.out.kept (k1.block g2 hg2 (by simpa using hgp))
  have hc2 := code_any (cap := cap2) Ld hLd h15' w1 (Nat.lt_of_lt_of_le hg2 k1.size) hA21 R1
  have HC2 := Lib.hid hc2; clear hc2
  have k1 := Lib.hid k1
  have hcode1 := Lib.hid hcode1
  clear R1 hA21
  go_wp2_with fail
  refine HC2.out.mono ?_
  rintro e w2 ⟨a2, rfl, k2, R2, hcode2⟩
  have hblk : block s most Ll Ld r = blockLoop s most Ll Ld (8 * s.size + 1) (coder Ld (coder Ll r)) := rfl
  have R2 : Rd w2 B p s most (coder Ld (coder Ll r)) va vc := R2
  have hca1 : good Ll = true → CodeA w2 p va a1 Ll := fun h => by
    obtain ⟨c, m, e, h1, h2, hc⟩ := hcode1.out h
    have hk := k1.out.size
    have hb := HBL.out
    have nc : ∀ k, w.heap.size ≤ k → k ∉ p :: blk va := fun k hk hm => by
      rcases List.mem_cons.1 hm with e | hb'
      · omega
      · have := hb k hb'; omega
    exact ⟨c, m, e, hc.kept (k2.block c hc.ltc (by simp; omega)) (k2.block m hc.tab.lt (by simp; omega)), nc c h1, nc m h2⟩
  have hca2 : good Ld = true → CodeA w2 p va a2 Ld := fun h => by
    obtain ⟨c, m, e, h1, h2, hc⟩ := hcode2 h
    have hk := k1.out.size
    have hb := HBL.out
    have nc : ∀ k, w.heap.size ≤ k → k ∉ p :: blk va := fun k hk hm => by
      rcases List.mem_cons.1 hm with e | hb'
      · omega
      · have := hb k hb'; omega
    exact ⟨c, m, e, hc, nc c (by omega), nc m (by omega)⟩
  have K2 := Lib.hid (k1.out.trans k2); clear k2
  have R2 := Lib.hid R2
  have hca1 := Lib.hid hca1
  have hca2 := Lib.hid hca2
  have HBK := Lib.hid hblk; clear hblk
  clear hcode2
  go_wp2_with fail
  go_loopg [8] (8 * s.size + 1) (fun g _ wr => ∃ r' va' vc', Hid (Bk wr B p s most Ll Ld (block s most Ll Ld r) va w a1 a2 g r' va' vc'))
  case atStart =>
    refine ⟨_, va, vc, Lib.hid ⟨R2.out, Mv.of va K2.out, HBK.out, fun _ => by omega, fun h => ?_, fun h => ?_⟩⟩
    · exact hca1.out (coder_err (coder_err h).2).1
    · exact hca2.out (coder_err h).1
  case round =>
    obtain ⟨r', va', vc', C⟩ := hrel
    have c4 := C.out.rd.c4
    by_cases he : r'.err = 0
    · have hee : (r'.err == 0) = true := by simp [he]
      have hlf := C.out.left he
      have hrp := C.out.rd.pos
      obtain ⟨f, hf⟩ : ∃ f, gk = f + 1 := ⟨gk - 1, by omega⟩
      have hsy := symbol_any a1 Ll hs wr C.out.rd (fun h => by obtain ⟨c, m, e, hc, _⟩ := C.out.ca1 h; exact ⟨c, m, e, hc⟩)
      have hsl := sym_lt s Ll r' hl0
      have hsp := sym_pos (s := s) (L := Ll) (r := r')
      have heq : block s most Ll Ld r = (if (sym s Ll r').1 = 256 then (sym s Ll r').2
          else if (sym s Ll r').1 < 256 then blockLoop s most Ll Ld f (say most (UInt8.ofNat (sym s Ll r').1) (sym s Ll r').2)
          else blockLoop s most Ll Ld f (copies s most Ld ((sym s Ll r').1 : Int) (sym s Ll r').2)) := by
        rw [C.out.eq, hf]
        show (if r'.err = 0 then _ else r') = _
        rw [if_pos he]
      have hse : (sym s Ll r').2.err = 0 → r'.err = 0 := sym_err
      obtain ⟨S, hS⟩ : ∃ S, S = sym s Ll r' := ⟨_, rfl⟩
      rw [← hS] at hsy hsl hsp heq hse
      have HS := Lib.hid hS; clear hS
      have HSY := Lib.hid hsy; clear hsy
      have HSP := Lib.hid hsp; clear hsp
      have HEQ := Lib.hid heq; clear heq
      have HSE := Lib.hid hse; clear hse
      by_cases h256 : S.1 = 256
      · have hd1 : ((S.1 : Int) == 256) = true := by simp; omega
        have heq : block s most Ll Ld r = S.2 := by rw [HEQ.out, if_pos h256]
        have HEQ2 := Lib.hid heq; clear heq
        go_wp2_with fail
        refine HSY.out.mono ?_
        rintro e w3 ⟨rfl, R3, k3⟩
        have R3 := Lib.hid R3
        have K3 := Lib.hid k3; clear k3
        go_wp2
        ((try simp only [Exit.inBlock, Exit.then]); refine bodyPost_ret (results_none rfl _ _ _) rfl ?_)
        exact ⟨rfl, va', vc', by rw [HEQ2.out]; exact R3.out, C.out.mv.trans (Mv.of va' K3.out)⟩
      · have hd1 : ((S.1 : Int) == 256) = false := by simp; omega
        by_cases hlt : S.1 < 256
        · have hd2 : decide ((S.1 : Int) < 256) = true := by simp; omega
          have heq : block s most Ll Ld r = blockLoop s most Ll Ld f (say most (UInt8.ofNat S.1) S.2) := by rw [HEQ.out, if_neg h256, if_pos hlt]
          have HEQ2 := Lib.hid heq; clear heq
          go_wp2_with fail
          refine HSY.out.mono ?_
          rintro e w3 ⟨rfl, R3, k3⟩
          have hsay := say_any (UInt8.ofNat S.1) hm w3 (Nat.le_trans hB (Nat.le_trans C.out.mv.kept.size k3.size)) R3
          rw [ofNat_toNat hlt] at hsay
          have HSAY := Lib.hid hsay; clear hsay
          have R3 := Lib.hid R3
          have K3 := Lib.hid k3; clear k3
          go_wp2_with fail
          refine HSAY.out.mono ?_
          rintro e w4 ⟨rfl, va4, vc4, R4, M4⟩
          have R4 := Lib.hid R4
          have M4 := Lib.hid M4
          go_wp2
          go_roundg f
          case measure => omega
          case rel =>
            have M := (Mv.of va' K3.out).trans M4.out
            have herr : (say most (UInt8.ofNat S.1) S.2).err = 0 → S.2.err = 0 := fun h => (say_len h).1
            refine ⟨_, va4, vc4, Lib.hid ⟨R4.out, C.out.mv.trans M, HEQ2.out, fun h => ?_, fun h => ?_, fun h => ?_⟩⟩
            · rw [say_pos]
              have := HSP.out.2 (herr h)
              omega
            · exact (C.out.ca1 he).move M
            · exact (C.out.ca2 he).move M
        · have hd2 : decide ((S.1 : Int) < 256) = false := by simp; omega
          have heq : block s most Ll Ld r = blockLoop s most Ll Ld f (copies s most Ld (S.1 : Int) S.2) := by rw [HEQ.out, if_neg h256, if_neg hlt]
          have HEQ2 := Lib.hid heq; clear heq
          go_wp2_with fail
          refine HSY.out.mono ?_
          rintro e w3 ⟨rfl, R3, k3⟩
          have hcop := copies_any (S.1 : Int) a2 Ld hs hm w3 (Nat.le_trans hB (Nat.le_trans C.out.mv.kept.size k3.size)) R3 (fun h => by
            obtain ⟨c, m, e, hc, h1, h2⟩ := (C.out.ca2 he).moveK k3
            exact ⟨c, m, e, hc, fun e => h1 (e ▸ List.mem_cons_self), fun e => h2 (e ▸ List.mem_cons_self)⟩)
          have hcp := copies_pos (s := s) (most := most) (Ld := Ld) (n := (S.1 : Int)) R3.pos
          have HCOP := Lib.hid hcop; clear hcop
          have HCP := Lib.hid hcp; clear hcp
          have R3 := Lib.hid R3
          have K3 := Lib.hid k3; clear k3
          go_wp2_with fail
          refine HCOP.out.mono ?_
          rintro e w4 ⟨rfl, va4, vc4, R4, M4⟩
          have R4 := Lib.hid R4
          have M4 := Lib.hid M4
          go_wp2
          go_roundg f
          case measure => omega
          case rel =>
            have M := (Mv.of va' K3.out).trans M4.out
            have herr : (copies s most Ld (S.1 : Int) S.2).err = 0 → S.2.err = 0 := copies_err
            refine ⟨_, va4, vc4, Lib.hid ⟨R4.out, C.out.mv.trans M, HEQ2.out, fun h => ?_, fun h => ?_, fun h => ?_⟩⟩
            · have h1 := HSP.out.2 (herr h)
              have h2 := HCP.out
              omega
            · exact (C.out.ca1 he).move M
            · exact (C.out.ca2 he).move M
    · have hee : (r'.err == 0) = false := by simp [he]
      have heq : block s most Ll Ld r = r' := C.out.eq.trans (blockLoop_err _ he)
      have HEQ := Lib.hid heq; clear heq
      go_wp2
      go_end0
      exact ⟨rfl, va', vc', by rw [HEQ.out]; exact C.out.rd, C.out.mv⟩
end Go.Proofs.Ytcgcacegkbbmiaa
