/- What stored of package inflate does. -/
import Derived.Test.YtcgcacegkbbmiaaBlock
namespace Go.Proofs.Ytcgcacegkbbmiaa
open Go.RowKit Go.Maps

theorem and_not7 (a : Nat) (ha : a < 9223372036854775808) : a &&& 18446744073709551608 = a / 8 * 8 := by
  have e1 : (18446744073709551608 : Nat) = 2 ^ 64 - (7 + 1) := by decide
  have e2 : a / 8 * 8 = (a >>> 3) <<< 3 := by rw [Nat.shiftRight_eq_div_pow, Nat.shiftLeft_eq]
  rw [e1, e2]
  apply Nat.eq_of_testBit_eq
  intro i
  rw [Nat.testBit_and, Nat.testBit_two_pow_sub_succ (by decide), Nat.testBit_shiftLeft, Nat.testBit_shiftRight]
  rw [show (7 : Nat) = 2 ^ 3 - 1 from rfl, Nat.testBit_two_pow_sub_one]
  by_cases h3 : i < 3
  · simp [h3, show ¬ i ≥ 3 from by omega]
  · by_cases h64 : i < 64
    · simp [h3, h64, show i ≥ 3 from by omega, show 3 + (i - 3) = i from by omega]
    · have : a.testBit i = false := Nat.testBit_lt_two_pow (Nat.lt_of_lt_of_le ha (by
        have : 2 ^ 63 ≤ 2 ^ i := Nat.pow_le_pow_right (by decide) (by omega)
        omega))
      simp [h3, h64, show i ≥ 3 from by omega, show 3 + (i - 3) = i from by omega, this]
theorem bits_not7 (a : Nat) (ha : a < 9223372036854775808) : bits .andNot .i64 (a : Int) 7 = ((a / 8 * 8 : Nat) : Int) := by
  show IntKind.i64.wrap ((BitVec.ofInt 64 (a : Int) &&& ~~~BitVec.ofInt 64 (7 : Int)).toNat : Int) = _
  have e1 : (BitVec.ofInt 64 (a : Int)).toNat = a := by
    rw [BitVec.ofInt_natCast, BitVec.toNat_ofNat]; exact Nat.mod_eq_of_lt (by omega)
  rw [BitVec.toNat_and, BitVec.toNat_not, e1]
  rw [show 2 ^ 64 - 1 - (BitVec.ofInt 64 (7 : Int)).toNat = 18446744073709551608 from by decide, and_not7 a ha, wraps_i64]
  · omega
  · have : a / 8 * 8 ≤ a := Nat.div_mul_le_self a 8
    omega

def storedLoop (s : ByteArray) (most : Nat) : Nat → St → St
  | 0, r => r
  | n + 1, r => storedLoop s most n (say most (UInt8.ofNat (num s 8 r).1) (num s 8 r).2)
def toByte (r : St) : St := { r with pos := (r.pos + 7) / 8 * 8 }
def storedHead (s : ByteArray) (r : St) : Nat × St :=
  let a := num s 16 (toByte r)
  let b := num s 16 a.2
  (a.1, if b.2.err = 0 ∧ a.1 + b.1 ≠ 65535 then fail b.2 2 else b.2)
def stored (s : ByteArray) (most : Nat) (r : St) : St := storedLoop s most (storedHead s r).1 (storedHead s r).2

theorem num_err_id {s : ByteArray} {k : Nat} {r : St} (h : r.err ≠ 0) : num s k r = (0, r) := by unfold num; rw [if_neg h]
theorem storedLoop_err {s : ByteArray} {most : Nat} {r : St} (n : Nat) (h : r.err ≠ 0) : storedLoop s most n r = r := by
  induction n with
  | zero => rfl
  | succ n ih =>
    show storedLoop s most n (say most _ (num s 8 r).2) = r
    rw [num_err_id h]
    show storedLoop s most n (say most _ r) = r
    rw [say_err h]; exact ih

/-- The reader at a round of a stored block. -/
structure Sd (wr : World) (B p : Nat) (s : ByteArray) (most : Nat) (rb : St) (va : Option Addr) (w : World) (n : Nat) (r : St) (va' : Option Addr) (vc' : Nat) : Prop where
  rd : Rd wr B p s most r va' vc'
  mv : Mv p w va wr va'
  eq : rb = storedLoop s most n r

set_option maxRecDepth 100000 in
set_option maxHeartbeats 4000000 in
theorem stored_any {B p most : Nat} {s : ByteArray} {r : St} {va : Option Addr} {vc : Nat} (hs : 8 * s.size < 4611686018427387904) (hm : most ≤ 1048576) (w : World) (hB : B ≤ w.heap.size) (H : Rd w B p s most r va vc) :
    Calls Try.prog 18 #[.pointer (some ⟨p, 0, none⟩)] w fun e w' => e = .returned (.tuple #[]) ∧ ∃ va' vc', Rd w' B p s most (stored s most r) va' vc' ∧ Mv p w va w' va' := by
  have c1 := H.c1
  have f1 := H.fr 1
  have hpos := H.pos
  have hb7 := bits_not7 (r.pos + 7) (by omega)
  have R0 : Rd (w.setCell ⟨p, 1, none⟩ (.int .i64 (((r.pos + 7) / 8 * 8 : Nat) : Int))) B p s most (toByte r) va vc := H.setPos _ (by omega)
  obtain ⟨q, hq⟩ : ∃ q, q = (r.pos + 7) / 8 * 8 := ⟨_, rfl⟩
  rw [← hq] at hb7 R0
  rw [show ((r.pos + 7 : Nat) : Int) = (r.pos : Int) + 7 from by omega] at hb7
  have k0 : KeptBut [p] w (w.setCell ⟨p, 1, none⟩ (.int .i64 (q : Int))) := (KeptBut.refl _ _).setCell (by simp) _
  have R0 := Lib.hid R0
  have K0 := Lib.hid k0; clear k0
  have HQ := Lib.hid hq; clear hq
  clear H
  go_enter Try.func18, Try.ntmps18
  go_wp2_with fail
  refine (number_any 16 (by omega) hs _ R0.out).mono ?_
  rintro e w1 ⟨rfl, R1, k1⟩
  obtain ⟨A, hA⟩ : ∃ A, A = num s 16 (toByte r) := ⟨_, rfl⟩
  rw [← hA] at R1 ⊢
  have R1 := Lib.hid R1
  have K1 := Lib.hid (K0.out.trans k1); clear k1
  have HA := Lib.hid hA; clear hA
  go_wp2_with fail
  refine (number_any 16 (by omega) hs _ R1.out).mono ?_
  rintro e w2 ⟨rfl, R2, k2⟩
  obtain ⟨Bn, hBn⟩ : ∃ x, x = num s 16 A.2 := ⟨_, rfl⟩
  rw [← hBn] at R2 ⊢
  have hal : A.1 < 65536 := by rw [HA.out]; exact num_lt s 16 _
  have hbl : Bn.1 < 65536 := by rw [hBn]; exact num_lt s 16 _
  have hhead : storedHead s r = (A.1, if Bn.2.err = 0 ∧ A.1 + Bn.1 ≠ 65535 then fail Bn.2 2 else Bn.2) := by rw [hBn, HA.out]; rfl
  have c4 := R2.c4
  have R2 := Lib.hid R2
  have K2 := Lib.hid (K1.out.trans k2); clear k2
  have HBN := Lib.hid hBn; clear hBn
  have hAI : ((A.1 : Int) + (Bn.1 : Int)) = ((A.1 + Bn.1 : Nat) : Int) := by omega
  have hsto : stored s most r = storedLoop s most (storedHead s r).1 (storedHead s r).2 := rfl
  by_cases he : Bn.2.err = 0
  · have hee : (Bn.2.err == 0) = true := by simp [he]
    by_cases h5 : A.1 + Bn.1 = 65535
    · have hd5 : (((A.1 : Int) + (Bn.1 : Int)) != 65535) = false := by simp; omega
      have hfin : stored s most r = storedLoop s most A.1 Bn.2 := by rw [hsto, hhead, if_neg (by omega)]
      have HFIN := Lib.hid hfin; clear hfin
      clear hsto hhead hAI
      go_wp2_with fail
      go_loopg [2] A.1 (fun g i wr => i = .int .i64 (g : Int) ∧ g ≤ A.1 ∧ ∃ r' va' vc', Hid (Sd wr B p s most (stored s most r) va w g r' va' vc'))
      case atStart => exact ⟨rfl, Nat.le_refl _, Bn.2, va, vc, Lib.hid ⟨R2.out, Mv.of va K2.out, HFIN.out⟩⟩
      case round =>
        obtain ⟨rfl, hga, r', va', vc', C⟩ := hrel
        have c4 := C.out.rd.c4
        by_cases hg0 : gk = 0
        · subst hg0
          have heq : stored s most r = r' := C.out.eq
          have HEQ := Lib.hid heq; clear heq
          go_wp2
          go_end0
          exact ⟨rfl, va', vc', by rw [HEQ.out]; exact C.out.rd, C.out.mv⟩
        · have hd0 : decide ((0 : Int) < (gk : Int)) = true := by simp; omega
          obtain ⟨f, hf⟩ : ∃ f, gk = f + 1 := ⟨gk - 1, by omega⟩
          by_cases he' : r'.err = 0
          · have hee' : (r'.err == 0) = true := by simp [he']
            have hn := number_any 8 (by omega) hs wr C.out.rd
            have heq : stored s most r = storedLoop s most f (say most (UInt8.ofNat (num s 8 r').1) (num s 8 r').2) := by rw [C.out.eq, hf]; rfl
            have hnl : (num s 8 r').1 < 256 := num_lt s 8 r'
            obtain ⟨N, hN⟩ : ∃ N, N = num s 8 r' := ⟨_, rfl⟩
            rw [← hN] at hn heq hnl
            have HN := Lib.hid hn; clear hn
            have HEQ := Lib.hid heq; clear heq
            have HNN := Lib.hid hN; clear hN
            by_cases hne : N.2.err = 0
            · have hnee : (N.2.err == 0) = true := by simp [hne]
              go_wp2_with fail
              refine HN.out.mono ?_
              rintro e w3 ⟨rfl, R3, k3⟩
              have d4 := R3.c4
              have hsay := say_any (UInt8.ofNat N.1) hm w3 (Nat.le_trans hB (Nat.le_trans C.out.mv.kept.size k3.size)) R3
              rw [ofNat_toNat hnl] at hsay
              have HSAY := Lib.hid hsay; clear hsay
              have K3 := Lib.hid k3; clear k3
              have R3 := Lib.hid R3
              go_wp2_with fail
              refine HSAY.out.mono ?_
              rintro e w4 ⟨rfl, va4, vc4, R4, M4⟩
              have R4 := Lib.hid R4
              have M4 := Lib.hid M4
              go_wp2
              go_roundg f
              case measure => omega
              case rel => exact ⟨by go_num, by omega, _, va4, vc4, Lib.hid ⟨R4.out, C.out.mv.trans ((Mv.of va' K3.out).trans M4.out), HEQ.out⟩⟩
            · have hnee : (N.2.err == 0) = false := by simp [hne]
              go_wp2_with fail
              refine HN.out.mono ?_
              rintro e w3 ⟨rfl, R3, k3⟩
              have d4 := R3.c4
              have K3 := Lib.hid k3; clear k3
              have R3 := Lib.hid R3
              go_wp2
              go_roundg f
              case measure => omega
              case rel =>
                refine ⟨by go_num, by omega, N.2, va', vc', Lib.hid ⟨R3.out, C.out.mv.trans (Mv.of va' K3.out), ?_⟩⟩
                rw [HEQ.out, say_err hne]
          · have hee' : (r'.err == 0) = false := by simp [he']
            have heq : stored s most r = r' := C.out.eq.trans (storedLoop_err _ he')
            have HEQ := Lib.hid heq; clear heq
            go_wp2
            go_end0
            exact ⟨rfl, va', vc', by rw [HEQ.out]; exact C.out.rd, C.out.mv⟩
    · have hd5 : (((A.1 : Int) + (Bn.1 : Int)) != 65535) = true := by simp; omega
      have hfin : stored s most r = fail Bn.2 2 := by
        rw [hsto, hhead, if_pos ⟨he, h5⟩]
        exact storedLoop_err _ (fail_err_ne (by decide))
      have HFIN := Lib.hid hfin; clear hfin
      have hfe : (fail Bn.2 2).err ≠ 0 := fail_err_ne (by decide)
      clear hsto hhead hAI
      go_wp2_with fail
      refine (fail_any 2 _ R2.out).mono ?_
      rintro e w3 ⟨rfl, R3, k3⟩
      have c4' := R3.c4
      have R3 := Lib.hid R3
      have K3 := Lib.hid (K2.out.trans k3); clear k3
      have hee3 : ((fail Bn.2 2).err == 0) = false := by simp [hfe]
      obtain ⟨fe, hfe'⟩ : ∃ x, x = (fail Bn.2 2).err := ⟨_, rfl⟩
      rw [← hfe'] at c4' hee3
      clear hfe
      have HFE := Lib.hid hfe'; clear hfe'
      by_cases hs0 : 0 < A.1
      · have hd0 : decide ((0 : Int) < (A.1 : Int)) = true := by simp; omega
        go_wp2_with fail
        go_loopg [2] 1 (fun g i wr => wr = w3 ∧ i = .int .i64 (A.1 : Int))
        case atStart => exact ⟨rfl, rfl⟩
        case round =>
          obtain ⟨rfl, rfl⟩ := hrel
          go_wp2
          go_end0
          exact ⟨rfl, va, vc, by rw [HFIN.out]; exact R3.out, Mv.of va K3.out⟩
      · have hd0 : decide ((0 : Int) < (A.1 : Int)) = false := by simp; omega
        go_wp2_with fail
        go_loopg [2] 1 (fun g i wr => wr = w3 ∧ i = .int .i64 (A.1 : Int))
        case atStart => exact ⟨rfl, rfl⟩
        case round =>
          obtain ⟨rfl, rfl⟩ := hrel
          go_wp2
          go_end0
          exact ⟨rfl, va, vc, by rw [HFIN.out]; exact R3.out, Mv.of va K3.out⟩
  · have hee : (Bn.2.err == 0) = false := by simp [he]
    have hfin : stored s most r = Bn.2 := by
      rw [hsto, hhead, if_neg (fun h => he h.1)]
      exact storedLoop_err _ he
    have HFIN := Lib.hid hfin; clear hfin
    have R3 := R2
    have K3 := K2
    clear hsto hhead hAI
    by_cases hs0 : 0 < A.1
    · have hd0 : decide ((0 : Int) < (A.1 : Int)) = true := by simp; omega
      go_wp2_with fail
      go_loopg [2] 1 (fun g i wr => wr = w2 ∧ i = .int .i64 (A.1 : Int))
      case atStart => exact ⟨rfl, rfl⟩
      case round =>
        obtain ⟨rfl, rfl⟩ := hrel
        go_wp2
        go_end0
        exact ⟨rfl, va, vc, by rw [HFIN.out]; exact R3.out, Mv.of va K3.out⟩
    · have hd0 : decide ((0 : Int) < (A.1 : Int)) = false := by simp; omega
      go_wp2_with fail
      go_loopg [2] 1 (fun g i wr => wr = w2 ∧ i = .int .i64 (A.1 : Int))
      case atStart => exact ⟨rfl, rfl⟩
      case round =>
        obtain ⟨rfl, rfl⟩ := hrel
        go_wp2
        go_end0
        exact ⟨rfl, va, vc, by rw [HFIN.out]; exact R3.out, Mv.of va K3.out⟩
end Go.Proofs.Ytcgcacegkbbmiaa
