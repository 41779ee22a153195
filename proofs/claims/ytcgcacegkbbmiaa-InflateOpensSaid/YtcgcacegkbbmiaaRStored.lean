/- The reference's stored, fixed, Order, again. -/
import Derived.Test.YtcgcacegkbbmiaaRCoded
namespace Go.Proofs.Ytcgcacegkbbmiaa
open Go.RowKit

/-- The reader at a round of a stored block. -/
structure Si (wr : World) (B p : Nat) (s : ByteArray) (most : Nat) (rb : St) (va : Option Addr) (w : World) (n : Nat) (r : St) (va' : Option Addr) (vc' : Nat) : Prop where
  rd : Ri wr B p s most r va' vc'
  mv : Mv p w va wr va'
  eq : rb = storedLoop s most n r

set_option maxRecDepth 100000 in
set_option maxHeartbeats 4000000 in
theorem rstored_any {B p most : Nat} {s : ByteArray} {r : St} {va : Option Addr} {vc : Nat} (hs : 8 * s.size < 4611686018427387904) (hm : most ≤ 1048576) (w : World) (hB : B ≤ w.heap.size) (H : Ri w B p s most r va vc) :
    Calls Try.prog 23 #[.pointer (some ⟨p, 0, none⟩)] w fun e w' => e = .returned (.tuple #[]) ∧ ∃ va' vc', Ri w' B p s most (stored s most r) va' vc' ∧ Mv p w va w' va' := by
  have c1 := H.c1
  have f1 := H.fr 1
  have hpos := H.pos
  have R0 : Ri (w.setCell ⟨p, 1, none⟩ (.int .i64 (((r.pos + 7) / 8 * 8 : Nat) : Int))) B p s most (toByte r) va vc := H.setPos _ (by omega)
  obtain ⟨q, hq⟩ : ∃ q, q = (r.pos + 7) / 8 * 8 := ⟨_, rfl⟩
  rw [← hq] at R0
  have hqI : ((r.pos : Int) + 7) / 8 * 8 = (q : Int) := by omega
  have k0 : KeptBut [p] w (w.setCell ⟨p, 1, none⟩ (.int .i64 (q : Int))) := (KeptBut.refl _ _).setCell (by simp) _
  have R0 := Lib.hid R0
  have K0 := Lib.hid k0; clear k0
  have HQ := Lib.hid hq; clear hq
  clear H
  go_enter Try.func23, Try.ntmps23
  go_wp2_with fail
  refine (bits_any 16 (by omega) hs _ R0.out).mono ?_
  rintro e w1 ⟨rfl, R1, k1⟩
  obtain ⟨A, hA⟩ : ∃ A, A = num s 16 (toByte r) := ⟨_, rfl⟩
  rw [← hA] at R1 ⊢
  have R1 := Lib.hid R1
  have K1 := Lib.hid (K0.out.trans k1); clear k1
  have HA := Lib.hid hA; clear hA
  go_wp2_with fail
  refine (bits_any 16 (by omega) hs _ R1.out).mono ?_
  rintro e w2 ⟨rfl, R2, k2⟩
  obtain ⟨Bn, hBn⟩ : ∃ x, x = num s 16 A.2 := ⟨_, rfl⟩
  rw [← hBn] at R2 ⊢
  have hal : A.1 < 65536 := by rw [HA.out]; exact num_lt s 16 _
  have hbl : Bn.1 < 65536 := by rw [hBn]; exact num_lt s 16 _
  have hhead : storedHead s r = (A.1, if Bn.2.err = 0 ∧ A.1 + Bn.1 ≠ 65535 then fail Bn.2 2 else Bn.2) := by rw [hBn, HA.out]; rfl
  have c2 := R2.c2
  have f2 := R2.fr 2
  have R2 := Lib.hid R2
  have K2 := Lib.hid (K1.out.trans k2); clear k2
  have HBN := Lib.hid hBn; clear hBn
  clear c1 f1 hqI
  have hsto : stored s most r = storedLoop s most (storedHead s r).1 (storedHead s r).2 := rfl
  by_cases he : Bn.2.err = 0
  · have hee : (Bn.2.err == 0) = true := by simp [he]
    by_cases h5 : A.1 + Bn.1 = 65535
    · have hd5 : ((Bn.1 : Int) != 65535 - (A.1 : Int)) = false := by simp; omega
      have hfin : stored s most r = storedLoop s most A.1 Bn.2 := by rw [hsto, hhead, if_neg (by omega)]
      have HFIN := Lib.hid hfin; clear hfin
      clear hsto hhead
      go_wp2_with fail
      go_loopg [4] A.1 (fun g i wr => ∃ (j : Nat) (r' : St) (va' : Option Addr) (vc' : Nat), g = A.1 - j ∧ j ≤ A.1 ∧ i = .int .i64 (j : Int) ∧ Hid (Si wr B p s most (stored s most r) va w (A.1 - j) r' va' vc'))
      case atStart => exact ⟨0, Bn.2, va, vc, rfl, Nat.zero_le _, rfl, Lib.hid ⟨R2.out, Mv.of va K2.out, HFIN.out⟩⟩
      case round =>
        obtain ⟨j, r', va', vc', hgj, hj, rfl, C⟩ := hrel
        have d2 := C.out.rd.c2
        by_cases hlt : j < A.1
        · have hd0 : decide ((j : Int) < (A.1 : Int)) = true := by simp; omega
          by_cases he' : r'.err = 0
          · have hee' : (r'.err == 0) = true := by simp [he']
            have hn := bits_any 8 (by omega) hs wr C.out.rd
            have heq : stored s most r = storedLoop s most (A.1 - (j + 1)) (say most (UInt8.ofNat (num s 8 r').1) (num s 8 r').2) := by
              rw [C.out.eq]
              obtain ⟨f, hf⟩ : ∃ f, A.1 - j = f + 1 := ⟨A.1 - j - 1, by omega⟩
              rw [hf, show A.1 - (j + 1) = f from by omega]; rfl
            have hnl : (num s 8 r').1 < 256 := num_lt s 8 r'
            obtain ⟨N, hN⟩ : ∃ N, N = num s 8 r' := ⟨_, rfl⟩
            rw [← hN] at hn heq hnl
            have HN := Lib.hid hn; clear hn
            have HEQ := Lib.hid heq; clear heq
            have HNN := Lib.hid hN; clear hN
            go_wp2_with fail
            refine HN.out.mono ?_
            rintro e w3 ⟨rfl, R3, k3⟩
            have hsay := rsay_any (UInt8.ofNat N.1) hm w3 (Nat.le_trans hB (Nat.le_trans C.out.mv.kept.size k3.size)) R3
            rw [ofNat_toNat hnl] at hsay
            have HSAY := Lib.hid hsay; clear hsay
            have K3 := Lib.hid k3; clear k3
            clear R3 d2
            go_wp2_with fail
            refine HSAY.out.mono ?_
            rintro e w4 ⟨rfl, va4, vc4, R4, M4⟩
            have R4 := Lib.hid R4
            have M4 := Lib.hid M4
            go_wp2
            go_roundg (A.1 - (j + 1))
            case measure => omega
            case rel => exact ⟨j + 1, _, va4, vc4, rfl, by omega, by go_num, Lib.hid ⟨R4.out, C.out.mv.trans ((Mv.of va' K3.out).trans M4.out), HEQ.out⟩⟩
          · have hee' : (r'.err == 0) = false := by simp [he']
            have heq : stored s most r = r' := C.out.eq.trans (storedLoop_err _ he')
            have HEQ := Lib.hid heq; clear heq
            go_wp2
            go_end0
            exact ⟨rfl, va', vc', by rw [HEQ.out]; exact C.out.rd, C.out.mv⟩
        · obtain rfl : j = A.1 := by omega
          have hd0 : decide ((A.1 : Int) < (A.1 : Int)) = false := by simp
          have heq : stored s most r = r' := by rw [C.out.eq, Nat.sub_self]; rfl
          have HEQ := Lib.hid heq; clear heq
          go_wp2
          go_end0
          exact ⟨rfl, va', vc', by rw [HEQ.out]; exact C.out.rd, C.out.mv⟩
    · have hd5 : ((Bn.1 : Int) != 65535 - (A.1 : Int)) = true := by simp; omega
      have hfl : fail Bn.2 2 = { Bn.2 with err := 2 } := by unfold fail; rw [if_pos he]
      have hfin : stored s most r = { Bn.2 with err := 2 } := by
        rw [hsto, hhead, if_pos ⟨he, h5⟩, hfl]
        exact storedLoop_err _ (show (2 : Int) ≠ 0 by decide)
      have HFIN := Lib.hid hfin; clear hfin hfl
      clear hsto hhead
      have R4 := R2.out.setErr 2
      have d2 := R4.c2
      obtain ⟨w4, hw4⟩ : ∃ w4, w4 = w2.setCell ⟨p, 2, none⟩ (.int .i64 2) := ⟨_, rfl⟩
      have K4 : KeptBut [p] w w4 := by rw [hw4]; exact K2.out.setCell (by simp) _
      rw [← hw4] at R4 d2
      have HW4 := Lib.hid hw4; clear hw4
      have K4 := Lib.hid K4
      have R4 := Lib.hid R4
      go_wp2_with fail
      rw [← HW4.out]
      go_loopg [4] 1 (fun g i wr => wr = w4 ∧ i = .int .i64 0)
      case atStart => exact ⟨rfl, rfl⟩
      case round =>
        obtain ⟨rfl, rfl⟩ := hrel
        by_cases hA0 : 0 < A.1
        · have hd0 : decide ((0 : Int) < (A.1 : Int)) = true := by simp; omega
          go_wp2
          go_end0
          exact ⟨rfl, va, vc, by rw [HFIN.out]; exact R4.out, Mv.of va K4.out⟩
        · have hd0 : decide ((0 : Int) < (A.1 : Int)) = false := by simp; omega
          go_wp2
          go_end0
          exact ⟨rfl, va, vc, by rw [HFIN.out]; exact R4.out, Mv.of va K4.out⟩
  · have hee : (Bn.2.err == 0) = false := by simp [he]
    have hfin : stored s most r = Bn.2 := by
      rw [hsto, hhead, if_neg (fun h => he h.1)]
      exact storedLoop_err _ he
    have HFIN := Lib.hid hfin; clear hfin
    clear hsto hhead
    go_wp2_with fail
    go_loopg [4] 1 (fun g i wr => wr = w2 ∧ i = .int .i64 0)
    case atStart => exact ⟨rfl, rfl⟩
    case round =>
      obtain ⟨rfl, rfl⟩ := hrel
      by_cases hA0 : 0 < A.1
      · have hd0 : decide ((0 : Int) < (A.1 : Int)) = true := by simp; omega
        go_wp2
        go_end0
        exact ⟨rfl, va, vc, by rw [HFIN.out]; exact R2.out, Mv.of va K2.out⟩
      · have hd0 : decide ((0 : Int) < (A.1 : Int)) = false := by simp; omega
        go_wp2
        go_end0
        exact ⟨rfl, va, vc, by rw [HFIN.out]; exact R2.out, Mv.of va K2.out⟩
end Go.Proofs.Ytcgcacegkbbmiaa
