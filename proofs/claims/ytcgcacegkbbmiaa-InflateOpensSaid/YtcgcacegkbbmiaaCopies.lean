/- What copies of package inflate does. -/
import Derived.Test.YtcgcacegkbbmiaaSym
namespace Go.Proofs.Ytcgcacegkbbmiaa
open Go.RowKit Go.Maps


theorem num_err {s : ByteArray} {k : Nat} {r : St} (h : (num s k r).2.err = 0) : r.err = 0 := by
  unfold num at h
  by_cases he : r.err = 0
  · exact he
  · rw [if_neg he] at h; exact h
theorem num_out (s : ByteArray) (k : Nat) (r : St) : (num s k r).2.out = r.out := by
  unfold num; split <;> try split
  all_goals rfl
theorem num_lt (s : ByteArray) (k : Nat) (r : St) : (num s k r).1 < 2 ^ k := by
  have := val_lt s r.pos k
  have hp := Nat.two_pow_pos k
  unfold num; split <;> try split
  · exact this
  · exact hp
  · exact hp
theorem sym_err {s : ByteArray} {L : List Nat} {r : St} (h : (sym s L r).2.err = 0) : r.err = 0 := by
  unfold sym at h
  by_cases he : r.err = 0
  · exact he
  · rw [if_neg he] at h; exact h
theorem sym_out (s : ByteArray) (L : List Nat) (r : St) : (sym s L r).2.out = r.out := by
  unfold sym
  by_cases he : r.err = 0
  · rw [if_pos he]; cases next s L 15 0 0 r.pos <;> rfl
  · rw [if_neg he]
theorem sym_lt (s : ByteArray) (L : List Nat) (r : St) (hL : 0 < L.length) : (sym s L r).1 < L.length := by
  unfold sym
  by_cases he : r.err = 0
  · rw [if_pos he]
    cases h : next s L 15 0 0 r.pos with
    | none => exact hL
    | some x => exact (next_le (j := x.2) (x := x.1) h).2.2
  · rw [if_neg he]; exact hL

theorem lengthP_ext (n : Int) : (lengthP n).2.1 ≤ 16 := by
  unfold lengthP
  split
  · simp
  · split
    · exact ext_le (by omega) (by omega)
    · simp
theorem lengthP_base (n : Int) : (lengthP n).1 ≤ 2000000 := by
  unfold lengthP
  split
  · simp
  · split
    · have := base_le (least := 3) (flat := 8) (group := 4) (by omega) (n - 257).toNat (by omega)
      show base 3 8 4 (n - 257).toNat ≤ _
      omega
    · simp
theorem distP_ext (n : Int) : (distP n).2.1 ≤ 16 := by
  unfold distP
  split
  · exact ext_le (by omega) (by omega)
  · simp
theorem base_pos {least flat group n : Nat} (h : 1 ≤ least) : 1 ≤ base least flat group n := by
  induction n with
  | zero => exact h
  | succ n ih => exact Nat.le_trans ih (Nat.le_add_right _ _)
theorem distP_base (n : Int) : (distP n).1 ≤ 2000000 ∧ ((distP n).2.2 = true → 1 ≤ (distP n).1) := by
  unfold distP
  split
  · refine ⟨?_, fun _ => base_pos (by omega)⟩
    have := base_le (least := 1) (flat := 4) (group := 2) (by omega) n.toNat (by omega)
    show base 1 4 2 n.toNat ≤ _
    omega
  · simp

/-- So many bytes more, each so far back. -/
def copyLoop (most back : Nat) : Nat → St → St
  | 0, r => r
  | n + 1, r => copyLoop most back n (say most (r.out.getD (r.out.length - back) 0) r)
theorem say_err {most : Nat} {b : UInt8} {r : St} (h : r.err ≠ 0) : say most b r = r := by unfold say; rw [if_neg h]
theorem copyLoop_err {most back : Nat} {r : St} (n : Nat) (h : r.err ≠ 0) : copyLoop most back n r = r := by
  induction n with
  | zero => rfl
  | succ n ih => show copyLoop most back n (say _ _ r) = r; rw [say_err h]; exact ih
def tooFar (back : Nat) (r : St) : St := if r.out.length < back then fail r 2 else r
def copies (s : ByteArray) (most : Nat) (Ld : List Nat) (n : Int) (r : St) : St :=
  if (lengthP n).2.2 = true then
    let a := num s (lengthP n).2.1 r
    let k := sym s Ld a.2
    if (distP (k.1 : Int)).2.2 = true then
      let b := num s (distP (k.1 : Int)).2.1 k.2
      copyLoop most ((distP (k.1 : Int)).1 + b.1) ((lengthP n).1 + a.1) (tooFar ((distP (k.1 : Int)).1 + b.1) b.2)
    else fail k.2 2
  else fail r 2

theorem Rd.byte {w : World} {B p most : Nat} {s : ByteArray} {r : St} {va : Option Addr} {vc : Nat} (h : Rd w B p s most r va vc) {i : Nat} (hi : i < r.out.length) :
    ∃ g, va = some ⟨g, 0, none⟩ ∧ r.out.length ≤ vc ∧ w.cell? ⟨g, i, none⟩ = some (.int .u8 ((r.out.getD i 0).toNat : Int)) := by
  rcases h.own.2 with ⟨_, h0⟩ | ⟨g, cap, cur, hv, hb, hg, hc, _⟩
  · omega
  · simp at hv
    obtain ⟨rfl, rfl⟩ := hv
    refine ⟨g, rfl, hc, ?_⟩
    have := h.own.cells (g := g) rfl i (.int .u8 ((r.out.getD i 0).toNat : Int)) (by
      unfold bytes
      rw [List.getElem?_map, List.getD_eq_getElem?_getD, List.getElem?_eq_getElem hi]; rfl)
    have hadd : (⟨g, 0, none⟩ : Addr).add i = ⟨g, i, none⟩ := by unfold Addr.add; split <;> simp_all
    rwa [hadd] at this
theorem say_len {most : Nat} {b : UInt8} {r : St} (h : (say most b r).err = 0) : r.err = 0 ∧ (say most b r).out = r.out ++ [b] := by
  unfold say at h ⊢
  by_cases he : r.err = 0
  · rw [if_pos he] at h ⊢
    by_cases hl : r.out.length = most
    · rw [if_pos hl] at h; cases h
    · rw [if_neg hl]; exact ⟨he, rfl⟩
  · rw [if_neg he] at h; exact absurd h he

/-- The reader at a round of the copying. -/
structure Cp (wr : World) (B p : Nat) (s : ByteArray) (most back size : Nat) (r4 : St) (va : Option Addr) (w : World) (n : Nat) (r : St) (va' : Option Addr) (vc' : Nat) : Prop where
  rd : Rd wr B p s most r va' vc'
  mv : Mv p w va wr va'
  eq : copyLoop most back size r4 = copyLoop most back n r
  back : r.err = 0 → 1 ≤ back ∧ back ≤ r.out.length

set_option maxRecDepth 100000 in
set_option maxHeartbeats 4000000 in
theorem copies_any {B p most : Nat} {s : ByteArray} {r : St} {va : Option Addr} {vc : Nat} (n : Int) (a : Option Addr) (Ld : List Nat) (hs : 8 * s.size < 4611686018427387904) (hm : most ≤ 1048576) (w : World) (hB : B ≤ w.heap.size) (H : Rd w B p s most r va vc)
    (hC : r.err = 0 → ∃ c m, a = some ⟨c, 0, none⟩ ∧ Code w c m Ld ∧ c ≠ p ∧ m ≠ p) :
    Calls Try.prog 42 #[.pointer (some ⟨p, 0, none⟩), .int .i64 n, .pointer a] w fun e w' => e = .returned (.tuple #[]) ∧ ∃ va' vc', Rd w' B p s most (copies s most Ld n r) va' vc' ∧ Mv p w va w' va' := by
  by_cases hok : (lengthP n).2.2 = true
  · have hl := length_any n w
    have hx := lengthP_ext n
    have hbs := lengthP_base n
    have hcp : copies s most Ld n r = (if (distP ((sym s Ld (num s (lengthP n).2.1 r).2).1 : Int)).2.2 = true then
        copyLoop most ((distP ((sym s Ld (num s (lengthP n).2.1 r).2).1 : Int)).1 + (num s (distP ((sym s Ld (num s (lengthP n).2.1 r).2).1 : Int)).2.1 (sym s Ld (num s (lengthP n).2.1 r).2).2).1) ((lengthP n).1 + (num s (lengthP n).2.1 r).1)
          (tooFar ((distP ((sym s Ld (num s (lengthP n).2.1 r).2).1 : Int)).1 + (num s (distP ((sym s Ld (num s (lengthP n).2.1 r).2).1 : Int)).2.1 (sym s Ld (num s (lengthP n).2.1 r).2).2).1) (num s (distP ((sym s Ld (num s (lengthP n).2.1 r).2).1 : Int)).2.1 (sym s Ld (num s (lengthP n).2.1 r).2).2).2)
        else fail (sym s Ld (num s (lengthP n).2.1 r).2).2 2) := by unfold copies; rw [if_pos hok]
    rw [hok] at hl
    obtain ⟨size0, hsize0⟩ : ∃ x, x = (lengthP n).1 := ⟨_, rfl⟩
    obtain ⟨ex0, hex0⟩ : ∃ x, x = (lengthP n).2.1 := ⟨_, rfl⟩
    rw [← hsize0] at hl hbs
    rw [← hex0] at hl hx
    rw [← hsize0, ← hex0] at hcp
    obtain ⟨A, hA⟩ : ∃ x, x = num s ex0 r := ⟨_, rfl⟩
    rw [← hA] at hcp
    obtain ⟨K, hK⟩ : ∃ x, x = sym s Ld A.2 := ⟨_, rfl⟩
    rw [← hK] at hcp
    have hn1 := number_any ex0 (by omega) hs w H
    rw [← hA] at hn1
    have hAl : A.1 < 65536 := by rw [hA]; exact Nat.lt_of_lt_of_le (num_lt s ex0 r) (Nat.pow_le_pow_right (by decide) hx)
    have hAe : A.2.err = 0 → r.err = 0 := by rw [hA]; exact num_err
    have hAo : A.2.out = r.out := by rw [hA]; exact num_out _ _ _
    have hKe : K.2.err = 0 → A.2.err = 0 := by rw [hK]; exact sym_err
    have HL := Lib.hid hl; clear hl
    have HN1 := Lib.hid hn1; clear hn1
    have HK := Lib.hid hK; clear hK
    have HA := Lib.hid hA; clear hA
    have HC0 := Lib.hid hC; clear hC
    have HCP := Lib.hid hcp; clear hcp
    have h1 := Lib.hid hsize0; clear hsize0
    have h2 := Lib.hid hex0; clear hex0
    have HAE := Lib.hid hAe; clear hAe
    have HKE := Lib.hid hKe; clear hKe
    clear hok hAo
    go_enter Try.func42, Try.ntmps42
    go_wp2_with fail
    refine HL.out.mono ?_
    rintro e w' ⟨rfl, rfl⟩
    go_wp2_with fail
    refine HN1.out.mono ?_
    rintro e w1 ⟨rfl, R1, k1⟩
    have hCs : A.2.err = 0 → ∃ c m, a = some ⟨c, 0, none⟩ ∧ Code w1 c m Ld := fun h => by
      obtain ⟨c, m, e, hc, h3, h4⟩ := HC0.out (HAE.out h)
      exact ⟨c, m, e, hc.kept (k1.block c (Array.getElem?_eq_some_iff.1 hc.hc).1 (by simpa using h3)) (k1.block m hc.tab.lt (by simpa using h4))⟩
    have hs2 := symbol_any a Ld hs w1 R1 hCs
    rw [← HK.out] at hs2
    have HS2 := Lib.hid hs2; clear hs2 hCs
    have k1 := Lib.hid k1
    go_wp2_with fail
    refine HS2.out.mono ?_
    rintro e w2 ⟨rfl, R2, k2⟩
    have K2 := Lib.hid (k1.out.trans k2); clear k2
    have hdi := dist_any (K.1 : Int) w2
    have hdx := distP_ext (K.1 : Int)
    have hdb := distP_base (K.1 : Int)
    obtain ⟨D, hD⟩ : ∃ x, x = distP (K.1 : Int) := ⟨_, rfl⟩
    rw [← hD] at hdi hdx hdb
    have hcp := HCP.out
    rw [← hD] at hcp
    have HD := Lib.hid hD; clear hD
    by_cases hok2 : D.2.2 = true
    · rw [hok2] at hdi
      rw [if_pos hok2] at hcp
      obtain ⟨Bn, hBn⟩ : ∃ x, x = num s D.2.1 K.2 := ⟨_, rfl⟩
      rw [← hBn] at hcp
      have hn3 := number_any D.2.1 (by omega) hs w2 R2
      rw [← hBn] at hn3
      have hBl : Bn.1 < 65536 := by rw [hBn]; exact Nat.lt_of_lt_of_le (num_lt s D.2.1 K.2) (Nat.pow_le_pow_right (by decide) hdx)
      have hb1 := hdb.2 hok2
      have hb2 := hdb.1
      have HDI := Lib.hid hdi; clear hdi
      have HN3 := Lib.hid hn3; clear hn3
      have HBN := Lib.hid hBn; clear hBn
      have HCP2 := Lib.hid hcp; clear hcp
      obtain ⟨d1, hd1⟩ : ∃ d, d = D.1 := ⟨_, rfl⟩
      rw [← hd1] at hb1 hb2
      clear hdb hok2
      go_wp2_with fail
      refine HDI.out.mono ?_
      rintro e w' ⟨rfl, rfl⟩
      go_wp2_with fail
      refine HN3.out.mono ?_
      rintro e w3 ⟨rfl, R3, k3⟩
      have K3 := Lib.hid (K2.out.trans k3); clear k3
      have c2 := R3.c2
      rw [← hd1]
      obtain ⟨bk, hbk⟩ : ∃ x, x = d1 + Bn.1 := ⟨_, rfl⟩
      have hbI : ((d1 : Int) + (Bn.1 : Int)) = (bk : Int) := by omega
      obtain ⟨sz, hsz⟩ : ∃ x, x = size0 + A.1 := ⟨_, rfl⟩
      have hsI : ((size0 : Int) + (A.1 : Int)) = (sz : Int) := by omega
      have hszl : sz < 4000000 := by omega
      have hfin : copies s most Ld n r = copyLoop most bk sz (tooFar bk Bn.2) := by
        rw [hbk, hsz, hd1]; exact HCP2.out
      have hol := R3.fits
      rw [hsI]
      have c4 := R3.c4
      have HBK := Lib.hid hbk; clear hbk
      have HSZ := Lib.hid hsz; clear hsz
      have hd1' := Lib.hid hd1; clear hd1
      by_cases hfar : Bn.2.out.length < bk
      · have hdf : decide ((Bn.2.out.length : Int) < (bk : Int)) = true := by simp; omega
        have htf : tooFar bk Bn.2 = fail Bn.2 2 := by unfold tooFar; rw [if_pos hfar]
        have hfe : (fail Bn.2 2).err ≠ 0 := by
          unfold fail
          by_cases h : Bn.2.err = 0
          · rw [if_pos h]; simp
          · rw [if_neg h]; exact h
        rw [htf, copyLoop_err _ hfe] at hfin
        have HFIN := Lib.hid hfin; clear hfin
        have R3 := Lib.hid R3
        clear htf hsI
        go_wp2_with fail
        refine (fail_any 2 _ R3.out).mono ?_
        rintro e w4 ⟨rfl, R4, k4⟩
        have c4' := R4.c4
        have R4 := Lib.hid R4
        have K4 := Lib.hid (K3.out.trans k4); clear k4
        have hee : ((fail Bn.2 2).err == 0) = false := by simp [hfe]
        obtain ⟨fe, hfe'⟩ : ∃ x, x = (fail Bn.2 2).err := ⟨_, rfl⟩
        rw [← hfe'] at c4' hee
        clear hfe
        have hfe' := Lib.hid hfe'
        by_cases hs0 : 0 < sz
        · have hd0 : decide ((0 : Int) < (sz : Int)) = true := by simp; omega
          go_wp2_with fail
          go_loopg [6] 1 (fun g i wr => wr = w4 ∧ i = .int .i64 (sz : Int))
          case atStart => exact ⟨rfl, rfl⟩
          case round =>
            obtain ⟨rfl, rfl⟩ := hrel
            go_wp2
            go_end0
            exact ⟨rfl, va, vc, by rw [HFIN.out]; exact R4.out, Mv.of va K4.out⟩
        · have hd0 : decide ((0 : Int) < (sz : Int)) = false := by simp; omega
          go_wp2_with fail
          go_loopg [6] 1 (fun g i wr => wr = w4 ∧ i = .int .i64 (sz : Int))
          case atStart => exact ⟨rfl, rfl⟩
          case round =>
            obtain ⟨rfl, rfl⟩ := hrel
            go_wp2
            go_end0
            exact ⟨rfl, va, vc, by rw [HFIN.out]; exact R4.out, Mv.of va K4.out⟩
      · have hdf : decide ((Bn.2.out.length : Int) < (bk : Int)) = false := by simp; omega
        have htf : tooFar bk Bn.2 = Bn.2 := by unfold tooFar; rw [if_neg hfar]
        rw [htf] at hfin
        have HFIN := Lib.hid hfin; clear hfin
        have R3 := Lib.hid R3
        have hB3 : B ≤ w3.heap.size := Nat.le_trans hB K3.out.size
        have hbk1 : 1 ≤ bk := by have := HBK.out; omega
        clear htf hsI hol
        go_wp2_with fail
        go_loopg [6] sz (fun g i wr => i = .int .i64 (g : Int) ∧ g ≤ sz ∧ ∃ r' va' vc', Hid (Cp wr B p s most bk sz Bn.2 va w g r' va' vc'))
        case atStart => exact ⟨rfl, Nat.le_refl _, Bn.2, va, vc, Lib.hid ⟨R3.out, Mv.of va K3.out, rfl, fun _ => ⟨hbk1, by omega⟩⟩⟩
        case round =>
          obtain ⟨rfl, hgs, r', va', vc', C⟩ := hrel
          have c4 := C.out.rd.c4
          by_cases hg0 : gk = 0
          · subst hg0
            have heq : copyLoop most bk sz Bn.2 = r' := C.out.eq
            have HEQ := Lib.hid heq; clear heq
            go_wp2
            go_end0
            exact ⟨rfl, va', vc', by rw [HFIN.out, HEQ.out]; exact C.out.rd, C.out.mv⟩
          · have hd0 : decide ((0 : Int) < (gk : Int)) = true := by simp; omega
            by_cases he : r'.err = 0
            · have hee : (r'.err == 0) = true := by simp [he]
              obtain ⟨_, hback⟩ := C.out.back he
              have hix : r'.out.length - bk < r'.out.length := by omega
              obtain ⟨g, rfl, hcap, hcell⟩ := C.out.rd.byte hix
              have c2 := C.out.rd.c2
              have hof := C.out.rd.fits
              have hsay := say_any (r'.out.getD (r'.out.length - bk) 0) hm wr.drew (Nat.le_trans hB C.out.mv.kept.size) (C.out.rd.drewN 1)
              obtain ⟨bb, hbb⟩ : ∃ b, b = r'.out.getD (r'.out.length - bk) 0 := ⟨_, rfl⟩
              obtain ⟨r1, hr1⟩ : ∃ x, x = say most bb r' := ⟨_, rfl⟩
              have heq : copyLoop most bk sz Bn.2 = copyLoop most bk (gk - 1) r1 := by
                rw [C.out.eq]
                obtain ⟨q, rfl⟩ : ∃ q, gk = q + 1 := ⟨gk - 1, by omega⟩
                rw [hr1, hbb]; rfl
              have hlen : r1.err = 0 → r1.out.length = r'.out.length + 1 := fun h => by
                have := (say_len (by rw [← hr1]; exact h)).2
                rw [hr1, this]; simp
              rw [← hbb] at hsay hcell
              rw [← hr1] at hsay
              obtain ⟨len, hlen'⟩ : ∃ l, l = r'.out.length := ⟨_, rfl⟩
              rw [← hlen'] at c2 hcell hcap hix hback hof hlen
              have HEQ := Lib.hid heq; clear heq
              have HR1 := Lib.hid hr1; clear hr1
              have HBB := Lib.hid hbb; clear hbb
              have HLEN := Lib.hid hlen; clear hlen
              have HLEN' := Lib.hid hlen'; clear hlen'
              by_cases hr1e : r1.err = 0
              · have hdk : decide (r1.err = 0) = true := by simp [hr1e]
                rw [hdk] at hsay
                have HSAY := Lib.hid hsay; clear hsay hdk
                go_wp2_with fail
                have i0 : (0 : Int) ≤ (len : Int) - (bk : Int) := by omega
                have i1 : (len : Int) - (bk : Int) < (len : Int) := by omega
                have i2 : ((len : Int) - (bk : Int)).toNat = len - bk := by omega
                have i3 : IntKind.i64.wrap ((len : Int) - (bk : Int)) = (len : Int) - (bk : Int) := by rw [IntKind.wrap_i64]; omega
                go_region_with (go_at_call 28; refine HSAY.out.mono ?_; rintro e w5 ⟨rfl, va5, vc5, R5, M5⟩)
                all_goals
                  go_wp2
                  go_roundg (gk - 1)
                  case measure => omega
                  case rel =>
                    refine ⟨by go_num, by omega, r1, va5, vc5, Lib.hid ⟨R5, ?_, HEQ.out, fun h => ⟨hbk1, by have := HLEN.out h; omega⟩⟩⟩
                    exact (C.out.mv.drewN 1).trans M5
              · have hdk : decide (r1.err = 0) = false := by simp [hr1e]
                rw [hdk] at hsay
                have HSAY := Lib.hid hsay; clear hsay hdk
                have i0 : (0 : Int) ≤ (len : Int) - (bk : Int) := by omega
                have i1 : (len : Int) - (bk : Int) < (len : Int) := by omega
                have i2 : ((len : Int) - (bk : Int)).toNat = len - bk := by omega
                have i3 : IntKind.i64.wrap ((len : Int) - (bk : Int)) = (len : Int) - (bk : Int) := by rw [IntKind.wrap_i64]; omega
                have heq2 : copyLoop most bk sz Bn.2 = r1 := HEQ.out.trans (copyLoop_err _ hr1e)
                have HEQ2 := Lib.hid heq2; clear heq2
                go_wp2_with fail
                go_region_with (go_at_call 28; refine HSAY.out.mono ?_; rintro e w5 ⟨rfl, va5, vc5, R5, M5⟩)
                all_goals
                  go_wp2
                  ((try simp only [Exit.inBlock, Exit.then]); refine bodyPost_ret (results_none rfl _ _ _) rfl ?_)
                  exact ⟨rfl, va5, vc5, by rw [HFIN.out, HEQ2.out]; exact R5, (C.out.mv.drewN 1).trans M5⟩
            · have hee : (r'.err == 0) = false := by simp [he]
              have heq : copyLoop most bk sz Bn.2 = r' := C.out.eq.trans (copyLoop_err _ he)
              have HEQ := Lib.hid heq; clear heq
              clear he
              go_wp2
              go_end0
              exact ⟨rfl, va', vc', by rw [HFIN.out, HEQ.out]; exact C.out.rd, C.out.mv⟩
    · have hokf : D.2.2 = false := by simpa using hok2
      rw [hokf] at hdi
      rw [if_neg hok2] at hcp
      have HDI := Lib.hid hdi; clear hdi
      have HCP2 := Lib.hid hcp; clear hcp
      have R2 := Lib.hid R2
      go_wp2_with fail
      refine HDI.out.mono ?_
      rintro e w' ⟨rfl, rfl⟩
      go_wp2_with fail
      refine (fail_any 2 _ R2.out).mono ?_
      rintro e w4 ⟨rfl, R4, k4⟩
      have R4 := Lib.hid R4
      have K4 := Lib.hid (K2.out.trans k4); clear k4
      go_wp2
      ((try simp only [Exit.inBlock, Exit.then]); refine bodyPost_ret (results_none rfl _ _ _) rfl ?_)
      exact ⟨rfl, va, vc, by rw [HCP2.out]; exact R4.out, Mv.of va K4.out⟩
  · have hl := length_any n w
    have hokf : (lengthP n).2.2 = false := by simpa using hok
    have hcp : copies s most Ld n r = fail r 2 := by unfold copies; rw [if_neg hok]
    rw [hokf] at hl
    rw [hcp]
    have HL := Lib.hid hl; clear hl
    have HH := Lib.hid H; clear H
    clear hok hokf hcp hC
    go_enter Try.func42, Try.ntmps42
    go_wp2_with fail
    refine HL.out.mono ?_
    rintro e w' ⟨rfl, rfl⟩
    go_wp2_with fail
    refine (fail_any 2 _ HH.out).mono ?_
    rintro e w4 ⟨rfl, R4, k4⟩
    have R4 := Lib.hid R4
    have K4 := Lib.hid k4; clear k4
    go_wp2
    ((try simp only [Exit.inBlock, Exit.then]); refine bodyPost_ret (results_none rfl _ _ _) rfl ?_)
    exact ⟨rfl, va, vc, R4.out, Mv.of va K4.out⟩
end Go.Proofs.Ytcgcacegkbbmiaa
