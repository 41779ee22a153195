/- The reference's copied. -/
import Derived.Test.YtcgcacegkbbmiaaRSym
namespace Go.Proofs.Ytcgcacegkbbmiaa
open Go.RowKit

theorem Ri.byte {w : World} {B p most : Nat} {s : ByteArray} {r : St} {va : Option Addr} {vc : Nat} (h : Ri w B p s most r va vc) {i : Nat} (hi : i < r.out.length) :
    ∃ g, va = some ⟨g, 0, none⟩ ∧ r.out.length ≤ vc ∧ w.cell? ⟨g, i, none⟩ = some (.int .u8 ((r.out.getD i 0).toNat : Int)) := by
  have h2 : ∃ g, va = some ⟨g, 0, none⟩ ∧ r.out.length ≤ vc ∧ ∃ cur, w.heap[g]? = some (.cells cur 5) ∧ cur.toList.take (r.out.length * 1) = bytes r.out := by
    rcases h.own.2 with ⟨_, h0⟩ | ⟨g, cap, cur, hv, hb, hg, hc, _, _, hx⟩
    · omega
    · simp at hv
      obtain ⟨rfl, rfl⟩ := hv
      exact ⟨g, rfl, hc, cur, hg, hx⟩
  obtain ⟨g, e, hc, cur, hg, hx⟩ := h2
  refine ⟨g, e, hc, ?_⟩
  rw [cell_at hg]
  have := bytes_get hi
  rw [← hx, List.getElem?_take, if_pos (by omega)] at this
  rw [← Array.getElem?_toList, this, List.getD_eq_getElem?_getD, List.getElem?_eq_getElem hi]; rfl
/-- The reader at a round of what is copied. -/
structure Ci (wr : World) (B p : Nat) (s : ByteArray) (most back size : Nat) (r4 : St) (va : Option Addr) (w : World) (n : Nat) (r : St) (va' : Option Addr) (vc' : Nat) : Prop where
  rd : Ri wr B p s most r va' vc'
  mv : Mv p w va wr va'
  eq : copyLoop most back size r4 = copyLoop most back n r
  back : r.err = 0 → 1 ≤ back ∧ back ≤ r.out.length
theorem num_two {s : ByteArray} {k : Nat} {r : St} (h : r.err = 0) : (num s k r).2.err = 0 ∨ (num s k r).2.err = 2 := by
  unfold num
  rw [if_pos h]
  split
  · exact .inl h
  · exact .inr rfl
theorem sym_two {s : ByteArray} {L : List Nat} {r : St} (h : r.err = 0) : (sym s L r).2.err = 0 ∨ (sym s L r).2.err = 2 := by
  unfold sym
  rw [if_pos h]
  split
  · exact .inl h
  · exact .inr rfl
theorem sym_err_id {s : ByteArray} {L : List Nat} {r : St} (h : r.err ≠ 0) : sym s L r = (0, r) := by unfold sym; rw [if_neg h]
theorem distP_zero : (distP ((0 : Nat) : Int)).2.2 = true := by decide
theorem tooFar_err {b : Nat} {r : St} (h : r.err ≠ 0) : tooFar b r = r := by
  unfold tooFar
  split
  · unfold fail; rw [if_neg h]
  · rfl
theorem st_eta (r : St) {e : Int} (h : r.err = e) : ({ r with err := e } : St) = r := by cases r; subst h; rfl

set_option maxRecDepth 100000 in
set_option maxHeartbeats 4000000 in
theorem copied_any {B p most : Nat} {s : ByteArray} {r : St} {va : Option Addr} {vc : Nat} (n : Int) (x y : Sl) (Ld : List Nat) (hL : Ld.length ≤ 300) (hs : 8 * s.size < 4611686018427387904) (hm : most ≤ 1048576) (w : World) (hB : B ≤ w.heap.size) (H : Ri w B p s most r va vc) (he : r.err = 0)
    (hC : ∃ a b, Cr w x y Ld a b ∧ a ≠ p ∧ b ≠ p) :
    Calls Try.prog 37 #[.pointer (some ⟨p, 0, none⟩), .int .i64 n, .agg #[.slice x.a x.n x.c, .slice y.a y.n y.c]] w fun e w' => e = .returned (.tuple #[]) ∧ ∃ va' vc', Ri w' B p s most (copies s most Ld n r) va' vc' ∧ Mv p w va w' va' := by
  have hpl := H.lt
  obtain ⟨q, hq⟩ : ∃ q, q = w.heap.size := ⟨_, rfl⟩
  obtain ⟨W, hW⟩ : ∃ W, W = w.alloc (.cells #[.slice x.a x.n x.c, .slice y.a y.n y.c] 65) := ⟨_, rfl⟩
  have kW : KeptBut [p] w W := by rw [hW]; exact (KeptBut.refl _ _).alloc _
  have HW0 : Ri W B p s most r va vc := by rw [hW]; exact H.kept (S := []) ((KeptBut.refl _ _).alloc _) (by simp) (by simp)
  have cW : W.heap[q]? = some (.cells #[.slice x.a x.n x.c, .slice y.a y.n y.c] 65) := by rw [hW, hq]; exact heap_alloc_new _ _
  have hl := rlength_any n W
  have hx := lengthP_ext n
  have hbs := lengthP_base n
  have HW := Lib.hid hW
  have kW := Lib.hid kW
  by_cases hok : (lengthP n).2.2 = true
  · have hcp : copies s most Ld n r = (if (distP ((sym s Ld (num s (lengthP n).2.1 r).2).1 : Int)).2.2 = true then
        copyLoop most ((distP ((sym s Ld (num s (lengthP n).2.1 r).2).1 : Int)).1 + (num s (distP ((sym s Ld (num s (lengthP n).2.1 r).2).1 : Int)).2.1 (sym s Ld (num s (lengthP n).2.1 r).2).2).1) ((lengthP n).1 + (num s (lengthP n).2.1 r).1)
          (tooFar ((distP ((sym s Ld (num s (lengthP n).2.1 r).2).1 : Int)).1 + (num s (distP ((sym s Ld (num s (lengthP n).2.1 r).2).1 : Int)).2.1 (sym s Ld (num s (lengthP n).2.1 r).2).2).1) (num s (distP ((sym s Ld (num s (lengthP n).2.1 r).2).1 : Int)).2.1 (sym s Ld (num s (lengthP n).2.1 r).2).2).2)
        else fail (sym s Ld (num s (lengthP n).2.1 r).2).2 2) := by unfold copies; rw [if_pos hok]
    rw [hok] at hl
    obtain ⟨size0, hsize0⟩ : ∃ x, x = (lengthP n).1 := ⟨_, rfl⟩
    obtain ⟨ex0, hex0⟩ : ∃ x, x = (lengthP n).2.1 := ⟨_, rfl⟩
    rw [← hsize0] at hl hbs
    rw [← hex0] at hl hx
    rw [← hsize0, ← hex0] at hcp
    have hA2 := num_two (s := s) (k := ex0) he
    obtain ⟨A, hA⟩ : ∃ x, x = num s ex0 r := ⟨_, rfl⟩
    rw [← hA] at hcp hA2
    obtain ⟨K, hK⟩ : ∃ x, x = sym s Ld A.2 := ⟨_, rfl⟩
    rw [← hK] at hcp
    have hn1 := bits_any ex0 (by omega) hs W HW0
    rw [← hA] at hn1
    have hAl : A.1 < 65536 := by rw [hA]; exact Nat.lt_of_lt_of_le (num_lt s ex0 r) (Nat.pow_le_pow_right (by decide) hx)
    have hKe : K.2.err = 0 → A.2.err = 0 := by rw [hK]; exact sym_err
    have hK2 : K.2.err = 0 ∨ K.2.err = 2 := by
      rcases hA2 with h | h
      · rw [hK]; exact sym_two h
      · right; rw [hK, sym_err_id (by rw [h]; decide)]; exact h
    have hK0 : K.2.err ≠ 0 → copies s most Ld n r = K.2 := fun hne => by
      have hk1 : K.1 = 0 := by
        rw [hK]
        by_cases h : A.2.err = 0
        · have h2 : (sym s Ld A.2).2.err ≠ 0 := by rw [← hK]; exact hne
          unfold sym at h2 ⊢
          rw [if_pos h] at h2 ⊢
          cases hnx : next s Ld 15 0 0 A.2.pos with
          | none => rfl
          | some z => rw [hnx] at h2; exact absurd h h2
        · rw [sym_err_id h]
      rw [hcp, hk1, if_pos distP_zero, num_err_id hne, tooFar_err hne, copyLoop_err _ hne]
    have HL := Lib.hid hl; clear hl
    have HN1 := Lib.hid hn1; clear hn1
    have HK := Lib.hid hK; clear hK
    have HA := Lib.hid hA; clear hA
    have HC0 := Lib.hid hC; clear hC
    have HCP := Lib.hid hcp; clear hcp
    have h1 := Lib.hid hsize0; clear hsize0
    have h2 := Lib.hid hex0; clear hex0
    have HKE := Lib.hid hKe; clear hKe
    have HK2 := Lib.hid hK2; clear hK2 hA2
    have HK0 := Lib.hid hK0; clear hK0
    clear hok
    rw [hW] at HL
    go_enter Try.func37, Try.ntmps37
    go_wp2_with fail
    refine HL.out.mono ?_
    rintro e w' ⟨rfl, rfl⟩
    rw [← HW.out]
    clear hW
    go_wp2_with fail
    refine HN1.out.mono ?_
    rintro e w1 ⟨rfl, R1, k1⟩
    have hqW : q < W.heap.size := (Array.getElem?_eq_some_iff.1 cW).1
    have cq1 : w1.heap[q]? = some (.cells #[.slice x.a x.n x.c, .slice y.a y.n y.c] 65) := (k1.block q hqW (by simp; omega)).trans cW
    have u0 : w1.cell? ⟨q, 0, none⟩ = some (.slice x.a x.n x.c) := by rw [cell_at cq1]; rfl
    have u1 : w1.cell? ⟨q, 1, none⟩ = some (.slice y.a y.n y.c) := by rw [cell_at cq1]; rfl
    rw [hq] at u0 u1
    have HQ := Lib.hid hq; clear hq
    have hCs : A.2.err = 0 → ∃ a b, Cr w1 x y Ld a b := fun h => by
      obtain ⟨a, b, C, h3, h4⟩ := HC0.out
      have C1 : Cr W x y Ld a b := C.kept kW.out.size (kW.out.block a C.la (by simpa using h3)) (kW.out.block b C.lb (by simpa using h4))
      exact ⟨a, b, C1.kept k1.size (k1.block a C1.la (by simpa using h3)) (k1.block b C1.lb (by simpa using h4))⟩
    have hs2 := rsymbol_any x y Ld hL hs w1 R1 hCs
    rw [← HK.out] at hs2
    have HS2 := Lib.hid hs2; clear hs2 hCs
    have K1 := Lib.hid (kW.out.trans k1); clear k1
    clear cq1
    go_wp2_with fail
    refine HS2.out.mono ?_
    rintro e w2 ⟨rfl, R2, k2⟩
    have K2 := Lib.hid (K1.out.trans k2); clear k2
    clear u0 u1
    have hdi := rdist_any (K.1 : Int) w2
    have hdx := distP_ext (K.1 : Int)
    have hdb := distP_base (K.1 : Int)
    obtain ⟨D, hD⟩ : ∃ x, x = distP (K.1 : Int) := ⟨_, rfl⟩
    rw [← hD] at hdi hdx hdb
    have hcp := HCP.out
    rw [← hD] at hcp
    have HD := Lib.hid hD; clear hD
    have c2 := R2.c2
    have f2 := R2.fr 2
    have HDI := Lib.hid hdi; clear hdi
    have R2 := Lib.hid R2
    by_cases hKe0 : K.2.err = 0
    · have hkn : (K.2.err != 0) = false := by simp [hKe0]
      by_cases hok2 : D.2.2 = true
      · rw [if_pos hok2] at hcp
        have hB2 := num_two (s := s) (k := D.2.1) hKe0
        obtain ⟨Bn, hBn⟩ : ∃ x, x = num s D.2.1 K.2 := ⟨_, rfl⟩
        rw [← hBn] at hcp hB2
        have hn3 := bits_any D.2.1 (by omega) hs w2 R2.out
        rw [← hBn] at hn3
        have hBl : Bn.1 < 65536 := by rw [hBn]; exact Nat.lt_of_lt_of_le (num_lt s D.2.1 K.2) (Nat.pow_le_pow_right (by decide) hdx)
        have hb1 := hdb.2 hok2
        have hb2 := hdb.1
        have hdi := HDI.out
        rw [hok2] at hdi
        have HDI := Lib.hid hdi; clear hdi
        have HN3 := Lib.hid hn3; clear hn3
        have HBN := Lib.hid hBn; clear hBn
        have HCP2 := Lib.hid hcp; clear hcp
        have HB2 := Lib.hid hB2; clear hB2
        obtain ⟨d1, hd1⟩ : ∃ d, d = D.1 := ⟨_, rfl⟩
        rw [← hd1] at hb1 hb2
        clear hdb hok2
        go_wp2_with fail
        refine HDI.out.mono ?_
        rintro e w' ⟨rfl, rfl⟩
        go_wp2_with fail
        refine HN3.out.mono ?_
        rintro e w3 ⟨rfl, R3, k3⟩
        have K3 := Lib.hid (K2.out.trans k3); clear k3
        clear c2 f2
        rw [← hd1]
        have c2 := R3.c2
        have c3 := R3.c3
        have f2 := R3.fr 2
        have hol := R3.fits
        obtain ⟨bk, hbk⟩ : ∃ x, x = d1 + Bn.1 := ⟨_, rfl⟩
        have hbI : ((d1 : Int) + (Bn.1 : Int)) = (bk : Int) := by omega
        obtain ⟨sz, hsz⟩ : ∃ x, x = size0 + A.1 := ⟨_, rfl⟩
        have hsI : ((size0 : Int) + (A.1 : Int)) = (sz : Int) := by omega
        have hszl : sz < 4000000 := by omega
        have hfin : copies s most Ld n r = copyLoop most bk sz (tooFar bk Bn.2) := by
          rw [hbk, hsz, hd1]; exact HCP2.out
        rw [hsI]
        have HBK := Lib.hid hbk; clear hbk
        have HSZ := Lib.hid hsz; clear hsz
        have hd1' := Lib.hid hd1; clear hd1
        have R3 := Lib.hid R3
        by_cases hBe : Bn.2.err = 0
        · have hbe : (Bn.2.err == 0) = true := by simp [hBe]
          by_cases hfar : Bn.2.out.length < bk
          · have hdf : decide ((Bn.2.out.length : Int) < (bk : Int)) = true := by simp; omega
            have htf : tooFar bk Bn.2 = { Bn.2 with err := 2 } := by unfold tooFar; rw [if_pos hfar]; unfold fail; rw [if_pos hBe]
            rw [htf, copyLoop_err _ (show ({ Bn.2 with err := 2 } : St).err ≠ 0 from (by show (2 : Int) ≠ 0; decide))] at hfin
            have HFIN := Lib.hid hfin; clear hfin htf
            have R4 := R3.out.setErr 2
            have c2' := R4.c2
            have R4 := Lib.hid R4
            obtain ⟨w4, hw4⟩ : ∃ w4, w4 = w3.setCell ⟨p, 2, none⟩ (.int .i64 2) := ⟨_, rfl⟩
            have K4 : KeptBut [p] w w4 := by rw [hw4]; exact K3.out.setCell (by simp) _
            have K4 := Lib.hid K4
            rw [← hw4] at R4 c2'
            have HW4 := Lib.hid hw4; clear hw4
            go_wp2_with fail
            rw [← HW4.out]
            by_cases hs0 : 0 < sz
            · have hd0 : decide ((0 : Int) < (sz : Int)) = true := by simp; omega
              go_loopg [14] 1 (fun g i wr => wr = w4 ∧ i = .int .i64 0)
              case atStart => exact ⟨rfl, rfl⟩
              case round =>
                obtain ⟨rfl, rfl⟩ := hrel
                go_wp2
                go_end0
                exact ⟨rfl, va, vc, by rw [HFIN.out]; exact R4.out, Mv.of va K4.out⟩
            · have hd0 : decide ((0 : Int) < (sz : Int)) = false := by simp; omega
              go_loopg [14] 1 (fun g i wr => wr = w4 ∧ i = .int .i64 0)
              case atStart => exact ⟨rfl, rfl⟩
              case round =>
                obtain ⟨rfl, rfl⟩ := hrel
                go_wp2
                go_end0
                exact ⟨rfl, va, vc, by rw [HFIN.out]; exact R4.out, Mv.of va K4.out⟩
          · have hdf : decide ((Bn.2.out.length : Int) < (bk : Int)) = false := by simp; omega
            have htf : tooFar bk Bn.2 = Bn.2 := by unfold tooFar; rw [if_neg hfar]
            rw [htf] at hfin
            have HFIN := Lib.hid hfin; clear hfin
            have hB3 : B ≤ w3.heap.size := Nat.le_trans hB K3.out.size
            have hbk1 : 1 ≤ bk := by have := HBK.out; omega
            clear htf hsI hol
            go_wp2_with fail
            go_loopg [14] sz (fun g i wr => ∃ (j : Nat) (r' : St) (va' : Option Addr) (vc' : Nat), g = sz - j ∧ j ≤ sz ∧ i = .int .i64 (j : Int) ∧ Hid (Ci wr B p s most bk sz Bn.2 va w (sz - j) r' va' vc'))
            case atStart => exact ⟨0, Bn.2, va, vc, rfl, Nat.zero_le _, rfl, Lib.hid ⟨R3.out, Mv.of va K3.out, rfl, fun _ => ⟨hbk1, by omega⟩⟩⟩
            case round =>
              obtain ⟨j, r', va', vc', hgj, hj, rfl, C⟩ := hrel
              have c2 := C.out.rd.c2
              by_cases hlt : j < sz
              · have hd0 : decide ((j : Int) < (sz : Int)) = true := by simp; omega
                by_cases he' : r'.err = 0
                · have hee : (r'.err == 0) = true := by simp [he']
                  obtain ⟨_, hback⟩ := C.out.back he'
                  have hix : r'.out.length - bk < r'.out.length := by omega
                  obtain ⟨g, rfl, hcap, hcell⟩ := C.out.rd.byte hix
                  have c3 := C.out.rd.c3
                  have hof := C.out.rd.fits
                  have hsay := rsay_any (r'.out.getD (r'.out.length - bk) 0) hm wr.drew (Nat.le_trans hB C.out.mv.kept.size) (C.out.rd.drewN 1)
                  obtain ⟨bb, hbb⟩ : ∃ b, b = r'.out.getD (r'.out.length - bk) 0 := ⟨_, rfl⟩
                  obtain ⟨r1, hr1⟩ : ∃ x, x = say most bb r' := ⟨_, rfl⟩
                  have heq : copyLoop most bk sz Bn.2 = copyLoop most bk (sz - (j + 1)) r1 := by
                    rw [C.out.eq]
                    obtain ⟨q, hq⟩ : ∃ q, sz - j = q + 1 := ⟨sz - j - 1, by omega⟩
                    rw [hq, show sz - (j + 1) = q from by omega, hr1, hbb]; rfl
                  have hlen : r1.err = 0 → r1.out.length = r'.out.length + 1 := fun h => by
                    have := (say_len (by rw [← hr1]; exact h)).2
                    rw [hr1, this]; simp
                  rw [← hbb] at hsay hcell
                  rw [← hr1] at hsay
                  obtain ⟨len, hlen'⟩ : ∃ l, l = r'.out.length := ⟨_, rfl⟩
                  rw [← hlen'] at c3 hcell hcap hix hback hof hlen
                  have HEQ := Lib.hid heq; clear heq
                  have HR1 := Lib.hid hr1; clear hr1
                  have HBB := Lib.hid hbb; clear hbb
                  have HLEN := Lib.hid hlen; clear hlen
                  have HLEN' := Lib.hid hlen'; clear hlen'
                  have HSAY := Lib.hid hsay; clear hsay
                  have i0 : (0 : Int) ≤ (len : Int) - (bk : Int) := by omega
                  have i1 : (len : Int) - (bk : Int) < (len : Int) := by omega
                  have i2 : ((len : Int) - (bk : Int)).toNat = len - bk := by omega
                  have i3 : IntKind.i64.wrap ((len : Int) - (bk : Int)) = (len : Int) - (bk : Int) := by rw [IntKind.wrap_i64]; omega
                  go_wp2_with fail
                  go_region_with (go_at_call 34; refine HSAY.out.mono ?_; rintro e w5 ⟨rfl, va5, vc5, R5, M5⟩)
                  all_goals
                    go_wp2
                    go_roundg (sz - (j + 1))
                    case measure => omega
                    case rel =>
                      refine ⟨j + 1, r1, va5, vc5, rfl, by omega, by go_num, Lib.hid ⟨R5, ?_, HEQ.out, fun h => ⟨hbk1, by have := HLEN.out h; omega⟩⟩⟩
                      exact (C.out.mv.drewN 1).trans M5
                · have hee : (r'.err == 0) = false := by simp [he']
                  have heq : copyLoop most bk sz Bn.2 = r' := C.out.eq.trans (copyLoop_err _ he')
                  have HEQ := Lib.hid heq; clear heq
                  go_wp2
                  go_end0
                  exact ⟨rfl, va', vc', by rw [HFIN.out, HEQ.out]; exact C.out.rd, C.out.mv⟩
              · obtain rfl : j = sz := by omega
                have hd0 : decide ((j : Int) < (j : Int)) = false := by simp
                have heq : copyLoop most bk j Bn.2 = r' := by rw [C.out.eq, Nat.sub_self]; rfl
                have HEQ := Lib.hid heq; clear heq
                go_wp2
                go_end0
                exact ⟨rfl, va', vc', by rw [HFIN.out, HEQ.out]; exact C.out.rd, C.out.mv⟩
        · have hbe : (Bn.2.err == 0) = false := by simp [hBe]
          rw [tooFar_err hBe, copyLoop_err _ hBe] at hfin
          have HFIN := Lib.hid hfin; clear hfin
          go_wp2_with fail
          by_cases hs0 : 0 < sz
          · have hd0 : decide ((0 : Int) < (sz : Int)) = true := by simp; omega
            go_loopg [14] 1 (fun g i wr => wr = w3 ∧ i = .int .i64 0)
            case atStart => exact ⟨rfl, rfl⟩
            case round =>
              obtain ⟨rfl, rfl⟩ := hrel
              go_wp2
              go_end0
              exact ⟨rfl, va, vc, by rw [HFIN.out]; exact R3.out, Mv.of va K3.out⟩
          · have hd0 : decide ((0 : Int) < (sz : Int)) = false := by simp; omega
            go_loopg [14] 1 (fun g i wr => wr = w3 ∧ i = .int .i64 0)
            case atStart => exact ⟨rfl, rfl⟩
            case round =>
              obtain ⟨rfl, rfl⟩ := hrel
              go_wp2
              go_end0
              exact ⟨rfl, va, vc, by rw [HFIN.out]; exact R3.out, Mv.of va K3.out⟩
      · rw [if_neg hok2] at hcp
        have hfl : fail K.2 2 = { K.2 with err := 2 } := by unfold fail; rw [if_pos hKe0]
        rw [hfl] at hcp
        have hokf : D.2.2 = false := by simpa using hok2
        have hdi := HDI.out
        rw [hokf] at hdi
        have HDI := Lib.hid hdi; clear hdi
        have HRES := Lib.hid hcp; clear hcp hfl
        go_wp2_with fail
        refine HDI.out.mono ?_
        rintro e w' ⟨rfl, rfl⟩
        go_wp2
        ((try simp only [Exit.inBlock, Exit.then]); refine bodyPost_ret (results_none rfl _ _ _) rfl ?_)
        refine ⟨rfl, va, vc, ?_, Mv.of va (K2.out.setCell (by simp) _)⟩
        rw [HRES.out]
        exact R2.out.setErr 2
    · have hkn : (K.2.err != 0) = true := by simp [hKe0]
      have hres := HK0.out hKe0
      have h22 : K.2.err = 2 := by rcases HK2.out with h | h; · exact absurd h hKe0
                                   · exact h
      have HRES := Lib.hid hres; clear hres hcp
      have H22 := Lib.hid h22; clear h22
      go_wp2_with fail
      refine HDI.out.mono ?_
      rintro e w' ⟨rfl, rfl⟩
      go_wp2
      ((try simp only [Exit.inBlock, Exit.then]); refine bodyPost_ret (results_none rfl _ _ _) rfl ?_)
      refine ⟨rfl, va, vc, ?_, Mv.of va (K2.out.setCell (by simp) _)⟩
      rw [HRES.out, ← st_eta K.2 H22.out]
      exact R2.out.setErr 2
  · have hcp : copies s most Ld n r = fail r 2 := by unfold copies; rw [if_neg hok]
    have hfl : fail r 2 = { r with err := 2 } := by unfold fail; rw [if_pos he]
    have hokf : (lengthP n).2.2 = false := by simpa using hok
    rw [hcp, hfl]
    rw [hokf, hW] at hl
    have HL := Lib.hid hl; clear hl
    have c2 := HW0.c2
    have f2 := HW0.fr 2
    clear hW
    go_enter Try.func37, Try.ntmps37
    go_wp2_with fail
    refine HL.out.mono ?_
    rintro e w' ⟨rfl, rfl⟩
    rw [← HW.out]
    go_wp2
    ((try simp only [Exit.inBlock, Exit.then]); refine bodyPost_ret (results_none rfl _ _ _) rfl ?_)
    exact ⟨rfl, va, vc, HW0.setErr 2, Mv.of va (kW.out.setCell (by simp) _)⟩
end Go.Proofs.Ytcgcacegkbbmiaa
