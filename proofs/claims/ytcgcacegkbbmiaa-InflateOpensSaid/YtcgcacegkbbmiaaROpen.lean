/- What Open of the reference does. -/
import Derived.Test.YtcgcacegkbbmiaaRTold
import Derived.Test.YtcgcacegkbbmiaaRStored
import Derived.Test.YtcgcacegkbbmiaaOpenW
namespace Go.Proofs.Ytcgcacegkbbmiaa
open Go.RowKit

/-- What was said, as a string. -/
theorem Ri.str {w : World} {B p most : Nat} {s : ByteArray} {r : St} {va : Option Addr} {vc : Nat} (h : Ri w B p s most r va vc) : (convert 36 9 (.slice va r.out.length vc)).run Try.prog w = .ok (.string ⟨r.out.toArray⟩) w := by
  rcases h.own.2 with ⟨hv, h0⟩ | ⟨g, cap, cur, hv, hb, hg, hc, _, _, hx⟩
  · simp at hv
    obtain ⟨rfl, h1, rfl⟩ := hv
    have hn : r.out = [] := List.length_eq_zero_iff.1 (by omega)
    rw [hn]
    exact run_convert_bytes_nil w 36 5 Try.underlying36 Try.underlying5 _ _ 9 Try.underlying9
  · simp at hv
    obtain ⟨rfl, rfl⟩ := hv
    refine run_convert_bytes_back w 36 9 5 ⟨g, 0, none⟩ vc r.out Try.underlying36 Try.underlying5 Try.underlying9 (fun j hj => ?_)
    have hadd : (⟨g, 0, none⟩ : Addr).add j = ⟨g, j, none⟩ := by unfold Addr.add; split <;> simp_all
    rw [hadd, cell_at hg]
    have := bytes_get hj
    rw [← hx, List.getElem?_take, if_pos (by omega)] at this
    rw [← Array.getElem?_toList]; exact this

set_option maxRecDepth 100000 in
set_option maxHeartbeats 4000000 in
/-- coded, where there is an error. -/
theorem coded_err {B p most : Nat} {s : ByteArray} {r : St} {va : Option Addr} {vc : Nat} (l1 l2 : Sl) (w : World) (H : Ri w B p s most r va vc) (he : r.err ≠ 0) :
    Calls Try.prog 25 #[.pointer (some ⟨p, 0, none⟩), .slice l1.a l1.n l1.c, .slice l2.a l2.n l2.c] w fun e w' => e = .returned (.tuple #[]) ∧ Ri w' B p s most r va vc ∧ KeptBut [p] w w' := by
  have hc1 := rcode_err l1 [] w H he
  have hpl := H.lt
  have HC1 := Lib.hid hc1; clear hc1
  go_enter Try.func25, Try.ntmps25
  go_wp2_with fail
  refine HC1.out.mono ?_
  rintro e w1 ⟨x1, y1, rfl, k1, R1, -⟩
  have kW1 : KeptBut [] w1 (w1.alloc (.cells #[.slice x1.a x1.n x1.c, .slice y1.a y1.n y1.c] 65)) := (KeptBut.refl _ _).alloc _
  have RW1 := R1.kept kW1 (by simp) (by simp)
  have hc2 := rcode_err l2 [] _ RW1 he
  have HC2 := Lib.hid hc2; clear hc2
  have K1 := Lib.hid (k1.trans (kW1.mono (T := [p]) (by simp)))
  clear RW1 R1 kW1 k1
  go_wp2_with fail
  refine HC2.out.mono ?_
  rintro e w2 ⟨x2, y2, rfl, k2, R2, -⟩
  have K2 := Lib.hid (K1.out.trans k2)
  clear k2 K1 HC2
  obtain ⟨W2, hW2⟩ : ∃ W, W = w2.alloc (.cells #[.slice x2.a x2.n x2.c, .slice y2.a y2.n y2.c] 65) := ⟨_, rfl⟩
  have kW2 : KeptBut [] w2 W2 := by rw [hW2]; exact (KeptBut.refl _ _).alloc _
  have RW2 := Lib.hid (R2.kept kW2 (by simp) (by simp))
  have KW2 := Lib.hid (K2.out.trans (kW2.mono (T := [p]) (by simp)))
  have HW2 := Lib.hid hW2
  clear kW2 R2 K2 hW2
  go_wp2_with fail
  rw [← HW2.out]
  go_loopg [8] 1 (fun g _ wr => wr = W2)
  case atStart => rfl
  case round =>
    obtain rfl := hrel
    have c2 := RW2.out.c2
    have hee : (r.err == 0) = false := by simp [he]
    go_wp2
    go_end0
    exact ⟨rfl, RW2.out, KW2.out⟩

theorem At.part {w : World} {g : Nat} {l : List Nat} (h : At w g 0 l) (k : Nat) : At w g 0 (l.take k) ∧ At w g k (l.drop k) := by
  constructor
  · intro i x hx
    refine h i x ?_
    rw [List.getElem?_take] at hx
    split at hx
    · exact hx
    · cases hx
  · intro i x hx
    rw [List.getElem?_drop] at hx
    have := h (k + i) x hx
    rwa [Nat.zero_add] at this

/-- The round of the blocks. -/
structure Oi (wr : World) (p : Nat) (s : ByteArray) (most : Nat) (w : World) (g : Nat) (b : Bool) (r : St) (va : Option Addr) (vc : Nat) : Prop where
  rd : Ri wr p p s most r va vc
  kept : Below p w wr
  go : b = false → r.err = 0 → opened s most = openLoop s most g r ∧ 8 * s.size < g + r.pos
  done : b = true ∨ r.err ≠ 0 → opened s most = r

/-- The end of a round: what was said by a block, or the head's error. -/
theorem Oi.step {wr w : World} {p most q : Nat} {s : ByteArray} {b : Bool} {r D : St} {va va3 : Option Addr} {vc vc3 : Nat} {w3 : World} (O : Oi wr p s most w (q + 1) b r va vc) (hb : b = false) (he : r.err = 0) (R : Ri w3 p p s most D va3 vc3) (K : Below p w w3)
    (hD : (blockHead s r).2.2.err = 0 → D = kindly s most (blockHead s r).2.1 (blockHead s r).2.2) (hD' : (blockHead s r).2.2.err ≠ 0 → D = (blockHead s r).2.2) (hr : r.pos ≤ 8 * s.size) :
    Oi w3 p s most w q (((blockHead s r).1 : Int) == 1) D va3 vc3 := by
  have h1 : (blockHead s r).1 < 2 := num_lt s 1 r
  obtain ⟨heq, hlf⟩ := O.go hb he
  have heq : opened s most = (if (blockHead s r).2.2.err = 0 then (if (blockHead s r).1 ≠ 0 ∨ (kindly s most (blockHead s r).2.1 (blockHead s r).2.2).err ≠ 0 then kindly s most (blockHead s r).2.1 (blockHead s r).2.2 else openLoop s most q (kindly s most (blockHead s r).2.1 (blockHead s r).2.2)) else (blockHead s r).2.2) := by
    rw [heq]; rfl
  have hmp := mono_kindly s most (blockHead s r).2.1 (blockHead s r).2.2
  have hho := blockHead_ok (s := s) (r := r)
  have hmh := mono_blockHead s r hr
  generalize blockHead s r = H at h1 heq hmp hho hmh hD hD'
  by_cases h0 : H.2.2.err = 0
  · have hd := hD h0
    subst hd
    rw [if_pos h0] at heq
    refine ⟨R, K, fun hl hd0 => ?_, fun h => ?_⟩
    · have hl0 : H.1 = 0 := by
        have : ¬ ((H.1 : Int) = 1) := by simpa using hl
        omega
      rw [if_neg (by simp [hl0, hd0])] at heq
      have := (hmp hmh.2).1
      have := (hho h0).1
      exact ⟨heq, by omega⟩
    · rw [heq, if_pos]
      rcases h with h | h
      · left
        have : (H.1 : Int) = 1 := by simpa using h
        omega
      · exact .inr h
  · have hd := hD' h0
    subst hd
    rw [if_neg h0] at heq
    exact ⟨R, K, fun _ h => absurd h h0, fun _ => heq⟩

set_option maxRecDepth 100000 in
set_option maxHeartbeats 4000000 in
theorem ropen_any {s : ByteArray} (k : Int) (hs : 8 * s.size < 4611686018427387904) (w : World) :
    Calls Try.prog 11 #[.string s, .int .i64 k] w fun e w' => e = .returned (.tuple #[.string ⟨(openV s k).1.toArray⟩, .int .i64 ((openV s k).2.1 : Int), .int .i64 (openV s k).2.2]) ∧ Below w.heap.size w w' := by
  by_cases hbad : k < 0 ∨ 1048576 < k
  · have hV : openV s k = ([], 0, 1) := by unfold openV; rw [if_pos hbad]
    rw [hV]
    go_enter Try.func11, Try.ntmps11
    by_cases h0 : k < 0
    · have hd1 : decide (k < 0) = true := by simp [h0]
      go_wp2_with fail
      go_ret3
      exact ⟨rfl, Below.refl _ _⟩
    · have hd1 : decide (k < 0) = false := by simp [h0]
      have hd2 : decide ((1048576 : Int) < k) = true := by simp; omega
      go_wp2_with fail
      go_ret3
      exact ⟨rfl, Below.refl _ _⟩
  · obtain ⟨most, rfl⟩ : ∃ m : Nat, k = m := ⟨k.toNat, by omega⟩
    have hm : most ≤ 1048576 := by omega
    have hd1 : decide ((most : Int) < 0) = false := by simp
    have hd2 : decide ((1048576 : Int) < (most : Int)) = false := by simp; omega
    have hV : openV s most = if (opened s most).err = 0 then ((opened s most).out, ((opened s most).pos + 7) / 8, 0) else ([], 0, (opened s most).err) := by
      unfold openV; rw [if_neg hbad, Int.toNat_natCast]
    have HV := Lib.hid hV; clear hV
    clear hbad
    go_enter Try.func11, Try.ntmps11
    go_wp2_with fail
    obtain ⟨p, hp⟩ : ∃ p, p = w.heap.size := ⟨_, rfl⟩
    rw [← hp]
    generalize hW : World.alloc _ _ = W
    have RW : Ri W p p s most ⟨0, [], 0⟩ none 0 := ⟨Nat.le_refl _, by rw [← hW, hp]; exact heap_alloc_new _ _, World.ownsRow_nil _ _ _ _, by simp, by simp⟩
    have BW : Below p w W := by rw [← hW]; exact (Below.refl _ _).alloc (by omega) _
    have O0 : Hid (Oi W p s most w (8 * s.size + 1) false ⟨0, [], 0⟩ none 0) := Lib.hid ⟨RW, BW, fun _ _ => ⟨rfl, by simp⟩, fun h => by simp at h⟩
    have HP := Lib.hid hp; clear hp hW RW BW
    go_loopg [8] (8 * s.size + 1) (fun g lv wr => ∃ b r va vc, lv = .bool b ∧ Hid (Oi wr p s most w g b r va vc))
    case atStart => exact ⟨false, _, _, _, rfl, O0⟩
    case round =>
      obtain ⟨b, r, va, vc, rfl, O⟩ := hrel
      have hpl := O.out.rd.lt
      have c2 := O.out.rd.c2
      have hrp := O.out.rd.pos
      by_cases hgo : b = false ∧ r.err = 0
      · obtain ⟨rfl, he⟩ := hgo
        have hee : (r.err == 0) = true := by simp [he]
        obtain ⟨q, rfl⟩ : ∃ q, gk = q + 1 := ⟨gk - 1, by have := (O.out.go rfl he).2; omega⟩
        have hn := bits_any 1 (by omega) hs wr O.out.rd
        obtain ⟨A, hA⟩ : ∃ A, A = num s 1 r := ⟨_, rfl⟩
        rw [← hA] at hn
        have HN := Lib.hid hn; clear hn
        have HST := Lib.hid (fun D va3 vc3 w3 R K h1 h2 => O.out.step (D := D) (va3 := va3) (vc3 := vc3) (w3 := w3) rfl he R K h1 h2 hrp)
        have HHO : Hid ((blockHead s r).2.2.err = 0 → (blockHead s r).2.2.pos = r.pos + 3 ∧ r.err = 0 ∧ (blockHead s r).2.1 < 3) := Lib.hid blockHead_ok
        have hbh : ∀ x, x = (if 3 ≤ (num s 2 A.2).1 then fail (num s 2 A.2).2 2 else (num s 2 A.2).2) → blockHead s r = (A.1, (num s 2 A.2).1, x) := fun x hx => by rw [hx, hA]; rfl
        have HAH := Lib.hid hA; clear hA
        go_wp2_with fail
        refine HN.out.mono ?_
        rintro e w1 ⟨rfl, R1, k1⟩
        have hn2 := bits_any 2 (by omega) hs w1 R1
        have hbl : (num s 2 A.2).1 < 4 := num_lt s 2 A.2
        obtain ⟨bk, r2, hB⟩ : ∃ bk r2, (bk, r2) = num s 2 A.2 := ⟨_, _, rfl⟩
        rw [← hB] at hn2 hbl hbh
        have HB := Lib.hid hB; clear hB
        have HN2 := Lib.hid hn2; clear hn2 c2
        have K1 := Lib.hid k1; clear k1 R1
        dsimp only at hbl hbh
        go_wp2_with fail
        refine HN2.out.mono ?_
        rintro e w2 ⟨rfl, R2', k2⟩
        have R2 : Ri w2 p p s most r2 va vc := R2'
        clear R2'
        have hp2 : p ≤ w2.heap.size := by have := R2.lt; omega
        have KB : Below p w w2 := O.out.kept.trans ((K1.out.trans k2).below (by simp) (by omega))
        have c2 := R2.c2
        have f2 := R2.fr 2
        have R2 := Lib.hid R2
        have KB := Lib.hid KB
        clear k2 K1
        by_cases he2 : r2.err = 0
        · have hne : (r2.err != 0) = false := by simp [he2]
          by_cases h3 : 3 ≤ bk
          · have e0 : ((bk : Int) == 0) = false := by simp; omega
            have e1 : ((bk : Int) == 1) = false := by simp; omega
            have e2 : ((bk : Int) == 2) = false := by simp; omega
            have hbh := hbh (fail r2 2) (by rw [if_pos h3])
            have hff : fail r2 2 = { r2 with err := 2 } := by unfold fail; rw [if_pos he2]
            rw [hff] at hbh
            have O3 : Oi (w2.setCell ⟨p, 2, none⟩ (.int .i64 2)) p s most w q ((A.1 : Int) == 1) { r2 with err := 2 } va vc := by
              have := HST.out { r2 with err := 2 } va vc _ (R2.out.setErr 2) (KB.out.setCell (Nat.le_refl _) _) (by rw [hbh]; exact fun h => absurd (show (2 : Int) = 0 from h) (by decide)) (by rw [hbh]; exact fun _ => rfl)
              rw [hbh] at this
              exact this
            have O3 := Lib.hid O3
            clear hbh hff HST HHO
            go_wp2_with fail
            go_roundg q
            case measure => omega
            case rel => exact ⟨_, _, va, vc, rfl, O3⟩
          · have hbh := hbh r2 (by rw [if_neg h3])
            have hst : ∀ D va3 vc3 w3, Ri w3 p p s most D va3 vc3 → Below p w w3 → D = kindly s most bk r2 → Oi w3 p s most w q ((A.1 : Int) == 1) D va3 vc3 := fun D va3 vc3 w3 R K h => by
              have := HST.out D va3 vc3 w3 R K (by rw [hbh]; exact fun _ => h) (by rw [hbh]; exact fun k => absurd he2 k)
              rw [hbh] at this
              exact this
            have HST2 := Lib.hid hst
            clear hst hbh HST HHO
            have hbk : ∀ va3 w3, Mv p w2 va w3 va3 → Below p w w3 := fun va3 w3 M => KB.out.trans (M.kept.below (fun k hk => by
              rcases List.mem_cons.1 hk with rfl | hb
              · exact Nat.le_refl _
              · exact (R2.out.blk_lt hb).1) hp2)
            have HBK := Lib.hid hbk; clear hbk
            have hkinds : bk = 0 ∨ bk = 1 ∨ bk = 2 := by omega
            rcases hkinds with rfl | rfl | rfl
            · have hk := rstored_any hs hm w2 hp2 R2.out
              rw [show stored s most r2 = kindly s most 0 r2 from rfl] at hk
              have HK := Lib.hid hk; clear hk
              go_wp2_with fail
              refine HK.out.mono ?_
              rintro e w3 ⟨rfl, va3, vc3, R3, M3⟩
              have O3 := Lib.hid (HST2.out _ va3 vc3 w3 R3 (HBK.out _ _ M3) rfl)
              clear R3 M3 c2 f2
              go_wp2_with fail
              go_roundg q
              case measure => omega
              case rel => exact ⟨_, _, va3, vc3, rfl, O3⟩
            · have hfx := rfixed_any w2
              have HFX := Lib.hid hfx; clear hfx
              go_wp2_with fail
              refine HFX.out.mono ?_
              rintro e w3 ⟨o1, c1, o2, c2', rfl, b3, g1, g2, g3, g4, A1, A2⟩
              have k3 : KeptBut [] w2 w3 := KeptBut.of_below b3
              have R3 := R2.out.kept k3 (by simp) (by simp)
              have hpl2 := R2.out.lt
              have hk := coded_any (cap := c1) (cap2 := c2') fixedL fixedD (by decide) (by decide) (by decide) (by decide) (by decide) (by decide) hs hm w3 (Nat.le_trans hp2 k3.size) R3 g2 g4 (by omega) A1 A2
              rw [show block s most fixedL fixedD r2 = kindly s most 1 r2 from rfl] at hk
              have HK := Lib.hid hk; clear hk
              have K3 := Lib.hid k3
              clear k3 b3 A1 A2 R3 c2 f2
              go_wp2_with fail
              refine HK.out.mono ?_
              rintro e w4 ⟨rfl, va4, vc4, R4, M4⟩
              have O4 := Lib.hid (HST2.out _ va4 vc4 w4 R4 (HBK.out _ _ ((Mv.of va (K3.out.mono (by simp))).trans M4)) rfl)
              clear R4 M4
              go_wp2_with fail
              go_roundg q
              case measure => omega
              case rel => exact ⟨_, _, va4, vc4, rfl, O4⟩
            · have htl := told_any hs w2 R2.out
              have hdy := dynamic_told s most r2
              obtain ⟨t, ht⟩ : ∃ t, t = toldS s r2 := ⟨_, rfl⟩
              rw [← ht] at htl hdy
              have HT := Lib.hid ht; clear ht
              have HTL := Lib.hid htl; clear htl
              have HDY := Lib.hid hdy; clear hdy
              go_wp2_with fail
              refine HTL.out.mono ?_
              rintro e w3 ⟨R3, k3, hq⟩
              have hp3 : p ≤ w3.heap.size := by have := R3.lt; omega
              by_cases h0 : t.2.2.err = 0
              · rw [if_pos h0] at hq
                obtain ⟨g, c1, c2', rfl, g1, g2, A0, hn1, hn2, hn3, hn4, h15⟩ := hq
                obtain ⟨A1, A2⟩ := A0.part t.1
                have hpl2 := R2.out.lt
                have hl1 : (t.2.1.take t.1).length = t.1 := by rw [List.length_take]; omega
                have hl2 : (t.2.1.drop t.1).length = t.2.1.length - t.1 := List.length_drop
                have hk := coded_any (cap := c1) (cap2 := c2') (t.2.1.take t.1) (t.2.1.drop t.1) (by omega) (by omega) (by omega) (by omega) (fun x hx => h15 x (List.mem_of_mem_take hx)) (fun x hx => h15 x (List.mem_of_mem_drop hx)) hs hm w3 hp3 R3 g2 g2 (by omega) A1 A2
                rw [hl1, hl2, show block s most (t.2.1.take t.1) (t.2.1.drop t.1) t.2.2 = kindly s most 2 r2 from by
                  show _ = dynamic s most r2
                  rw [HDY.out, if_pos h0]] at hk
                have HK := Lib.hid hk; clear hk
                have K3 := Lib.hid k3
                clear k3 A0 A1 A2 R3 c2 f2
                go_wp2_with fail
                refine HK.out.mono ?_
                rintro e w4 ⟨rfl, va4, vc4, R4, M4⟩
                have O4 := Lib.hid (HST2.out _ va4 vc4 w4 R4 (HBK.out _ _ ((Mv.of va K3.out).trans M4)) rfl)
                clear R4 M4
                go_wp2_with fail
                go_roundg q
                case measure => omega
                case rel => exact ⟨_, _, va4, vc4, rfl, O4⟩
              · rw [if_neg h0] at hq
                subst hq
                have hk := coded_err ⟨none, 0, 0⟩ ⟨none, 0, 0⟩ w3 R3 h0
                have HK := Lib.hid hk; clear hk
                have K3 := Lib.hid k3
                clear k3 R3 c2 f2
                go_wp2_with fail
                refine HK.out.mono ?_
                rintro e w4 ⟨rfl, R4, k4⟩
                have O4 := Lib.hid (HST2.out _ va vc w4 R4 (HBK.out _ _ (Mv.of va (K3.out.trans k4))) (by
                  show _ = dynamic s most r2
                  rw [HDY.out, if_neg h0]))
                clear R4 k4
                go_wp2_with fail
                go_roundg q
                case measure => omega
                case rel => exact ⟨_, _, va, vc, rfl, O4⟩
        · have hne : (r2.err != 0) = true := by simp [he2]
          have hbh : blockHead s r = (A.1, bk, if 3 ≤ bk then fail r2 2 else r2) := hbh _ rfl
          have hbe : (blockHead s r).2.2 = r2 := by
            rw [hbh]
            dsimp only
            split
            · unfold fail; rw [if_neg he2]
            · rfl
          have O3 : Oi w2 p s most w q ((A.1 : Int) == 1) r2 va vc := by
            have := HST.out r2 va vc w2 R2.out KB.out (by rw [hbe]; exact fun h => absurd h he2) (fun _ => hbe.symm)
            rw [hbh] at this
            exact this
          have O3 := Lib.hid O3
          clear hbh hbe HST HHO
          go_wp2_with fail
          go_roundg q
          case measure => omega
          case rel => exact ⟨_, r2, va, vc, rfl, O3⟩
      · have hdn : opened s most = r := O.out.done (by
          by_cases hb : b = true
          · exact .inl hb
          · refine .inr (fun h => hgo ⟨by simpa using hb, h⟩))
        by_cases he : r.err = 0
        · have hb : b = true := by
            cases b
            · exact absurd ⟨rfl, he⟩ hgo
            · rfl
          subst hb
          have hne : (r.err != 0) = false := by simp [he]
          have hres : openV s most = (r.out, (r.pos + 7) / 8, 0) := by rw [HV.out, hdn, if_pos he]
          have HRES := Lib.hid hres; clear hres hdn
          have c3 := O.out.rd.c3
          have c1 := O.out.rd.c1
          have hst : ∀ n, (convert 36 9 (.slice va r.out.length vc)).run Try.prog (wr.drewN n) = .ok (.string ⟨r.out.toArray⟩) (wr.drewN n) := fun n => (O.out.rd.drewN n).str
          go_wp2_with fail
          go_quiet (fail)
          go_wp2
          go_ret3
          have hdiv : (((r.pos + 7) / 8 : Nat) : Int) = ((r.pos : Int) + 7) / 8 := by omega
          exact ⟨by rw [HRES.out]; show _ = Ending.returned (.tuple #[_, .int .i64 (((r.pos + 7) / 8 : Nat) : Int), _]); rw [hdiv]; rfl, by rw [← HP.out]; exact O.out.kept.trans (Below.drewN' _ _ _)⟩
        · have hee : (r.err == 0) = false := by simp [he]
          have hne : (r.err != 0) = true := by simp [he]
          have hres : openV s most = ([], 0, r.err) := by rw [HV.out, hdn, if_neg he]
          have HRES := Lib.hid hres; clear hres hdn
          cases b
          all_goals
            go_wp2_with fail
            go_quiet (fail)
            go_wp2
            go_ret3
            exact ⟨by rw [HRES.out]; rfl, by rw [← HP.out]; exact O.out.kept.trans (Below.drewN' _ _ _)⟩
end Go.Proofs.Ytcgcacegkbbmiaa
