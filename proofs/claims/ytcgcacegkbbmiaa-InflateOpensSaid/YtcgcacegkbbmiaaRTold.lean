/- The reference's told. -/
import Derived.Test.YtcgcacegkbbmiaaRTold0
import Derived.Deep.CutRange
namespace Go.Proofs.Ytcgcacegkbbmiaa
open Go.RowKit

/-- The round of the lengths of lengths. -/
structure Lm (wr : World) (B p : Nat) (s : ByteArray) (most : Nat) (va : Option Addr) (vc : Nat) (w : World) (g told : Nat) (r3 : St) (j : Nat) (f : Nat → Nat) (r : St) : Prop where
  rd : Ri wr B p s most r va vc
  kept : KeptBut [p] w wr
  hl : wr.heap[g]? = some (.cells (ints 19 f) 3)
  ho : wr.heap[g + 1]? = some (.cells (ints 19 fun i => ord.getD i 0) 3)
  eq : lensLoop s told 0 (fun _ => 0) r3 = lensLoop s (told - j) j f r
  small : ∀ i, f i ≤ 7
theorem readLoop_err {s : ByteArray} {L : List Nat} {all f : Nat} {l : List Nat} {r : St} (h : r.err ≠ 0) : readLoop s L all f l r = (l, r) := by
  cases f with
  | zero => rfl
  | succ f => unfold readLoop; rw [if_neg (fun k => h k.2)]
theorem readLoop_stop {s : ByteArray} {L : List Nat} {all f : Nat} {l : List Nat} {r : St} (h : ¬ l.length < all) : readLoop s L all f l r = (l, r) := by
  cases f with
  | zero => rfl
  | succ f => unfold readLoop; rw [if_neg (fun k => h k.1)]
theorem readLoop_go {s : ByteArray} {L : List Nat} {all f : Nat} {l : List Nat} {r : St} (h : l.length < all) (he : r.err = 0) : readLoop s L all (f + 1) l r = (if (sym s L r).1 = 16 then
      if l = [] then (l, fail (sym s L r).2 2)
      else readLoop s L all f (l ++ List.replicate (3 + (num s 2 (sym s L r).2).1) (l.getLastD 0)) (num s 2 (sym s L r).2).2
    else if (sym s L r).1 = 17 then readLoop s L all f (l ++ List.replicate (3 + (num s 3 (sym s L r).2).1) 0) (num s 3 (sym s L r).2).2
    else if (sym s L r).1 = 18 then readLoop s L all f (l ++ List.replicate (11 + (num s 7 (sym s L r).2).1) 0) (num s 7 (sym s L r).2).2
    else readLoop s L all f (l ++ [(sym s L r).1]) (sym s L r).2) := by
  show (if l.length < all ∧ r.err = 0 then _ else (l, r)) = _
  rw [if_pos ⟨h, he⟩]

set_option maxRecDepth 100000 in
set_option maxHeartbeats 4000000 in
theorem told_any {B p most : Nat} {s : ByteArray} {r : St} {va : Option Addr} {vc : Nat} (hs : 8 * s.size < 4611686018427387904) (w : World) (H : Ri w B p s most r va vc) :
    Calls Try.prog 26 #[.pointer (some ⟨p, 0, none⟩)] w (ToldQ w B p s most (toldS s r) va vc) := by
  have hpl := H.lt
  have hmk : ∀ w : World, (Instr.makeSlice 34 (.int .i64 19) (.int .i64 19)).run Try.prog w = .ok (.slice (some ⟨w.heap.size, 0, none⟩) 19 19) (w.alloc (.cells (ints 19 fun _ => 0) 3)) := make_ints 19 (by omega)
  have h1 := bits_any 5 (by omega) hs w H
  have hal : (num s 5 r).1 < 32 := num_lt s 5 r
  obtain ⟨A, hA⟩ : ∃ A, A = num s 5 r := ⟨_, rfl⟩
  rw [← hA] at h1 hal
  have H1 := Lib.hid h1; clear h1 H
  have HA := Lib.hid hA; clear hA
  go_enter Try.func26, Try.ntmps26
  go_wp2_with fail
  refine H1.out.mono ?_
  rintro e w1 ⟨rfl, R1, k1⟩
  have h2 := bits_any 5 (by omega) hs w1 R1
  have hbl : (num s 5 A.2).1 < 32 := num_lt s 5 A.2
  obtain ⟨Bn, hB⟩ : ∃ x, x = num s 5 A.2 := ⟨_, rfl⟩
  rw [← hB] at h2 hbl
  have H2 := Lib.hid h2; clear h2 R1
  have HBN := Lib.hid hB; clear hB
  have K1 := Lib.hid k1; clear k1
  go_wp2_with fail
  refine H2.out.mono ?_
  rintro e w2 ⟨rfl, R2, k2⟩
  have h3 := bits_any 4 (by omega) hs w2 R2
  have hcl : (num s 4 Bn.2).1 < 16 := num_lt s 4 Bn.2
  obtain ⟨Cn, hC⟩ : ∃ x, x = num s 4 Bn.2 := ⟨_, rfl⟩
  rw [← hC] at h3 hcl
  have H3 := Lib.hid h3; clear h3 R2
  have HCN := Lib.hid hC; clear hC
  have K2 := Lib.hid (K1.out.trans k2); clear k2
  go_wp2_with fail
  refine H3.out.mono ?_
  rintro e w3 ⟨rfl, R3, k3⟩
  have c2 := R3.c2
  have f2 := R3.fr 2
  have RE := Lib.hid (R3.setErr 2)
  have R3 := Lib.hid R3
  have K3 := Lib.hid (K2.out.trans k3); clear k3
  have hdh : ∀ x, x = (if 286 < 257 + A.1 ∨ 30 < 1 + Bn.1 then fail Cn.2 2 else Cn.2) → dynHead s r = (257 + A.1, 1 + Bn.1, 4 + Cn.1, x) := by
    intro x hx
    have e : dynHead s r = (257 + (num s 5 r).1, 1 + (num s 5 (num s 5 r).2).1, 4 + (num s 4 (num s 5 (num s 5 r).2).2).1, if 286 < 257 + (num s 5 r).1 ∨ 30 < 1 + (num s 5 (num s 5 r).2).1 then fail (num s 4 (num s 5 (num s 5 r).2).2).2 2 else (num s 4 (num s 5 (num s 5 r).2).2).2) := rfl
    rw [e, ← HA.out, ← HBN.out, ← HCN.out, hx]
  have HDH := Lib.hid hdh; clear hdh
  go_upto_region 4 with fail
  go_cut [34] from 22 to 34 (fun sb wx => ∃ b : Bool, sb = .bool b ∧ (b = true ↔ (Cn.2.err = 0 ∧ (286 < 257 + A.1 ∨ 30 < 1 + Bn.1))) ∧ wx = w3)
  case first =>
    have hcs : Cn.2.err ≠ 0 ∨ (Cn.2.err = 0 ∧ 286 < 257 + A.1) ∨ (Cn.2.err = 0 ∧ ¬ 286 < 257 + A.1 ∧ 30 < 1 + Bn.1) ∨ (Cn.2.err = 0 ∧ ¬ 286 < 257 + A.1 ∧ ¬ 30 < 1 + Bn.1) := by omega
    rcases hcs with h0 | ⟨h0, h286⟩ | ⟨h0, h286, h30⟩ | ⟨h0, h286, h30⟩
    · have he0 : (Cn.2.err == 0) = false := by simp [h0]
      go_wp2_with fail
      go_meet
      exact ⟨false, rfl, by simp [h0], rfl⟩
    · have he0 : (Cn.2.err == 0) = true := by simp [h0]
      have hd1 : decide ((286 : Int) < 257 + (A.1 : Int)) = true := by simp; omega
      go_wp2_with fail
      go_meet
      exact ⟨true, rfl, by simp [h0, h286], rfl⟩
    · have he0 : (Cn.2.err == 0) = true := by simp [h0]
      have hd1 : decide ((286 : Int) < 257 + (A.1 : Int)) = false := by simp; omega
      have hd2 : decide ((30 : Int) < 1 + (Bn.1 : Int)) = true := by simp; omega
      go_wp2_with fail
      go_meet
      exact ⟨true, rfl, by simp [h0, h30], rfl⟩
    · have he0 : (Cn.2.err == 0) = true := by simp [h0]
      have hd1 : decide ((286 : Int) < 257 + (A.1 : Int)) = false := by simp; omega
      have hd2 : decide ((30 : Int) < 1 + (Bn.1 : Int)) = false := by simp; omega
      go_wp2_with fail
      go_meet
      exact ⟨false, rfl, by simp [h286, h30], rfl⟩
  case rest =>
  obtain ⟨b, rfl, hb, rfl⟩ := hcut
  go_upto_if 34 with fail
  go_cut [] from 35 to 37 (fun wx => ∃ r4 : St, Hid (dynHead s r = (257 + A.1, 1 + Bn.1, 4 + Cn.1, r4)) ∧ Hid (r4.err = 0 → A.1 ≤ 29 ∧ Bn.1 ≤ 29) ∧ Hid (Ri wx B p s most r4 va vc) ∧ Hid (KeptBut [p] w wx))
  case first =>
    cases b with
    | true =>
      obtain ⟨h0, hbad⟩ := hb.1 rfl
      have hff : fail Cn.2 2 = { Cn.2 with err := 2 } := by unfold fail; rw [if_pos h0]
      have HFF := Lib.hid hff; clear hff hb
      have H0 := Lib.hid h0; clear h0
      go_wp2_with fail
      go_meet
      exact ⟨{ Cn.2 with err := 2 }, Lib.hid (HDH.out _ (by rw [if_pos hbad, HFF.out])), Lib.hid (fun h => absurd (show (2 : Int) = 0 from h) (by decide)), Lib.hid RE.out, Lib.hid (K3.out.setCell (by simp) _)⟩
    | false =>
      have hb2 : ¬ (Cn.2.err = 0 ∧ (286 < 257 + A.1 ∨ 30 < 1 + Bn.1)) := fun h => by have := hb.2 h; simp at this
      have HB2 := Lib.hid hb2; clear hb2 hb
      go_wp2_with fail
      go_meet
      refine ⟨Cn.2, Lib.hid (HDH.out _ ?_), Lib.hid (fun h => ?_), Lib.hid R3.out, Lib.hid K3.out⟩
      · have := HB2.out
        unfold fail
        split
        · rename_i hbad
          rw [if_neg (fun h => this ⟨h, hbad⟩)]
        · rfl
      · have := HB2.out
        omega
  case rest =>
    obtain ⟨r4, HX, HB, R4, K4⟩ := hcut
    clear R3 K3 HDH RE hb
    have hord : ∀ W : World, Calls Try.prog 38 #[] W fun e w' => e = .returned (.slice (some ⟨W.heap.size, 0, none⟩) 19 19) ∧ w' = W.alloc (.cells (ints 19 fun i => ord.getD i 0) 3) := order_any
    have HORD := Lib.hid hord; clear hord
    go_wp2_with fail
    refine (HORD.out _).mono ?_
    rintro e w5 ⟨rfl, rfl⟩
    have hsz : (wc.alloc (.cells (ints 19 fun _ => 0) 3)).heap.size = wc.heap.size + 1 := by simp
    rw [hsz]
    obtain ⟨g, hg⟩ : ∃ g, g = wc.heap.size := ⟨_, rfl⟩
    rw [← hg]
    generalize hW : World.alloc (World.alloc wc _) _ = W
    have kW : KeptBut [] wc W := by rw [← hW]; exact ((KeptBut.refl _ _).alloc _).alloc _
    have HL0 : W.heap[g]? = some (.cells (ints 19 fun _ => 0) 3) := by
      rw [← hW, Below.heap_alloc _ _ _ (by rw [hsz]; omega), hg]; exact heap_alloc_new _ _
    have HO0 : W.heap[g + 1]? = some (.cells (ints 19 fun i => ord.getD i 0) 3) := by
      rw [← hW, hg, ← hsz]; exact heap_alloc_new _ _
    have L0 : Lm W B p s most va vc w g (4 + Cn.1) r4 0 (fun _ => 0) r4 := ⟨R4.out.kept kW (by simp) (by simp), K4.out.trans (kW.mono (by simp)), HL0, HO0, rfl, fun _ => by omega⟩
    have L0 := Lib.hid L0
    have HGG := Lib.hid hg; clear hg
    clear hW HL0 HO0 kW hsz c2 f2
    go_wp2_with fail
    go_loopg [9] 40 (fun q i wr => ∃ (j : Nat) (f : Nat → Nat) (r' : St), q = 40 - j ∧ j ≤ 4 + Cn.1 ∧ i = .int .i64 (j : Int) ∧ Hid (Lm wr B p s most va vc w g (4 + Cn.1) r4 j f r'))
    case atStart => exact ⟨0, _, _, rfl, Nat.zero_le _, rfl, L0⟩
    case round =>
      obtain ⟨j, f, r', hgj, hj, rfl, G⟩ := hrel
      by_cases hlt : j < 4 + Cn.1
      · have hd : decide ((j : Int) < 4 + (Cn.1 : Int)) = true := by simp; omega
        have hol := ord_lt j
        have co : wr.cell? ⟨g + 1, j, none⟩ = some (.int .i64 (ord.getD j 0 : Int)) := by rw [cell_at G.out.ho, ints_get (fun i => ord.getD i 0) (by omega)]
        have hn := bits_any 3 (by omega) hs wr.drew (G.out.rd.drewN 1)
        have hvl : (num s 3 r').1 < 8 := num_lt s 3 r'
        have heq : lensLoop s (4 + Cn.1) 0 (fun _ => 0) r4 = lensLoop s (4 + Cn.1 - (j + 1)) (j + 1) (fun q => if q = ord.getD j 0 then (num s 3 r').1 else f q) (num s 3 r').2 := by
          rw [G.out.eq]
          obtain ⟨q, hq⟩ : ∃ q, 4 + Cn.1 - j = q + 1 := ⟨4 + Cn.1 - j - 1, by omega⟩
          rw [hq, show 4 + Cn.1 - (j + 1) = q from by omega]; rfl
        obtain ⟨V, hV⟩ : ∃ V, V = num s 3 r' := ⟨_, rfl⟩
        rw [← hV] at hn hvl heq
        obtain ⟨x, hx⟩ : ∃ x, x = ord.getD j 0 := ⟨_, rfl⟩
        rw [← hx] at co hol heq
        have HN := Lib.hid hn; clear hn
        have HV := Lib.hid hV; clear hV
        have HX := Lib.hid hx; clear hx
        have HEQ := Lib.hid heq; clear heq
        have hpg : p < g := by have := HGG.out; have := R4.out.lt; omega
        have hgl : g < wr.heap.size := (Array.getElem?_eq_some_iff.1 G.out.hl).1
        have hgl1 : g + 1 < wr.heap.size := (Array.getElem?_eq_some_iff.1 G.out.ho).1
        have i0 : (j : Int) < 19 := by omega
        have i1 : (x : Int) < 19 := by omega
        have HK5 : ∀ w5 : World, KeptBut [p] wr.drew w5 → w5.heap[g]? = some (.cells (ints 19 f) 3) ∧ w5.heap[g + 1]? = some (.cells (ints 19 fun i => ord.getD i 0) 3) ∧ w5.cell? ⟨g + 1, j, none⟩ = some (.int .i64 (x : Int)) ∧ w5.cell? ⟨g, x, none⟩ = some (.int .i64 (f x : Int)) ∧ w5.frozen? ⟨g, x, none⟩ = false := fun w5 k5 => by
          have l5 : w5.heap[g]? = some (.cells (ints 19 f) 3) := (k5.block g hgl (by simp; omega)).trans G.out.hl
          have o5 : w5.heap[g + 1]? = some (.cells (ints 19 fun i => ord.getD i 0) 3) := (k5.block (g + 1) hgl1 (by simp; omega)).trans G.out.ho
          exact ⟨l5, o5, (World.cell?_of_block (a := ⟨g + 1, j, none⟩) (k5.block (g + 1) hgl1 (by simp; omega))).trans co, by rw [cell_at l5, ints_get _ hol], frozen_of_row w5 _ x _ _ l5⟩
        go_wp2_with fail
        go_region_with (go_at_call 22; refine HN.out.mono ?_; rintro e w5 ⟨rfl, R5, k5⟩; obtain ⟨l5, o5, co5, c5, f5⟩ := HK5 w5 k5)
        all_goals
          have R5 := Lib.hid R5
          have K5 := Lib.hid k5; clear k5
          have L5 := Lib.hid l5; clear l5
          have O5 := Lib.hid o5; clear o5
          clear co5 c5 f5 co
          go_wp2
          go_roundg (40 - (j + 1))
          case measure => omega
          case rel =>
            refine ⟨j + 1, _, _, rfl, hlt, by go_num, Lib.hid ⟨?_, ?_, ?_, ?_, HEQ.out, fun i => ?_⟩⟩
            · exact R5.out.kept (S := [g]) ((KeptBut.refl _ _).setCell (by simp) _) (by simp; omega) (fun k hk => by
                have h1 := (R4.out.blk_lt hk).2
                have h2 := HGG.out
                simp; omega)
            · exact ((G.out.kept.drewN 1).trans K5.out).setNew (by have h1 := HGG.out; have h2 := K4.out.size; simp; omega) _
            · rw [heap_setCell_same _ _ _ _ _ _ L5.out, ints_set]
            · rw [heap_setCell_other _ _ _ _ (by simp)]; exact O5.out
            · show (if i = x then V.1 else f i) ≤ 7
              split
              · omega
              · exact G.out.small i
      · obtain rfl : j = 4 + Cn.1 := by omega
        have hd : decide (((4 + Cn.1 : Nat) : Int) < 4 + (Cn.1 : Int)) = false := by simp
        have hlens : lensLoop s (4 + Cn.1) 0 (fun _ => 0) r4 = (f, r') := by rw [G.out.eq, Nat.sub_self]; rfl
        have hL19 : (toList19 f).length = 19 := by simp [toList19]
        have hAt : At wr g 0 (toList19 f) := by
          intro i x hx
          have hi : i < 19 := by have := (List.getElem?_eq_some_iff.1 hx).1; rwa [hL19] at this
          unfold toList19 at hx
          rw [List.getElem?_map, List.getElem?_range hi] at hx
          simp at hx
          rw [cell_at G.out.hl, Nat.zero_add, ints_get _ hi, hx]
        have h15 : ∀ x ∈ toList19 f, x ≤ 15 := by
          intro x hx
          unfold toList19 at hx
          obtain ⟨i, _, rfl⟩ := List.mem_map.1 hx
          exact Nat.le_trans (G.out.small i) (by omega)
        have hco := rcode_all (cap := 19) (toList19 f) (by omega) (by omega) h15 wr (Array.getElem?_eq_some_iff.1 G.out.hl).1 hAt G.out.rd
        obtain ⟨all, hall⟩ : ∃ x, x = 257 + A.1 + (1 + Bn.1) := ⟨_, rfl⟩
        have hallI : (257 : Int) + (A.1 : Int) + (1 + (Bn.1 : Int)) = (all : Int) := by omega
        have hall1 : all ≤ 320 := by omega
        obtain ⟨L, hL⟩ : ∃ L, L = toList19 f := ⟨_, rfl⟩
        obtain ⟨rc, hrc⟩ : ∃ x, x = coder L r' := ⟨_, rfl⟩
        have hgo : toldS s r = if r'.err = 0 then (257 + A.1, (readLoop s L all all [] rc).1, if (readLoop s L all all [] rc).2.err = 0 ∧ ((readLoop s L all all [] rc).1.length ≠ all ∨ (readLoop s L all all [] rc).1.getD 256 0 = 0) then fail (readLoop s L all all [] rc).2 2 else (readLoop s L all all [] rc).2) else (257 + A.1, [], r') := by
          unfold toldS
          dsimp only
          rw [HX.out]
          dsimp only
          rw [hlens]
          dsimp only
          rw [← hL, ← hrc, ← hall]
        have hrce : rc.err = 0 → r'.err = 0 := by rw [hrc]; exact fun h => (coder_err h).2
        have hrcn : r'.err ≠ 0 → rc = r' := fun h => by
          rw [hrc]; unfold coder
          split
          · rfl
          · unfold fail; rw [if_neg h]
        have hFE : ∀ r2 : St, r2.err ≠ 0 → (readLoop s L all all [] rc).2 = r2 → (toldS s r).2.2 = r2 := fun r2 h2 h3 => by
          rw [hgo]
          by_cases h0 : r'.err = 0
          · rw [if_pos h0]
            dsimp only
            rw [h3, if_neg (fun k => h2 k.1)]
          · rw [if_neg h0]
            dsimp only
            rw [hrcn h0, readLoop_err h0] at h3
            exact h3
        have hF0 : ∀ (l : List Nat) (r2 : St), r2.err = 0 → readLoop s L all all [] rc = (l, r2) → A.1 ≤ 29 ∧ Bn.1 ≤ 29 ∧ toldS s r = (257 + A.1, l, if l.length ≠ all ∨ l.getD 256 0 = 0 then fail r2 2 else r2) := fun l r2 h2 h3 => by
          have h0 : r'.err = 0 := by
            by_cases h : rc.err = 0
            · exact hrce h
            · rw [readLoop_err h] at h3
              have := (Prod.mk.inj h3).2
              rw [← this] at h2; exact absurd h2 h
          have hb := HB.out (lensLoop_err (4 + Cn.1) 0 (fun _ => 0) r4 (by rw [hlens]; exact h0))
          refine ⟨hb.1, hb.2, ?_⟩
          rw [hgo, if_pos h0, h3]
          dsimp only
          by_cases h4 : l.length ≠ all ∨ l.getD 256 0 = 0
          · rw [if_pos ⟨h2, h4⟩, if_pos h4]
          · rw [if_neg (fun k => h4 k.2), if_neg h4]
        rw [← hL] at hco h15 hL19
        rw [hL19, ← hrc] at hco
        have HFE := Lib.hid hFE; clear hFE
        have HF0 := Lib.hid hF0; clear hF0
        have HCO := Lib.hid hco; clear hco
        have HLL := Lib.hid hL; clear hL
        have HRC := Lib.hid hrc; clear hrc
        have HALL := Lib.hid hall; clear hall
        clear hAt hgo hrce hrcn hlens
        go_wp2_with fail
        refine HCO.out.mono ?_
        rintro e w6 ⟨x, y, rfl, k6, R6, hcode⟩
        obtain ⟨q, hq⟩ : ∃ q, q = w6.heap.size := ⟨_, rfl⟩
        obtain ⟨W6, hW6⟩ : ∃ W, W = w6.alloc (.cells #[.slice x.a x.n x.c, .slice y.a y.n y.c] 65) := ⟨_, rfl⟩
        have kW6 : KeptBut [] w6 W6 := by rw [hW6]; exact (KeptBut.refl _ _).alloc _
        have cW6 : W6.heap[q]? = some (.cells #[.slice x.a x.n x.c, .slice y.a y.n y.c] 65) := by rw [hW6, hq]; exact heap_alloc_new _ _
        have RW6 : Ri W6 B p s most rc va vc := R6.kept kW6 (by simp) (by simp)
        have hs6 : W6.heap.size = q + 1 := by rw [hW6, hq]; simp
        have T0 : Rq W6 B p s most va vc w W6.heap.size q all L x y rc all [] rc ⟨none, 0, 0⟩ := by
          have z1 := k6.size
          have z2 := kW6.size
          have z3 := (G.out.kept.trans (k6.trans (kW6.mono (by simp)))).size
          have z4 := R6.lt
          refine ⟨RW6, G.out.kept.trans (k6.trans (kW6.mono (by simp))), Nat.le_refl _, z3, fun k hk => ?_, cW6, by omega, by omega, fun h => ?_, Own.nil _ _, fun _ => rfl, fun h => by rw [readLoop_err h], fun _ => by simp, by simp, by simp⟩
          · rcases List.mem_cons.1 hk with rfl | hb
            · exact RW6.lt
            · exact (RW6.blk_lt hb).2
          · obtain ⟨a, b, C, h1, h2⟩ := hcode h
            have C6 := C.kept kW6.size (kW6.block a C.la (by simp)) (kW6.block b C.lb (by simp))
            have := G.out.rd.lt
            exact ⟨a, b, C6, C6.la, C6.lb, by omega, by omega⟩
        have T0 := Lib.hid T0
        obtain ⟨B2, hB2⟩ : ∃ b, b = W6.heap.size := ⟨_, rfl⟩
        rw [← hB2] at T0
        have HB2 := Lib.hid hB2; clear hB2
        have HW6 := Lib.hid hW6; clear hW6
        have HQ := Lib.hid hq; clear hq
        clear cW6 RW6 kW6 hcode R6 k6 hs6
        go_wp2_with fail
        rw [← HW6.out, ← HQ.out]
        go_loopg [11, 12] all (fun g v _ wq => ∃ (l : List Nat) (r2 : St) (z : Sl), v = .slice z.a z.n z.c ∧ Hid (Rq wq B p s most va vc w B2 q all L x y rc g l r2 z))
        case atStart => exact ⟨[], rc, ⟨none, 0, 0⟩, rfl, T0⟩
        case round =>
          obtain ⟨l, r2, z, rfl, T⟩ := hrel
          have c2 := T.out.rd.c2
          have hzn : z.n = l.length := T.out.own.1
          have hll := T.out.len
          obtain ⟨za, zn, zc⟩ := z
          obtain rfl : zn = l.length := hzn
          by_cases he2 : r2.err = 0
          · have hee : (r2.err == 0) = true := by simp [he2]
            have hne : (r2.err != 0) = false := by simp [he2]
            by_cases hlen : l.length < all
            · have hdl : decide ((l.length : Int) < (all : Int)) = true := by simp; omega
              have hleft := T.out.left he2
              have hGK : 1 ≤ gk := by omega
              have HGK := Lib.hid hGK
              have u0 : wr.cell? ⟨q, 0, none⟩ = some (.slice x.a x.n x.c) := by rw [cell_at T.out.bx]; rfl
              have u1 : wr.cell? ⟨q, 1, none⟩ = some (.slice y.a y.n y.c) := by rw [cell_at T.out.bx]; rfl
              have hsy := rsymbol_any x y L (by omega) hs wr T.out.rd (fun h => by obtain ⟨a, b, C, _⟩ := T.out.code h; exact ⟨a, b, C⟩)
              have hsl := sym_lt s L r2 (by omega)
              rw [hL19] at hsl
              have hsz := sym_zero (s := s) (L := L) (r := r2)
              have hse : (sym s L r2).2.err = 0 → r2.err = 0 := sym_err
              have heq := T.out.eq0 he2
              obtain ⟨gg, hgg⟩ : ∃ gg, gk = gg + 1 := ⟨gk - 1, by omega⟩
              rw [hgg, readLoop_go hlen he2, show gg = gk - 1 from by omega] at heq
              obtain ⟨V, hV⟩ : ∃ V, V = sym s L r2 := ⟨_, rfl⟩
              rw [← hV] at hsy hsl hsz hse heq
              have HSY := Lib.hid hsy; clear hsy
              have HSZ := Lib.hid hsz; clear hsz
              have HSE := Lib.hid hse; clear hse
              have HEQ := Lib.hid heq; clear heq
              have HV := Lib.hid hV; clear hV
              have HG1 := Lib.hid hgg; clear hgg
              clear hGK
              go_wp2_with fail
              refine HSY.out.mono ?_
              rintro e w5 ⟨rfl, R5, k5⟩
              clear c2 u0 u1
              have c5 := R5.c2
              have f5 := R5.fr 2
              have R5 := Lib.hid R5
              have K5 := Lib.hid k5; clear k5
              by_cases hVe : V.2.err = 0
              · have hve : (V.2.err != 0) = false := by simp [hVe]
                by_cases h16 : V.1 < 16
                · have d16 : decide ((V.1 : Int) < 16) = true := by simp; omega
                  obtain ⟨i3, hi3, hz30, hz31, hz32⟩ := info_parts info3
                  have HI3 := Lib.hid hi3
                  have O5 := T.out.own.move K5.out T.out.hp
                  have hown2 : ∀ v, (w5.alloc (.cells #[v] 3)).ownsRow B2 3 1 (.slice za l.length zc) l.length (vals l) := fun v => row_kept O5.2 (fun k hk => Below.heap_alloc _ _ _ (O5.lt hk).2)
                  have hBW : B2 ≤ w5.heap.size := Nat.le_trans T.out.big K5.out.size
                  have heq6 : readLoop s L all all [] rc = readLoop s L all (gk - 1) (l ++ [V.1]) V.2 := by rw [HEQ.out, if_neg (by omega), if_neg (by omega), if_neg (by omega)]
                  have HEQ6 := Lib.hid heq6; clear heq6
                  have O5 := Lib.hid O5
                  go_wp2_with (at_builtin; refine wpList_append_lies _ rfl _ _ 34 rfl B2 3 i3 _ 1 8 Try.underlying34 hi3 hz30 hz31 hz32 rfl (by decide) (.slice za l.length zc) l.length _ rfl (hown2 _) ⟨w5.heap.size, 0, none⟩ 1 1 [.int .i64 (V.1 : Int)] rfl rfl ?d2 ?d3 (by decide) ?d4 ?d5 ?d6 (w5.heap.size + 1) (by simp) ?d7)
                  case d2 => exact World.news_of_block (cs := #[.int .i64 (V.1 : Int)]) (t := 3) (fr := (0, 0)) (heap_alloc_new w5 _)
                  case d3 => intro u hu; simp at hu; subst hu; rfl
                  case d4 => unfold maxLen; omega
                  case d5 => omega
                  case d6 => simp; omega
                  case d7 =>
                  intro g8 D8 w8 hown8 hg8 hat8 hlt8
                  have G8 : Ag w8 w5 B2 ⟨za, l.length, zc⟩ ⟨some ⟨g8, 0, none⟩, l.length + 1, D8⟩ (l ++ [V.1]) := Ag.one O5.out hown8 hg8 hat8
                  have T8 : Rq w8 B p s most va vc w B2 q all L x y rc (gk - 1) (l ++ [V.1]) V.2 ⟨some ⟨g8, 0, none⟩, l.length + 1, D8⟩ := T.out.next K5.out R5.out G8 HSE.out (fun _ => HEQ6.out) (fun h => absurd hVe h) (fun _ => by rw [List.length_append]; simp; omega) (fun v hv => by
                    rcases List.mem_append.1 hv with h | h
                    · exact T.out.small v h
                    · rw [List.mem_singleton.1 h]; omega) (by rw [List.length_append]; simp; omega)
                  have T8 := Lib.hid T8
                  clear hown8 hg8 hat8 hlt8 G8
                  go_wp2
                  go_roundg (gk - 1)
                  case measure => have := HGK.out; omega
                  case rel => exact ⟨l ++ [V.1], V.2, _, rfl, T8⟩
                · have d16 : decide ((V.1 : Int) < 16) = false := by simp; omega
                  by_cases h6 : V.1 = 16
                  · have e16 : ((V.1 : Int) == 16) = true := by simp; omega
                    by_cases hnil : l = []
                    · have hlz : ((l.length : Int) == 0) = true := by simp [hnil]
                      have hfl : fail V.2 2 = { V.2 with err := 2 } := by unfold fail; rw [if_pos hVe]
                      have heq6 : readLoop s L all all [] rc = (l, { V.2 with err := 2 }) := by rw [HEQ.out, if_pos h6, if_pos hnil, hfl]
                      have T8 : Rq (w5.setCell ⟨p, 2, none⟩ (.int .i64 2)) B p s most va vc w B2 q all L x y rc (gk - 1) l { V.2 with err := 2 } ⟨za, l.length, zc⟩ := T.out.next (K5.out.setCell (by simp) _) (R5.out.setErr 2) (Ag.same T.out.own (K5.out.setCell (by simp) _) T.out.hp) (fun h => absurd (show (2 : Int) = 0 from h) (by decide)) (fun h => absurd (show (2 : Int) = 0 from h) (by decide)) (fun _ => by rw [heq6]) (fun h => absurd (show (2 : Int) = 0 from h) (by decide)) T.out.small T.out.len
                      have T8 := Lib.hid T8
                      have HNIL := Lib.hid hnil
                      clear heq6 hfl hnil
                      go_wp2
                      go_roundg (gk - 1)
                      case measure => have := HGK.out; omega
                      case rel => exact ⟨l, _, _, (by first | rfl | (rw [HNIL.out]; rfl)), T8⟩
                    · have hlz : ((l.length : Int) == 0) = false := by simp [hnil]
                      have hl1 : 1 ≤ l.length := List.length_pos_iff.2 hnil
                      obtain ⟨g2, hza, hgB, hgl, hAl, hcz⟩ := (T.out.own.move K5.out T.out.hp).at hnil
                      obtain rfl : za = some ⟨g2, 0, none⟩ := hza
                      have hpB : p < B2 := T.out.hp
                      have cl5 : w5.cell? ⟨g2, l.length - 1, none⟩ = some (.int .i64 (l.getLastD 0 : Int)) := by
                        have := hAl (l.length - 1) (l.getLastD 0) (by
                          rw [← List.getLast?_eq_getElem?, List.getLastD_eq_getLast?]
                          cases h' : l.getLast? with
                          | none => rw [List.getLast?_eq_none_iff] at h'; exact absurd h' hnil
                          | some x => rfl)
                        rwa [Nat.zero_add] at this
                      have hx15 : l.getLastD 0 ≤ 15 := by
                        rw [List.getLastD_eq_getLast?]
                        cases h' : l.getLast? with
                        | none => simp
                        | some x => exact T.out.small x (List.mem_of_getLast? h')
                      have hn := bits_any 2 (by omega) hs w5.drew (R5.out.drewN 1)
                      have hwl : (num s 2 V.2).1 < 4 := num_lt s 2 V.2
                      have hne6 : (num s 2 V.2).2.err = 0 → V.2.err = 0 := num_err
                      have heq6 : readLoop s L all all [] rc = readLoop s L all (gk - 1) (l ++ List.replicate (3 + (num s 2 V.2).1) (l.getLastD 0)) (num s 2 V.2).2 := by rw [HEQ.out, if_pos h6, if_neg hnil]
                      obtain ⟨N, hN⟩ : ∃ N, N = num s 2 V.2 := ⟨_, rfl⟩
                      rw [← hN] at hn hwl hne6 heq6
                      obtain ⟨x0, hx0⟩ : ∃ x, x = l.getLastD 0 := ⟨_, rfl⟩
                      rw [← hx0] at cl5 heq6 hx15
                      have HN := Lib.hid hn; clear hn
                      have HNE := Lib.hid hne6; clear hne6
                      have HEQ6 := Lib.hid heq6; clear heq6
                      have HNN := Lib.hid hN; clear hN
                      have HX0 := Lib.hid hx0; clear hx0
                      have HK6 : ∀ w6 : World, KeptBut [p] w5.drew w6 → w6.cell? ⟨g2, l.length - 1, none⟩ = some (.int .i64 (x0 : Int)) := fun w6 k6 => (World.cell?_of_block (a := ⟨g2, l.length - 1, none⟩) (k6.block g2 hgl (by simp; omega))).trans cl5
                      have K5d : KeptBut [p] wr w5.drew := K5.out.drewN 1
                      have HK5d := Lib.hid K5d; clear K5d
                      have HAG : ∀ w6 : World, Ri w6 B p s most N.2 va vc → KeptBut [p] w5.drew w6 → Calls Try.prog 39 #[.pointer (some ⟨p, 0, none⟩), .slice (some ⟨g2, 0, none⟩) l.length zc, .int .i64 (x0 : Int), .int .i64 (3 + (N.1 : Int))] w6 fun e w' => ∃ x' : Sl, e = .returned (.slice x'.a x'.n x'.c) ∧ Ag w' w6 B2 ⟨some ⟨g2, 0, none⟩, l.length, zc⟩ x' (l ++ List.replicate (if N.2.err = 0 then 3 + N.1 else 0) x0) := fun w6 R6 k6 => by
                        have K6 := HK5d.out.trans k6
                        have hag := again_any ⟨some ⟨g2, 0, none⟩, l.length, zc⟩ l x0 (3 + N.1) (by omega) (by omega) w6 (Nat.le_trans T.out.big K6.size) T.out.hp R6 (T.out.own.move K6 T.out.hp)
                        rwa [show ((3 + N.1 : Nat) : Int) = 3 + (N.1 : Int) from by omega] at hag
                      have hlen7 : (l ++ List.replicate (if N.2.err = 0 then 3 + N.1 else 0) x0).length = l.length + (if N.2.err = 0 then 3 + N.1 else 0) := by simp
                      have HT7 : ∀ (w6 w7 : World) (z7 : Sl), Ri w6 B p s most N.2 va vc → KeptBut [p] w5.drew w6 → Ag w7 w6 B2 ⟨some ⟨g2, 0, none⟩, l.length, zc⟩ z7 (l ++ List.replicate (if N.2.err = 0 then 3 + N.1 else 0) x0) → Rq w7 B p s most va vc w B2 q all L x y rc (gk - 1) (l ++ List.replicate (if N.2.err = 0 then 3 + N.1 else 0) x0) N.2 z7 := fun w6 w7 z7 R6 k6 G7 => T.out.next (HK5d.out.trans k6) R6 G7 (fun h => HSE.out (HNE.out h)) (fun h => by rw [if_pos h]; exact HEQ6.out) (fun h => by rw [HEQ6.out, readLoop_err h]) (fun h => by rw [hlen7, if_pos h]; omega) (fun v hv => by
                        rcases List.mem_append.1 hv with h | h
                        · exact T.out.small v h
                        · rw [(List.mem_replicate.1 h).2]; omega) (by rw [hlen7]; split <;> omega)
                      have j0 : (0 : Int) ≤ (l.length : Int) - 1 := by omega
                      have j1 : (l.length : Int) - 1 < (l.length : Int) := by omega
                      have j2 : ((l.length : Int) - 1).toNat = l.length - 1 := by omega
                      have j3 : IntKind.i64.wrap ((l.length : Int) - 1) = (l.length : Int) - 1 := by rw [IntKind.wrap_i64]; omega
                      have j4 : IntKind.i64.wrap (3 + (N.1 : Int)) = 3 + (N.1 : Int) := by rw [IntKind.wrap_i64]; omega
                      clear hlen7 hAl
                      go_wp2_with fail
                      go_region_with (first | (go_at_call 22; refine HN.out.mono ?_; rintro e w6 ⟨rfl, R6, k6⟩; have c6 := HK6 w6 k6) | (go_at_call 39; refine (HAG w6 R6 k6).mono ?_; rintro e w7 ⟨z7, rfl, G7⟩))
                      all_goals
                        have T7 := Lib.hid (HT7 w6 w7 z7 R6 k6 G7)
                        clear G7 R6 k6 c6 j0 j1 j2 j3 j4
                        go_wp2
                        go_roundg (gk - 1)
                        case measure => have := HGK.out; omega
                        case rel => exact ⟨_, _, z7, rfl, T7⟩
                  · have e16 : ((V.1 : Int) == 16) = false := by simp; omega
                    by_cases h17 : V.1 = 17
                    · have e17 : ((V.1 : Int) == 17) = true := by simp; omega
                      have hn := bits_any 3 (by omega) hs w5 R5.out
                      have hwl : (num s 3 V.2).1 < 8 := num_lt s 3 V.2
                      have hne6 : (num s 3 V.2).2.err = 0 → V.2.err = 0 := num_err
                      have heq6 : readLoop s L all all [] rc = readLoop s L all (gk - 1) (l ++ List.replicate (3 + (num s 3 V.2).1) 0) (num s 3 V.2).2 := by rw [HEQ.out, if_neg h6, if_pos h17]
                      obtain ⟨N, hN⟩ : ∃ N, N = num s 3 V.2 := ⟨_, rfl⟩
                      rw [← hN] at hn hwl hne6 heq6
                      have HN := Lib.hid hn; clear hn
                      have HNE := Lib.hid hne6; clear hne6
                      have HEQ6 := Lib.hid heq6; clear heq6
                      have HNN := Lib.hid hN; clear hN
                      go_wp2_with fail
                      refine HN.out.mono ?_
                      rintro e w6 ⟨rfl, R6, k6⟩
                      clear c5 f5
                      have K6 := K5.out.trans k6
                      have hag := again_any ⟨za, l.length, zc⟩ l 0 (3 + N.1) (by omega) (by omega) w6 (Nat.le_trans T.out.big K6.size) T.out.hp R6 (T.out.own.move K6 T.out.hp)
                      rw [show ((3 + N.1 : Nat) : Int) = 3 + (N.1 : Int) from by omega] at hag
                      have HAG := Lib.hid hag; clear hag
                      have R6 := Lib.hid R6
                      have K6 := Lib.hid K6
                      clear k6
                      go_wp2_with fail
                      refine HAG.out.mono ?_
                      rintro e w7 ⟨z7, rfl, G7⟩
                      have hlen7 : (l ++ List.replicate (if N.2.err = 0 then 3 + N.1 else 0) 0).length = l.length + (if N.2.err = 0 then 3 + N.1 else 0) := by simp
                      have T7 : Rq w7 B p s most va vc w B2 q all L x y rc (gk - 1) (l ++ List.replicate (if N.2.err = 0 then 3 + N.1 else 0) 0) N.2 z7 := T.out.next K6.out R6.out G7 (fun h => HSE.out (HNE.out h)) (fun h => by rw [if_pos h]; exact HEQ6.out) (fun h => by rw [HEQ6.out, readLoop_err h]) (fun h => by rw [hlen7, if_pos h]; omega) (fun v hv => by
                        rcases List.mem_append.1 hv with h | h
                        · exact T.out.small v h
                        · rw [(List.mem_replicate.1 h).2]; omega) (by rw [hlen7]; split <;> omega)
                      have T7 := Lib.hid T7
                      clear hlen7 G7
                      go_wp2
                      go_roundg (gk - 1)
                      case measure => have := HGK.out; omega
                      case rel => exact ⟨_, _, z7, rfl, T7⟩
                    · have e17 : ((V.1 : Int) == 17) = false := by simp; omega
                      have h18 : V.1 = 18 := by omega
                      have hn := bits_any 7 (by omega) hs w5 R5.out
                      have hwl : (num s 7 V.2).1 < 128 := num_lt s 7 V.2
                      have hne6 : (num s 7 V.2).2.err = 0 → V.2.err = 0 := num_err
                      have heq6 : readLoop s L all all [] rc = readLoop s L all (gk - 1) (l ++ List.replicate (11 + (num s 7 V.2).1) 0) (num s 7 V.2).2 := by rw [HEQ.out, if_neg h6, if_neg h17, if_pos h18]
                      obtain ⟨N, hN⟩ : ∃ N, N = num s 7 V.2 := ⟨_, rfl⟩
                      rw [← hN] at hn hwl hne6 heq6
                      have HN := Lib.hid hn; clear hn
                      have HNE := Lib.hid hne6; clear hne6
                      have HEQ6 := Lib.hid heq6; clear heq6
                      have HNN := Lib.hid hN; clear hN
                      go_wp2_with fail
                      refine HN.out.mono ?_
                      rintro e w6 ⟨rfl, R6, k6⟩
                      clear c5 f5
                      have K6 := K5.out.trans k6
                      have hag := again_any ⟨za, l.length, zc⟩ l 0 (11 + N.1) (by omega) (by omega) w6 (Nat.le_trans T.out.big K6.size) T.out.hp R6 (T.out.own.move K6 T.out.hp)
                      rw [show ((11 + N.1 : Nat) : Int) = 11 + (N.1 : Int) from by omega] at hag
                      have HAG := Lib.hid hag; clear hag
                      have R6 := Lib.hid R6
                      have K6 := Lib.hid K6
                      clear k6
                      go_wp2_with fail
                      refine HAG.out.mono ?_
                      rintro e w7 ⟨z7, rfl, G7⟩
                      have hlen7 : (l ++ List.replicate (if N.2.err = 0 then 11 + N.1 else 0) 0).length = l.length + (if N.2.err = 0 then 11 + N.1 else 0) := by simp
                      have T7 : Rq w7 B p s most va vc w B2 q all L x y rc (gk - 1) (l ++ List.replicate (if N.2.err = 0 then 11 + N.1 else 0) 0) N.2 z7 := T.out.next K6.out R6.out G7 (fun h => HSE.out (HNE.out h)) (fun h => by rw [if_pos h]; exact HEQ6.out) (fun h => by rw [HEQ6.out, readLoop_err h]) (fun h => by rw [hlen7, if_pos h]; omega) (fun v hv => by
                        rcases List.mem_append.1 hv with h | h
                        · exact T.out.small v h
                        · rw [(List.mem_replicate.1 h).2]; omega) (by rw [hlen7]; split <;> omega)
                      have T7 := Lib.hid T7
                      clear hlen7 G7
                      go_wp2
                      go_roundg (gk - 1)
                      case measure => have := HGK.out; omega
                      case rel => exact ⟨_, _, z7, rfl, T7⟩
              · have hve : (V.2.err != 0) = true := by simp [hVe]
                have hfin : (readLoop s L all all [] rc).2 = V.2 := by
                  rw [HEQ.out, HSZ.out hVe, if_neg (by decide), if_neg (by decide), if_neg (by decide), readLoop_err hVe]
                have T8 : Rq w5 B p s most va vc w B2 q all L x y rc (gk - 1) l V.2 ⟨za, l.length, zc⟩ := T.out.next K5.out R5.out (Ag.same T.out.own K5.out T.out.hp) (fun h => absurd h hVe) (fun h => absurd h hVe) (fun _ => hfin) (fun h => absurd h hVe) T.out.small T.out.len
                have T8 := Lib.hid T8
                clear hfin
                go_wp2
                go_roundg (gk - 1)
                case measure => have := HGK.out; omega
                case rel => exact ⟨l, V.2, _, rfl, T8⟩
            · have hdl : decide ((l.length : Int) < (all : Int)) = false := by simp; omega
              have hend : readLoop s L all all [] rc = (l, r2) := by rw [T.out.eq0 he2, readLoop_stop hlen]
              obtain ⟨hA29, hB29, htd⟩ := HF0.out l r2 he2 hend
              have hallN := HALL.out
              have f2 := T.out.rd.fr 2
              obtain ⟨g2, hza, hgB, hgl, hAl, hcz⟩ := T.out.own.at (show l ≠ [] from fun h => by rw [h] at hlen; simp at hlen; omega)
              obtain rfl : za = some ⟨g2, 0, none⟩ := hza
              have hneg : ∀ W : World, (l.length ≠ all ∨ l.getD 256 0 = 0) → W = wr.setCell ⟨p, 2, none⟩ (.int .i64 2) → ToldQ w B p s most (toldS s r) va vc (.returned (.tuple #[.slice none 0 0, .slice none 0 0])) W := fun W h hW => by
                have hf2 : fail r2 2 = { r2 with err := 2 } := by unfold fail; rw [if_pos he2]
                have e2 : (toldS s r).2.2 = { r2 with err := 2 } := by rw [htd]; dsimp only; rw [if_pos h, hf2]
                rw [hW]
                exact ToldQ.neg (by rw [e2]; exact (by decide : (2 : Int) ≠ 0)) (by rw [e2]; exact T.out.rd.setErr 2) (T.out.kept.setCell (by simp) _)
              have HNEG := Lib.hid hneg; clear hneg
              have HAN := Lib.hid hallN; clear hallN
              dsimp only at hcz
              by_cases hgt : all < l.length
              · have hdg : decide ((all : Int) < (l.length : Int)) = true := by simp; omega
                have HTD := Lib.hid htd; clear htd
                have HEND := Lib.hid hend; clear hend
                go_wp2
                go_ret2
                exact HNEG.out _ (.inl (by omega)) rfl
              · have hdg : decide ((all : Int) < (l.length : Int)) = false := by simp; omega
                have hla : l.length = all := by omega
                have h258 : 258 ≤ all := by have := HAN.out; omega
                obtain ⟨v, hv⟩ : ∃ v, l[256]? = some v := ⟨_, List.getElem?_eq_getElem (by omega)⟩
                have c256 : wr.cell? ⟨g2, 256, none⟩ = some (.int .i64 (v : Int)) := by have := hAl 256 v hv; rwa [Nat.zero_add] at this
                have hvD : l.getD 256 0 = v := by rw [List.getD_eq_getElem?_getD, hv]; rfl
                have i0 : (256 : Int) < (l.length : Int) := by omega
                have HTD := Lib.hid htd; clear htd
                have HEND := Lib.hid hend; clear hend
                have HVD := Lib.hid hvD; clear hvD
                have HV := Lib.hid hv; clear hv
                have HLA := Lib.hid hla; clear hla
                by_cases hv0 : v = 0
                · subst hv0
                  go_wp2
                  go_ret2
                  exact HNEG.out _ (.inr HVD.out) rfl
                · have hdy : ((v : Int) == 0) = false := by simp; omega
                  have hs1 : ∀ W : World, (Instr.sliceAt 34 (.slice (some ⟨g2, 0, none⟩) l.length zc) none (some (.int .i64 (257 + (A.1 : Int)))) none).run Try.prog W = .ok (.slice (some ⟨g2, 0, none⟩) (257 + A.1) zc) W := slice34_h _ _ _ _ _ (by omega) (by have := HAN.out; omega)
                  have hs2 : ∀ W : World, (Instr.sliceAt 34 (.slice (some ⟨g2, 0, none⟩) l.length zc) (some (.int .i64 (257 + (A.1 : Int)))) none none).run Try.prog W = .ok (.slice (some ⟨g2, 257 + A.1, none⟩) (l.length - (257 + A.1)) (zc - (257 + A.1))) W := slice34_l _ _ _ _ _ (by omega) (by have := HAN.out; omega) (by have := HAN.out; omega)
                  have hpos : ∀ nq, ToldQ w B p s most (toldS s r) va vc (.returned (.tuple #[.slice (some ⟨g2, 0, none⟩) (257 + A.1) zc, .slice (some ⟨g2, 257 + A.1, none⟩) (l.length - (257 + A.1)) (zc - (257 + A.1))])) (wr.drewN nq) := by
                    intro nq
                    have e2 : toldS s r = (257 + A.1, l, r2) := by rw [HTD.out, if_neg (by rw [HVD.out, HLA.out]; simp [hv0])]
                    have hl2 := HLA.out
                    have hl3 := HAN.out
                    unfold ToldQ
                    rw [e2]
                    dsimp only
                    rw [if_pos he2]
                    exact ⟨T.out.rd.drewN nq, T.out.kept.drewN nq, g2, _, _, rfl, Nat.le_trans T.out.wB hgB, hgl, hAl.kept rfl, by omega, by omega, by omega, by omega, T.out.small⟩
                  have HPOS := Lib.hid hpos; clear hpos
                  go_wp2_with fail
                  go_quiet (fail)
                  go_wp2
                  go_ret2
                  exact HPOS.out _
          · have hee : (r2.err == 0) = false := by simp [he2]
            have hne : (r2.err != 0) = true := by simp [he2]
            have hfe := HFE.out r2 he2 (T.out.eqE he2)
            have HFE2 := Lib.hid hfe; clear hfe
            by_cases hlen : l.length < all
            · have hdl : decide ((l.length : Int) < (all : Int)) = true := by simp; omega
              go_wp2
              go_ret2
              exact ToldQ.neg (by rw [HFE2.out]; exact he2) (by rw [HFE2.out]; exact T.out.rd) T.out.kept
            · have hdl : decide ((l.length : Int) < (all : Int)) = false := by simp; omega
              go_wp2
              go_ret2
              exact ToldQ.neg (by rw [HFE2.out]; exact he2) (by rw [HFE2.out]; exact T.out.rd) T.out.kept
end Go.Proofs.Ytcgcacegkbbmiaa
