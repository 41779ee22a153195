/- The reference's reader: its state; bits, say. -/
import Derived.Test.YtcgcacegkbbmiaaEx
namespace Go.Proofs.Ytcgcacegkbbmiaa
open Go.RowKit

/-- The reference's reader of s at block p, with so much room. -/
structure Ri (w : World) (B p : Nat) (s : ByteArray) (most : Nat) (r : St) (va : Option Addr) (vc : Nat) : Prop where
  bp : B ≤ p
  hp : w.heap[p]? = some (.cells #[.string s, .int .i64 (r.pos : Int), .int .i64 r.err, .slice va r.out.length vc, .int .i64 (most : Int)] 50)
  own : w.ownsRow B 5 1 (.slice va r.out.length vc) r.out.length (bytes r.out)
  fits : r.out.length ≤ most
  pos : r.pos ≤ 8 * s.size

section
variable {w : World} {B p most : Nat} {s : ByteArray} {r : St} {va : Option Addr} {vc : Nat}
theorem Ri.lt (h : Ri w B p s most r va vc) : p < w.heap.size := (Array.getElem?_eq_some_iff.1 h.hp).1
theorem Ri.apart (h : Ri w B p s most r va vc) : p ∉ blk va := fun hk => by
  obtain ⟨_, cur, hc⟩ := row_block h.own hk
  rw [h.hp] at hc; cases hc
theorem Ri.blk_lt (h : Ri w B p s most r va vc) {k : Nat} (hk : k ∈ blk va) : B ≤ k ∧ k < w.heap.size := by
  obtain ⟨hb, cur, hc⟩ := row_block h.own hk
  exact ⟨hb, (Array.getElem?_eq_some_iff.1 hc).1⟩
theorem Ri.kept {w' : World} {S : List Nat} (h : Ri w B p s most r va vc) (hk : KeptBut S w w') (hp : p ∉ S) (hb : ∀ k ∈ blk va, k ∉ S) : Ri w' B p s most r va vc :=
  ⟨h.bp, (hk.block p h.lt hp).trans h.hp, row_kept h.own (fun k hk' => hk.block k (h.blk_lt hk').2 (hb k hk')), h.fits, h.pos⟩
theorem Ri.setPos (h : Ri w B p s most r va vc) (k : Nat) (hk : k ≤ 8 * s.size) : Ri (w.setCell ⟨p, 1, none⟩ (.int .i64 (k : Int))) B p s most { r with pos := k } va vc :=
  ⟨h.bp, by rw [heap_setCell_same _ _ _ _ _ _ h.hp]; rfl, row_kept h.own (fun k hk => heap_setCell_other _ _ _ _ (fun e => h.apart (by subst e; exact hk))), h.fits, hk⟩
theorem Ri.setErr (h : Ri w B p s most r va vc) (e : Int) : Ri (w.setCell ⟨p, 2, none⟩ (.int .i64 e)) B p s most { r with err := e } va vc :=
  ⟨h.bp, by rw [heap_setCell_same _ _ _ _ _ _ h.hp]; rfl, row_kept h.own (fun k hk => heap_setCell_other _ _ _ _ (fun e => h.apart (by subst e; exact hk))), h.fits, h.pos⟩
theorem Ri.c0 (h : Ri w B p s most r va vc) : w.cell? ⟨p, 0, none⟩ = some (.string s) := by rw [cell_at h.hp]; rfl
theorem Ri.c1 (h : Ri w B p s most r va vc) : w.cell? ⟨p, 1, none⟩ = some (.int .i64 (r.pos : Int)) := by rw [cell_at h.hp]; rfl
theorem Ri.c2 (h : Ri w B p s most r va vc) : w.cell? ⟨p, 2, none⟩ = some (.int .i64 r.err) := by rw [cell_at h.hp]; rfl
theorem Ri.c3 (h : Ri w B p s most r va vc) : w.cell? ⟨p, 3, none⟩ = some (.slice va r.out.length vc) := by rw [cell_at h.hp]; rfl
theorem Ri.c4 (h : Ri w B p s most r va vc) : w.cell? ⟨p, 4, none⟩ = some (.int .i64 (most : Int)) := by rw [cell_at h.hp]; rfl
theorem Ri.fr (h : Ri w B p s most r va vc) (j : Nat) : w.frozen? ⟨p, j, none⟩ = false := frozen_of_row w _ j _ _ h.hp
theorem Ri.drewN (h : Ri w B p s most r va vc) (n : Nat) : Ri (w.drewN n) B p s most r va vc :=
  h.kept (S := []) ((KeptBut.refl _ _).drewN _) (by simp) (by simp)
end

/-- A number of so many bits, while there is no error. -/
structure Gi (wr : World) (B p : Nat) (s : ByteArray) (most : Nat) (r : St) (va : Option Addr) (vc : Nat) (w : World) (j : Nat) : Prop where
  rd : Ri wr B p s most { r with pos := r.pos + j } va vc
  kept : KeptBut [p] w wr

set_option maxRecDepth 100000 in
set_option maxHeartbeats 2000000 in
theorem bits_any {B p most : Nat} {s : ByteArray} {r : St} {va : Option Addr} {vc : Nat} (k : Nat) (hk : k ≤ 32) (hs : 8 * s.size < 4611686018427387904) (w : World) (H : Ri w B p s most r va vc) :
    Calls Try.prog 22 #[.pointer (some ⟨p, 0, none⟩), .int .i64 (k : Int)] w fun e w' => e = .returned (.int .i64 ((num s k r).1 : Int)) ∧ Ri w' B p s most (num s k r).2 va vc ∧ KeptBut [p] w w' := by
  by_cases he : r.err = 0
  · have hr0 := H.pos
    go_enter Try.func22, Try.ntmps22
    go_wp2_with fail
    go_loopg [5, 6] 40 (fun g n i wr => ∃ j : Nat, g = 40 - j ∧ j ≤ k ∧ i = .int .i64 (j : Int) ∧ n = .int .i64 (val s r.pos j : Int) ∧ Hid (Gi wr B p s most r va vc w j))
    case atStart => exact ⟨0, rfl, Nat.zero_le _, rfl, rfl, Lib.hid ⟨H, KeptBut.refl _ _⟩⟩
    case round =>
      obtain ⟨j, hgj, hj, rfl, rfl, G⟩ := hrel
      have c0 := G.out.rd.c0
      have c1 := G.out.rd.c1
      have c2 := G.out.rd.c2
      have f1 := G.out.rd.fr 1
      have f2 := G.out.rd.fr 2
      have hpos := G.out.rd.pos
      simp only [he] at c2 c1 hpos
      obtain ⟨P, hP⟩ : ∃ P, P = r.pos + j := ⟨_, rfl⟩
      rw [← hP] at c1 hpos
      have hvs := val_step s r.pos j
      rw [← hP] at hvs
      have HV := Lib.hid hvs; clear hvs
      have HP := Lib.hid hP; clear hP
      by_cases hlt : j < k
      · have hd : decide ((j : Int) < (k : Int)) = true := by simp; omega
        have hz : ((0 : Int) == 0) = true := rfl
        by_cases hin : P < 8 * s.size
        · have hi0 : (0 : Int) ≤ (P : Int) / 8 := by omega
          have hi1 : (P : Int) / 8 < (s.size : Int) := by omega
          have hd8 : decide ((s.size : Int) ≤ (P : Int) / 8) = false := by simp; omega
          go_wp2_with fail
          go_quiet (fail)
          go_wp2_with fail
          go_quiet (fail)
          go_wp2_with fail
          go_roundg (40 - (j + 1))
          case measure => omega
          case rel =>
            refine ⟨j + 1, rfl, hlt, by go_num, ?_, Lib.hid ⟨?_, ?_⟩⟩
            · rw [HV.out (by omega) (by omega)]
            · have e := HP.out
              rw [show r.pos + (j + 1) = P + 1 from by omega]
              exact (G.out.rd.drewN _).setPos (P + 1) (by omega)
            · exact (G.out.kept.drewN _).setCell (by simp) _
        · have hd8 : decide ((s.size : Int) ≤ (P : Int) / 8) = true := by simp; omega
          go_wp2_with fail
          go_quiet (fail)
          go_wp2_with fail
          go_ret
          have e := HP.out
          have hnum : num s k r = (0, { r with pos := 8 * s.size, err := 2 }) := by
            unfold num; rw [if_pos he, if_neg (by omega)]
          rw [hnum]
          refine ⟨rfl, ?_, (G.out.kept.drewN _).setCell (by simp) _⟩
          have := (G.out.rd.drewN 1).setErr 2
          rw [show r.pos + j = 8 * s.size from by omega] at this
          exact (G.out.rd.drewN _).setErr 2 |> fun h => by rw [show r.pos + j = 8 * s.size from by omega] at h; exact h
      · obtain rfl : j = k := by omega
        have hd : decide ((j : Int) < (j : Int)) = false := by simp
        go_wp2
        go_ret
        have e := HP.out
        have hnum : num s j r = (val s r.pos j, { r with pos := r.pos + j }) := by
          unfold num; rw [if_pos he, if_pos (by omega)]
        rw [hnum]
        exact ⟨rfl, G.out.rd, G.out.kept⟩
  · have hne : (r.err == 0) = false := by simp [he]
    have hnum : num s k r = (0, r) := by unfold num; rw [if_neg he]
    rw [hnum]
    have c2 := H.c2
    have HH := Lib.hid H; clear H
    go_enter Try.func22, Try.ntmps22
    go_wp2_with fail
    go_loopg [5, 6] 40 (fun g n i wr => i = .int .i64 0 ∧ n = .int .i64 0 ∧ wr = w)
    case atStart => exact ⟨rfl, rfl, rfl⟩
    case round =>
      obtain ⟨rfl, rfl, rfl⟩ := hrel
      by_cases hk0 : 0 < k
      · have hd : decide ((0 : Int) < (k : Int)) = true := by simp; omega
        go_wp2
        go_ret
        exact ⟨rfl, HH.out, KeptBut.refl _ _⟩
      · have hd : decide ((0 : Int) < (k : Int)) = false := by simp; omega
        go_wp2
        go_ret
        exact ⟨rfl, HH.out, KeptBut.refl _ _⟩

set_option maxRecDepth 100000 in
set_option maxHeartbeats 2000000 in
theorem rsay_any {B p most : Nat} {s : ByteArray} {r : St} {va : Option Addr} {vc : Nat} (b : UInt8) (hm : most ≤ 1048576) (w : World) (hB : B ≤ w.heap.size) (H : Ri w B p s most r va vc) :
    Calls Try.prog 34 #[.pointer (some ⟨p, 0, none⟩), .int .u8 (b.toNat : Int)] w fun e w' => e = .returned (.tuple #[]) ∧ ∃ va' vc', Ri w' B p s most (say most b r) va' vc' ∧ Mv p w va w' va' := by
  have c2 := H.c2
  have c3 := H.c3
  have c4 := H.c4
  have f2 := H.fr 2
  have hfit := H.fits
  by_cases he : r.err = 0
  · have hee : (r.err == 0) = true := by simp [he]
    by_cases hl : r.out.length = most
    · have hs : say most b r = { r with err := 9 } := by unfold say; rw [if_pos he, if_pos hl]
      rw [hs]
      have HH := Lib.hid H; clear H hs
      have hd : decide ((most : Int) ≤ (r.out.length : Int)) = true := by simp; omega
      go_enter Try.func34, Try.ntmps34
      go_wp2_with fail
      go_quiet (fail)
      go_wp2_with fail
      go_end0
      exact ⟨rfl, va, vc, (HH.out.drewN _).setErr 9, Mv.of _ (((KeptBut.refl _ _).drewN _).setCell (by simp) _)⟩
    · have hs : say most b r = { r with out := r.out ++ [b] } := by unfold say; rw [if_pos he, if_neg hl]
      rw [hs]
      have hd : decide ((most : Int) ≤ (r.out.length : Int)) = false := by simp; omega
      obtain ⟨i5, hi, hz0, hz1, hz2⟩ := info_parts info5
      have HH := Lib.hid H; clear H hs
      go_enter Try.func34, Try.ntmps34
      go_wp2_with fail
      go_quiet (fail)
      generalize hW : World.drewN _ _ = W
      have HW : Ri W B p s most r va vc := by rw [← hW]; exact HH.out.drewN _
      have KW : KeptBut [p] w W := by rw [← hW]; exact (KeptBut.refl _ _).drewN _
      have hbW : B ≤ W.heap.size := Nat.le_trans hB KW.size
      have d2 := HW.c2
      have d3 := HW.c3
      have hpl := HW.lt
      have hap := HW.apart
      have hX := Lib.hid hW; clear hW
      have HW := Lib.hid HW
      have KW := Lib.hid KW
      clear c2 c3 c4 f2
      go_wp2_with (at_builtin; refine wpList_append_lies _ rfl _ _ 36 rfl B 5 i5 _ 1 1 Try.underlying36 hi hz0 hz1 hz2 rfl (by decide) (.slice va r.out.length vc) r.out.length _ rfl (HW.out.own.alloc _) ⟨W.heap.size, 0, none⟩ 1 1 [.int .u8 (b.toNat : Int)] rfl rfl ?c1 ?c2 (by decide) ?c3 ?c4 ?c5 (W.heap.size + 1) (by simp) ?c6)
      case c1 => exact World.news_of_block (cs := #[.int .u8 (b.toNat : Int)]) (t := 5) (fr := (0, 0)) (heap_alloc_new W _)
      case c2 => intro u hu; simp at hu; subst hu; rfl
      case c3 => unfold maxLen; omega
      case c4 => omega
      case c5 => simp; omega
      case c6 =>
      intro g cap w1 hown1 hgrow hat hlt
      have hxo : (Value.slice va r.out.length vc).ownBlock ≠ some p := fun e => hap ((mem_blk (n := r.out.length) (c := vc)).2 e)
      have hp1 : w1.heap[p]? = some (.cells #[.string s, .int .i64 (r.pos : Int), .int .i64 r.err, .slice va r.out.length vc, .int .i64 (most : Int)] 50) :=
        (hgrow.block p (by simp; omega) (Ne.symm hxo)).trans ((Below.heap_alloc W _ _ hpl).trans HW.out.hp)
      have e3 : w1.cell? ⟨p, 3, none⟩ = some (.slice va r.out.length vc) := by rw [cell_at hp1]; rfl
      have g3 : w1.frozen? ⟨p, 3, none⟩ = false := frozen_of_row w1 _ 3 _ _ hp1
      have HP1 := Lib.hid hp1; clear hp1
      have HO1 := Lib.hid hown1; clear hown1
      have HG := Lib.hid hgrow; clear hgrow
      go_wp2
      go_end0
      refine ⟨rfl, some ⟨g, 0, none⟩, cap, ⟨HH.out.bp, ?_, ?_, by simp; omega, HH.out.pos⟩, ⟨?_, ?_⟩⟩
      · rw [heap_setCell_same _ _ _ _ _ _ HP1.out]
        simp [List.length_append]
      · rw [bytes_snoc]
        have hgp : g ≠ p := fun e => by
          obtain ⟨_, cur, hc⟩ := row_block HO1.out (k := g) (by simp [blk])
          rw [e, HP1.out] at hc; cases hc
        have := row_kept (w' := w1.setCell ⟨p, 3, none⟩ (.slice (some ⟨g, 0, none⟩) (r.out.length + 1) cap)) HO1.out (fun k hk => heap_setCell_other _ _ _ _ (by simp [blk] at hk; subst hk; exact hgp))
        rw [show (r.out ++ [b]).length = r.out.length + 1 from by simp]
        exact this
      · have k1 : KeptBut (p :: blk va) w W := KW.out.mono (by simp)
        exact ((k1.alloc _).trans (KeptBut.of_grown HG.out (fun j hj => List.mem_cons_of_mem _ ((mem_blk (n := r.out.length) (c := vc)).2 hj)))).setCell (by simp) _
      · intro k hk
        obtain rfl : k = g := by simpa [blk] using hk
        have := KW.out.size
        rcases hat with h1 | h1
        · exact .inl ((mem_blk (n := r.out.length) (c := vc)).2 h1)
        · exact .inr (by omega)
  · have hs : say most b r = r := by unfold say; rw [if_neg he]
    rw [hs]
    have hee : (r.err == 0) = false := by simp [he]
    have HH := Lib.hid H; clear H hs
    go_enter Try.func34, Try.ntmps34
    go_wp2_with fail
    go_quiet (fail)
    go_wp2
    go_end0
    exact ⟨rfl, va, vc, HH.out.drewN _, (Mv.refl _ _ _).drewN _⟩
end Go.Proofs.Ytcgcacegkbbmiaa
