/- What the reference of chapter 22 does: New, Offer, Take, Has. -/
import Derived.Test.YtppagjglfpnfbaaRooms
import Derived.RegionTactic
import Derived.BigRegion
import Derived.BigQuiet
import Derived.Deep.RegionHeld3
import Derived.Deep.RegionLaw
namespace Go.Proofs.Ytppagjglfpnfbaa
open Go.RowKit Go.Conc Go.Maps

theorem info55 : (Try.prog.info? 55).map (fun i => (i.zero, i.size, i.bytes)) = some (some (.agg #[.int .i64 0, .string .empty, .bool false, .string .empty, .string .empty, .string .empty, .slice none 0 0, .int .i64 0, .int .i64 0]), 9, 120) := by kernel_rfl

/-- The reference's pool at block x. -/
structure RP (w : World) (B x room : Nat) (l : List It) (va : Option Addr) (vc : Nat) : Prop where
  bx : B ≤ x
  hx : w.heap[x]? = some (.cells #[.int .i64 (room : Int), .slice va l.length vc] 41)
  own : w.ownsRow B 55 9 (.slice va l.length vc) l.length (flat l)
  fits : l.length ≤ room
  small : room ≤ 8

/-- The block of a slice. -/
def blk (va : Option Addr) : List Nat := match va with | some a => [a.block] | none => []
theorem mem_blk {va : Option Addr} {n c k : Nat} : k ∈ blk va ↔ (Value.slice va n c).ownBlock = some k := by
  cases va with
  | none => simp [blk, Value.ownBlock]
  | some a => simp [blk, Value.ownBlock, eq_comm]

/-- A row of the call's own lies in a block of cells of its element's type. -/
theorem row_block {w : World} {B e size n : Nat} {va : Option Addr} {vc : Nat} {xs : List Value} (h : w.ownsRow B e size (.slice va n vc) n xs) {k : Nat} (hk : k ∈ blk va) : B ≤ k ∧ ∃ cur, w.heap[k]? = some (.cells cur e (0, 0)) := by
  rw [mem_blk (n := n) (c := vc)] at hk
  rcases h.2 with ⟨hv, _⟩ | ⟨g, cap, cur, hv, hb, hg, _⟩
  · rw [hv] at hk; cases hk
  · rw [hv] at hk
    obtain rfl : g = k := by simpa [Value.ownBlock] using hk
    exact ⟨hb, cur, hg⟩

set_option maxHeartbeats 400000 in
theorem rnew_bad (n : Int) (w : World) (h : n < 1 ∨ 8 < n) :
    Calls Try.prog 8 #[.int .i64 n] w fun e w' => e = .returned (.pointer none) ∧ w = w' := by
  rcases h with h | h
  · go_enter Try.func8, Try.ntmps8
    go_wp2
    go_ret
    exact ⟨rfl, rfl⟩
  · have h' : ¬ n < 1 := by omega
    go_enter Try.func8, Try.ntmps8
    go_wp2
    go_ret
    exact ⟨rfl, rfl⟩

set_option maxHeartbeats 400000 in
theorem rnew_any (room : Nat) (w : World) (h1 : 1 ≤ room) (h8 : room ≤ 8) :
    Calls Try.prog 8 #[.int .i64 (room : Int)] w fun e w' => e = .returned (.pointer (some ⟨w.heap.size, 0, none⟩)) ∧
      Below w.heap.size w w' ∧ w'.heap.size = w.heap.size + 1 ∧ RP w' w.heap.size w.heap.size room [] none 0 := by
  have hd1 : ¬ ((room : Int) < 1) := by omega
  have hd2 : ¬ ((8 : Int) < (room : Int)) := by omega
  go_enter Try.func8, Try.ntmps8
  go_wp2
  go_ret
  exact ⟨rfl, (Below.refl _ _).alloc (Nat.le_refl _) _, by simp, Nat.le_refl _, heap_alloc_new _ _, World.ownsRow_nil _ _ _ _, Nat.zero_le _, h8⟩

set_option maxHeartbeats 400000 in
theorem rtake_any {B x room : Nat} {l : List It} {va : Option Addr} {vc : Nat} (w : World) (H : RP w B x room l va vc) :
    Calls Try.prog 15 #[.pointer (some ⟨x, 0, none⟩)] w fun e w' => e = .returned (.slice va l.length vc) ∧ RP w' B x room [] none 0 ∧ w'.ownsRow B 55 9 (.slice va l.length vc) l.length (flat l) ∧ KeptBut [x] w w' := by
  have h1 : w.cell? ⟨x, 1, none⟩ = some (.slice va l.length vc) := by rw [cell_at H.hx]; rfl
  have hf : w.frozen? ⟨x, 1, none⟩ = false := frozen_of_row w _ 1 _ _ H.hx
  have hne : ∀ k, k ∈ blk va → k ≠ x := fun k hk e => by
    obtain ⟨_, cur, hc⟩ := row_block H.own hk
    rw [e, H.hx] at hc; cases hc
  have hk : KeptBut [x] w (w.setCell ⟨x, 1, none⟩ (.slice none 0 0)) := (KeptBut.refl _ _).setCell (by simp) _
  have hR : RP (w.setCell ⟨x, 1, none⟩ (.slice none 0 0)) B x room [] none 0 :=
    ⟨H.bx, by rw [heap_setCell_same _ _ _ _ _ _ H.hx]; rfl, World.ownsRow_nil _ _ _ _, Nat.zero_le _, H.small⟩
  have hO : (w.setCell ⟨x, 1, none⟩ (.slice none 0 0)).ownsRow B 55 9 (.slice va l.length vc) l.length (flat l) := by
    refine ⟨H.own.1, ?_⟩
    rcases H.own.2 with hn | ⟨g, cap, cur, hv, hb, hg, r⟩
    · exact .inl hn
    · refine .inr ⟨g, cap, cur, hv, hb, ?_, r⟩
      rw [heap_setCell_other _ _ _ _ (hne g ((mem_blk (n := l.length) (c := vc)).2 (by rw [hv]; rfl)))]; exact hg
  have HR := Lib.hid hR; clear hR
  have HO := Lib.hid hO; clear hO
  have HK := Lib.hid hk; clear hk
  clear H
  go_enter Try.func15, Try.ntmps15
  go_wp2
  go_ret
  exact ⟨rfl, HR.out, HO.out, HK.out⟩

set_option maxRecDepth 100000 in
set_option maxHeartbeats 1000000 in
theorem roffer_full {B x room : Nat} {l : List It} {va : Option Addr} {vc : Nat} (it : It) (w : World) (H : RP w B x room l va vc) (hfull : room ≤ l.length) :
    Calls Try.prog 14 #[.pointer (some ⟨x, 0, none⟩), it.val] w fun e w' => e = .returned (.int .i64 4) ∧ Below w.heap.size w w' := by
  have h0 : w.cell? ⟨x, 0, none⟩ = some (.int .i64 (room : Int)) := by rw [cell_at H.hx]; rfl
  have h1 : w.cell? ⟨x, 1, none⟩ = some (.slice va l.length vc) := by rw [cell_at H.hx]; rfl
  have hxl : x < w.heap.size := (Array.getElem?_eq_some_iff.1 H.hx).1
  have hd : decide ((room : Int) ≤ (l.length : Int)) = true := by simp; omega
  clear H
  unfold It.val
  go_enter Try.func14, Try.ntmps14
  go_wp2
  go_quiet (fail)
  go_wp2
  go_ret
  exact ⟨rfl, ((Below.refl _ _).alloc (Nat.le_refl _) _).trans ⟨rfl, rfl, rfl, Nat.le_refl _, fun _ _ => rfl⟩⟩

set_option maxRecDepth 100000 in
set_option maxHeartbeats 3200000 in
theorem roffer_room {B x room : Nat} {l : List It} {va : Option Addr} {vc : Nat} (it : It) (w : World) (hB : B ≤ w.heap.size) (H : RP w B x room l va vc) (hroom : l.length < room) :
    Calls Try.prog 14 #[.pointer (some ⟨x, 0, none⟩), it.val] w fun e w' => e = .returned (.int .i64 0) ∧ (∃ va' vc', RP w' B x room (l ++ [it]) va' vc') ∧ KeptBut (x :: blk va) w w' := by
  have h0 : w.cell? ⟨x, 0, none⟩ = some (.int .i64 (room : Int)) := by rw [cell_at H.hx]; rfl
  have h1 : w.cell? ⟨x, 1, none⟩ = some (.slice va l.length vc) := by rw [cell_at H.hx]; rfl
  have hxl : x < w.heap.size := (Array.getElem?_eq_some_iff.1 H.hx).1
  have hd : decide ((room : Int) ≤ (l.length : Int)) = false := by simp; omega
  have h8 := H.small
  have hfit := H.fits
  have HH := Lib.hid H; clear H
  obtain ⟨i55, hi, hz0, hz1, hz2⟩ := info_parts info55
  unfold It.val
  go_enter Try.func14, Try.ntmps14
  go_wp2
  go_quiet (fail)
  go_wp2
  obtain ⟨bx, hbx⟩ : ∃ bx, bx = w.heap.size := ⟨_, rfl⟩
  rw [← hbx]
  generalize hW : World.drewN (w.alloc _) nq = W
  have hbox : W.heap[bx]? = some (.cells #[.int .i64 it.id, .string it.name, .bool it.pre, .string it.body, .string it.key, .string it.full, .slice it.ca it.cl it.cc, .int .i64 it.time, .int .i64 it.idx] 55) := by
    rw [← hW, hbx]; exact heap_alloc_new w _
  have hkW : KeptBut [] w W := by rw [← hW]; exact ((KeptBut.refl _ _).alloc _).trans ⟨rfl, rfl, rfl, Nat.le_refl _, fun _ _ _ => rfl⟩
  have hsW : W.heap.size = w.heap.size + 1 := by rw [← hW]; simp
  have hx : W.heap[x]? = some (.cells #[.int .i64 (room : Int), .slice va l.length vc] 41) := (hkW.block x hxl (by simp)).trans HH.out.hx
  have hown : W.ownsRow B 55 9 (.slice va l.length vc) l.length (flat l) := by
    refine ⟨HH.out.own.1, ?_⟩
    rcases HH.out.own.2 with hn | ⟨g, cap, cur, hv, hb, hg, r⟩
    · exact .inl hn
    · exact .inr ⟨g, cap, cur, hv, hb, (hkW.block g (Array.getElem?_eq_some_iff.1 hg).1 (by simp)).trans hg, r⟩
  have hbW : B ≤ W.heap.size := by omega
  have hxo : (Value.slice va l.length vc).ownBlock ≠ some x := fun e => by
    obtain ⟨_, cur, hc⟩ := row_block hown ((mem_blk (n := l.length) (c := vc)).2 e)
    rw [hx] at hc; cases hc
  have hxW : x < W.heap.size := by omega
  have hbxW : bx < W.heap.size := by omega
  have hbo : (Value.slice va l.length vc).ownBlock ≠ some bx := fun e => by
    have := HH.out.own.lt bx e; omega
  have c1 : W.cell? ⟨x, 1, none⟩ = some (.slice va l.length vc) := by rw [cell_at hx]; rfl
  have f1 : W.frozen? ⟨x, 1, none⟩ = false := frozen_of_row W _ 1 _ _ hx
  have b0 : W.cell? ⟨bx, 0, none⟩ = some (.int .i64 it.id) := by rw [cell_at hbox]; rfl
  have b1 : W.cell? ⟨bx, 1, none⟩ = some (.string it.name) := by rw [cell_at hbox]; rfl
  have b2 : W.cell? ⟨bx, 2, none⟩ = some (.bool it.pre) := by rw [cell_at hbox]; rfl
  have b3 : W.cell? ⟨bx, 3, none⟩ = some (.string it.body) := by rw [cell_at hbox]; rfl
  have b4 : W.cell? ⟨bx, 4, none⟩ = some (.string it.key) := by rw [cell_at hbox]; rfl
  have b5 : W.cell? ⟨bx, 5, none⟩ = some (.string it.full) := by rw [cell_at hbox]; rfl
  have b6 : W.cell? ⟨bx, 6, none⟩ = some (.slice it.ca it.cl it.cc) := by rw [cell_at hbox]; rfl
  have b7 : W.cell? ⟨bx, 7, none⟩ = some (.int .i64 it.time) := by rw [cell_at hbox]; rfl
  have b8 : W.cell? ⟨bx, 8, none⟩ = some (.int .i64 it.idx) := by rw [cell_at hbox]; rfl
  have HX := Lib.hid hx; clear hx
  have HBX := Lib.hid hbox; clear hbox
  have HO := Lib.hid hown; clear hown
  have HK := Lib.hid hkW; clear hkW
  have HW := Lib.hid hW; clear hW
  have HS := Lib.hid hsW; clear hsW
  have HE := Lib.hid hbx; clear hbx
  clear h0 h1 hd hxl
  go_region_law
    ((refine step_append_lies _ (by rfl) _ _ _ (by rfl) B 55 i55 _ 9 120 Try.underlying39 hi hz0 hz1 hz2 rfl (by omega) (.slice va l.length vc) l.length (flat l) (by rfl) ((HO.out.alloc _).drew)
        ⟨W.heap.size, 0, none⟩ 1 1 it.cells (by rfl) (by rfl) (World.news_of_block (cs := #[.int .i64 it.id, .string it.name, .bool it.pre, .string it.body, .string it.key, .string it.full, .slice it.ca it.cl it.cc, .int .i64 it.time, .int .i64 it.idx]) (t := 55) (fr := (0, 0)) (heap_alloc_new W _)) (by simp [It.cells, Value.oneCell'])
        (by omega) (by unfold maxLen; omega) (by omega) (by simp; omega) (W.heap.size + 1) (by simp) ?_; intro gg cap w1 hown1 hgrow hat hlt; have hc1 : w1.cell? ⟨x, 1, none⟩ = some (.slice va l.length vc) := (hgrow.cell_far ⟨x, 1, none⟩ (by simp; omega) (Ne.symm hxo)).trans ((World.cell?_alloc_past _ _ _ hxW).trans c1); have hfz1 : w1.frozen? ⟨x, 1, none⟩ = false := (hgrow.frozen_far ⟨x, 1, none⟩ (by simp; omega) (Ne.symm hxo)).trans ((World.frozen?_alloc_past _ _ _ hxW).trans f1)))
  all_goals
    go_wp2
    go_ret
    have hx1 : w1.heap[x]? = some (.cells #[.int .i64 (room : Int), .slice va l.length vc] 41) :=
      (hgrow.block x (by simp; omega) (Ne.symm hxo)).trans ((Below.heap_alloc W _ _ hxW).trans HX.out)
    have hlen : (l ++ [it]).length = l.length + 1 := by simp
    have hgx : gg ≠ x := fun e => by
      obtain ⟨_, cur, hc⟩ := row_block hown1 (k := gg) (by simp [blk])
      rw [e, hx1] at hc; cases hc
    refine ⟨rfl, ⟨some ⟨gg, 0, none⟩, cap, HH.out.bx, ?_, ?_, by rw [hlen]; omega, h8⟩, ?_⟩
    · rw [heap_setCell_same _ _ _ _ _ _ hx1, hlen]; rfl
    · rw [flat_snoc, hlen]
      refine ⟨hown1.1, ?_⟩
      rcases hown1.2 with hn | ⟨g, cp, cur, hv, hb, hg, r⟩
      · exact .inl hn
      · refine .inr ⟨g, cp, cur, hv, hb, ?_, r⟩
        have : g = gg := by simp at hv; exact hv.1.symm
        rw [heap_setCell_other _ _ _ _ (by rw [this]; exact hgx)]; exact hg
    · have k1 : KeptBut (x :: blk va) w W := ⟨HK.out.os, HK.out.tape, HK.out.output, HK.out.size, fun j hj _ => HK.out.block j hj (by simp)⟩
      exact ((((k1.alloc _).drew).trans (KeptBut.of_grown hgrow (fun j hj => List.mem_cons_of_mem _ ((mem_blk (n := l.length) (c := vc)).2 hj)))).setCell (by simp) _)
end Go.Proofs.Ytppagjglfpnfbaa
