/- The reference's fixed, Order, again. -/
import Derived.Test.YtcgcacegkbbmiaaRCoded
namespace Go.Proofs.Ytcgcacegkbbmiaa
open Go.RowKit

/-- A list of numbers of the call's own, at a slice. -/
def Own (w : World) (B : Nat) (x : Sl) (l : List Nat) : Prop := x.n = l.length ∧ w.ownsRow B 3 1 (.slice x.a x.n x.c) x.n (vals l)
theorem Own.nil (w : World) (B : Nat) : Own w B ⟨none, 0, 0⟩ [] := ⟨rfl, World.ownsRow_nil _ _ _ _⟩
theorem Own.kept {w w' : World} {B : Nat} {x : Sl} {l : List Nat} (h : Own w B x l) (hk : ∀ k ∈ blk x.a, w'.heap[k]? = w.heap[k]?) : Own w' B x l := ⟨h.1, row_kept h.2 hk⟩
theorem Own.lt {w : World} {B : Nat} {x : Sl} {l : List Nat} (h : Own w B x l) {k : Nat} (hk : k ∈ blk x.a) : B ≤ k ∧ k < w.heap.size := by
  obtain ⟨hb, cur, hc⟩ := row_block h.2 hk
  exact ⟨hb, (Array.getElem?_eq_some_iff.1 hc).1⟩
theorem Own.at {w : World} {B : Nat} {x : Sl} {l : List Nat} (h : Own w B x l) (hl : l ≠ []) : ∃ g, x.a = some ⟨g, 0, none⟩ ∧ B ≤ g ∧ g < w.heap.size ∧ At w g 0 l ∧ l.length ≤ x.c := by
  obtain ⟨hn, ho⟩ := h
  have hpos := List.length_pos_iff.2 hl
  obtain ⟨a, n, c⟩ := x
  dsimp only at hn ho
  subst hn
  rcases ho.2 with ⟨_, h0⟩ | ⟨g, cap, cur, hv, hb, hc, hcap, _⟩
  · omega
  · simp at hv
    obtain ⟨rfl, rfl⟩ := hv
    exact ⟨g, rfl, hb, (Array.getElem?_eq_some_iff.1 hc).1, own_at ho, hcap⟩

def fxOf (i : Nat) : Nat := if 255 < i ∧ i < 280 then 7 else if 143 < i ∧ i < 256 then 9 else 8
theorem fixedL_eq : (List.range 288).map fxOf = fixedL := by decide +kernel
theorem fixedD_eq : (List.range 32).map (fun _ => 5) = fixedD := by decide +kernel
/-- So many of a list of numbers have been told. -/
structure Tl (wr w : World) (B : Nat) (f : Nat → Nat) (i : Nat) (x : Sl) : Prop where
  kept : Below B w wr
  big : B ≤ wr.heap.size
  own : Own wr B x ((List.range i).map f)
theorem Tl.len {wr w : World} {B : Nat} {f : Nat → Nat} {i : Nat} {x : Sl} (h : Tl wr w B f i x) : x.n = i := by rw [h.own.1]; simp
/-- One more. -/
theorem Tl.next {wr w w1 : World} {B : Nat} {f : Nat → Nat} {i g c : Nat} {x : Sl} (h : Tl wr w B f i x) (v : Int) (hv : v = (f i : Int))
    (hown : w1.ownsRow B 3 1 (.slice (some ⟨g, 0, none⟩) (x.n + 1) c) (x.n + 1) (vals ((List.range i).map f) ++ [.int .i64 v])) (hgr : (wr.alloc (.cells #[.int .i64 v] 3)).grownBy w1 (Value.slice x.a x.n x.c).ownBlock) : Tl w1 w B f (i + 1) ⟨some ⟨g, 0, none⟩, x.n + 1, c⟩ := by
  have k : KeptBut (blk x.a) (wr.alloc (.cells #[.int .i64 v] 3)) w1 := KeptBut.of_grown hgr fun k hk => mem_blk.2 hk
  have hb : Below B (wr.alloc (.cells #[.int .i64 v] 3)) w1 := k.below (fun j hj => (h.own.lt hj).1) (by have := h.big; simp; omega)
  refine ⟨(h.kept.alloc h.big _).trans hb, by have := h.big; have := hb.size; simp at this; omega, ?_, ?_⟩
  · simp [h.len]
  · rw [List.range_succ, List.map_append, vals_append]
    subst hv
    exact hown

set_option maxRecDepth 100000 in
set_option maxHeartbeats 4000000 in
theorem rfixed_any (w : World) : Calls Try.prog 24 #[] w fun e w' => ∃ o1 c1 o2 c2, e = .returned (.tuple #[.slice (some ⟨o1, 0, none⟩) fixedL.length c1, .slice (some ⟨o2, 0, none⟩) fixedD.length c2]) ∧ Below w.heap.size w w' ∧ w.heap.size ≤ o1 ∧ o1 < w'.heap.size ∧ w.heap.size ≤ o2 ∧ o2 < w'.heap.size ∧ At w' o1 0 fixedL ∧ At w' o2 0 fixedD := by
  obtain ⟨i3, hi3, hz30, hz31, hz32⟩ := info_parts info3
  have HI3 := Lib.hid hi3
  go_enter Try.func24, Try.ntmps24
  go_wp2_with fail
  go_loopg [2, 3, 4] 288 (fun g v i _ wr => ∃ (j : Nat) (x : Sl), g = 288 - j ∧ j ≤ 288 ∧ i = .int .i64 (j : Int) ∧ v = .slice x.a x.n x.c ∧ Hid (Tl wr w w.heap.size fxOf j x))
  case atStart => exact ⟨0, ⟨none, 0, 0⟩, rfl, by omega, rfl, rfl, Lib.hid ⟨Below.refl _ _, Nat.le_refl _, Own.nil _ _⟩⟩
  case round =>
    obtain ⟨j, x, hgj, hj, rfl, rfl, T⟩ := hrel
    by_cases hlt : j < 288
    · have hd : decide ((j : Int) < 288) = true := by simp; omega
      have hxn := T.out.len
      have hcs : (255 < j ∧ j < 280) ∨ (¬ 255 < j ∧ 143 < j) ∨ ¬ 143 < j ∨ ¬ j < 280 := by omega
      have hown2 : ∀ z, (wr.alloc (.cells #[z] 3)).ownsRow w.heap.size 3 1 (.slice x.a x.n x.c) x.n (vals ((List.range j).map fxOf)) := fun z => row_kept T.out.own.2 (fun k hk => Below.heap_alloc _ _ _ (T.out.own.lt hk).2)
      have hBW := T.out.big
      have hxl : x.n ≤ 287 := by omega
      have HXN := Lib.hid hxn; clear hxn
      obtain ⟨v, hv, hfv⟩ : ∃ v : Int, v = (if 255 < j ∧ j < 280 then 7 else if 143 < j ∧ j < 256 then 9 else 8) ∧ v = (fxOf j : Int) := ⟨_, rfl, by unfold fxOf; split <;> (try split) <;> rfl⟩
      rcases hcs with h | h | h | h
      · have d1 : decide ((143 : Int) < (j : Int)) = true := by simp; omega
        have d2 : decide ((j : Int) < 256) = false := by simp; omega
        have d3 : decide ((255 : Int) < (j : Int)) = true := by simp; omega
        have d4 : decide ((j : Int) < 280) = true := by simp; omega
        obtain rfl : v = 7 := by rw [hv, if_pos h]
        have HFV := Lib.hid hfv; clear hfv hv
        have HH := Lib.hid h; clear h
        go_wp2_with (at_builtin; refine wpList_append_lies _ rfl _ _ 34 rfl w.heap.size 3 i3 _ 1 8 Try.underlying34 hi3 hz30 hz31 hz32 rfl (by decide) (.slice x.a x.n x.c) x.n _ rfl (hown2 _) ⟨wr.heap.size, 0, none⟩ 1 1 [.int .i64 7] rfl rfl ?c2 ?c3 (by decide) ?c4 ?c5 ?c6 (wr.heap.size + 1) (by simp) ?c7)
        case c2 => exact World.news_of_block (cs := #[.int .i64 7]) (t := 3) (fr := (0, 0)) (heap_alloc_new wr _)
        case c3 => intro u hu; simp at hu; subst hu; rfl
        case c4 => unfold maxLen; omega
        case c5 => omega
        case c6 => simp; omega
        case c7 =>
        intro g8 D8 w8 hown8 hg8 hat8 hlt8
        have T8 := Lib.hid (T.out.next _ HFV.out hown8 hg8)
        clear hown8 hg8 hat8 hlt8
        go_wp2
        go_roundg (288 - (j + 1))
        case measure => omega
        case rel => exact ⟨j + 1, ⟨some ⟨g8, 0, none⟩, x.n + 1, D8⟩, rfl, by omega, by go_num, rfl, T8⟩
      · have d1 : decide ((143 : Int) < (j : Int)) = true := by simp; omega
        have d2 : decide ((j : Int) < 256) = true := by simp; omega
        have d3 : decide ((255 : Int) < (j : Int)) = false := by simp; omega
        obtain rfl : v = 9 := by rw [hv, if_neg (by omega), if_pos (by omega)]
        have HFV := Lib.hid hfv; clear hfv hv
        have HH := Lib.hid h; clear h
        go_wp2_with (at_builtin; refine wpList_append_lies _ rfl _ _ 34 rfl w.heap.size 3 i3 _ 1 8 Try.underlying34 hi3 hz30 hz31 hz32 rfl (by decide) (.slice x.a x.n x.c) x.n _ rfl (hown2 _) ⟨wr.heap.size, 0, none⟩ 1 1 [.int .i64 9] rfl rfl ?c2 ?c3 (by decide) ?c4 ?c5 ?c6 (wr.heap.size + 1) (by simp) ?c7)
        case c2 => exact World.news_of_block (cs := #[.int .i64 9]) (t := 3) (fr := (0, 0)) (heap_alloc_new wr _)
        case c3 => intro u hu; simp at hu; subst hu; rfl
        case c4 => unfold maxLen; omega
        case c5 => omega
        case c6 => simp; omega
        case c7 =>
        intro g8 D8 w8 hown8 hg8 hat8 hlt8
        have T8 := Lib.hid (T.out.next _ HFV.out hown8 hg8)
        clear hown8 hg8 hat8 hlt8
        go_wp2
        go_roundg (288 - (j + 1))
        case measure => omega
        case rel => exact ⟨j + 1, ⟨some ⟨g8, 0, none⟩, x.n + 1, D8⟩, rfl, by omega, by go_num, rfl, T8⟩
      · have d1 : decide ((143 : Int) < (j : Int)) = false := by simp; omega
        have d3 : decide ((255 : Int) < (j : Int)) = false := by simp; omega
        obtain rfl : v = 8 := by rw [hv, if_neg (by omega), if_neg (by omega)]
        have HFV := Lib.hid hfv; clear hfv hv
        have HH := Lib.hid h; clear h
        go_wp2_with (at_builtin; refine wpList_append_lies _ rfl _ _ 34 rfl w.heap.size 3 i3 _ 1 8 Try.underlying34 hi3 hz30 hz31 hz32 rfl (by decide) (.slice x.a x.n x.c) x.n _ rfl (hown2 _) ⟨wr.heap.size, 0, none⟩ 1 1 [.int .i64 8] rfl rfl ?c2 ?c3 (by decide) ?c4 ?c5 ?c6 (wr.heap.size + 1) (by simp) ?c7)
        case c2 => exact World.news_of_block (cs := #[.int .i64 8]) (t := 3) (fr := (0, 0)) (heap_alloc_new wr _)
        case c3 => intro u hu; simp at hu; subst hu; rfl
        case c4 => unfold maxLen; omega
        case c5 => omega
        case c6 => simp; omega
        case c7 =>
        intro g8 D8 w8 hown8 hg8 hat8 hlt8
        have T8 := Lib.hid (T.out.next _ HFV.out hown8 hg8)
        clear hown8 hg8 hat8 hlt8
        go_wp2
        go_roundg (288 - (j + 1))
        case measure => omega
        case rel => exact ⟨j + 1, ⟨some ⟨g8, 0, none⟩, x.n + 1, D8⟩, rfl, by omega, by go_num, rfl, T8⟩
      · have d1 : decide ((143 : Int) < (j : Int)) = true := by simp; omega
        have d2 : decide ((j : Int) < 256) = false := by simp; omega
        have d3 : decide ((255 : Int) < (j : Int)) = true := by simp; omega
        have d4 : decide ((j : Int) < 280) = false := by simp; omega
        obtain rfl : v = 8 := by rw [hv, if_neg (by omega), if_neg (by omega)]
        have HFV := Lib.hid hfv; clear hfv hv
        have HH := Lib.hid h; clear h
        go_wp2_with (at_builtin; refine wpList_append_lies _ rfl _ _ 34 rfl w.heap.size 3 i3 _ 1 8 Try.underlying34 hi3 hz30 hz31 hz32 rfl (by decide) (.slice x.a x.n x.c) x.n _ rfl (hown2 _) ⟨wr.heap.size, 0, none⟩ 1 1 [.int .i64 8] rfl rfl ?c2 ?c3 (by decide) ?c4 ?c5 ?c6 (wr.heap.size + 1) (by simp) ?c7)
        case c2 => exact World.news_of_block (cs := #[.int .i64 8]) (t := 3) (fr := (0, 0)) (heap_alloc_new wr _)
        case c3 => intro u hu; simp at hu; subst hu; rfl
        case c4 => unfold maxLen; omega
        case c5 => omega
        case c6 => simp; omega
        case c7 =>
        intro g8 D8 w8 hown8 hg8 hat8 hlt8
        have T8 := Lib.hid (T.out.next _ HFV.out hown8 hg8)
        clear hown8 hg8 hat8 hlt8
        go_wp2
        go_roundg (288 - (j + 1))
        case measure => omega
        case rel => exact ⟨j + 1, ⟨some ⟨g8, 0, none⟩, x.n + 1, D8⟩, rfl, by omega, by go_num, rfl, T8⟩
    · obtain rfl : j = 288 := by omega
      have hd : decide (((288 : Nat) : Int) < 288) = false := by simp
      go_wp2_with fail
      go_loopg [5, 6] 32 (fun g v i wq => ∃ (j : Nat) (y : Sl), g = 32 - j ∧ j ≤ 32 ∧ i = .int .i64 (j : Int) ∧ v = .slice y.a y.n y.c ∧ Hid (Tl wq wr wr.heap.size (fun _ => 5) j y))
      case atStart => exact ⟨0, ⟨none, 0, 0⟩, rfl, by omega, rfl, rfl, Lib.hid ⟨Below.refl _ _, Nat.le_refl _, Own.nil _ _⟩⟩
      case round =>
        obtain ⟨j, y, hgj2, hj2, rfl, rfl, U⟩ := hrel
        by_cases hlt2 : j < 32
        · have hd : decide ((j : Int) < 32) = true := by simp; omega
          have hyn := U.out.len
          rename World => wq
          have hown2 : ∀ z, (wq.alloc (.cells #[z] 3)).ownsRow wr.heap.size 3 1 (.slice y.a y.n y.c) y.n (vals ((List.range j).map (fun _ => 5))) := fun z => row_kept U.out.own.2 (fun k hk => Below.heap_alloc _ _ _ (U.out.own.lt hk).2)
          have hBW := U.out.big
          have hyl : y.n ≤ 31 := by omega
          have HYN := Lib.hid hyn; clear hyn
          go_wp2_with (at_builtin; refine wpList_append_lies _ rfl _ _ 34 rfl wr.heap.size 3 i3 _ 1 8 Try.underlying34 hi3 hz30 hz31 hz32 rfl (by decide) (.slice y.a y.n y.c) y.n _ rfl (hown2 _) ⟨wq.heap.size, 0, none⟩ 1 1 [.int .i64 5] rfl rfl ?c2 ?c3 (by decide) ?c4 ?c5 ?c6 (wq.heap.size + 1) (by simp) ?c7)
          case c2 => exact World.news_of_block (cs := #[.int .i64 5]) (t := 3) (fr := (0, 0)) (heap_alloc_new wq _)
          case c3 => intro u hu; simp at hu; subst hu; rfl
          case c4 => unfold maxLen; omega
          case c5 => omega
          case c6 => simp; omega
          case c7 =>
          intro g8 D8 w8 hown8 hg8 hat8 hlt8
          have T8 := Lib.hid (U.out.next _ rfl hown8 hg8)
          clear hown8 hg8 hat8 hlt8
          go_wp2
          go_roundg (32 - (j + 1))
          case measure => omega
          case rel => exact ⟨j + 1, ⟨some ⟨g8, 0, none⟩, y.n + 1, D8⟩, rfl, by omega, by go_num, rfl, T8⟩
        · obtain rfl : j = 32 := by omega
          have hd : decide (((32 : Nat) : Int) < 32) = false := by simp
          go_wp2
          go_ret2
          rename World => wq
          have O1 := T.out.own
          have O2 := U.out.own
          rw [fixedL_eq] at O1
          rw [fixedD_eq] at O2
          obtain ⟨g1, e1, hb1, hl1, A1, _⟩ := O1.at (by decide)
          obtain ⟨g2, e2, hb2, hl2, A2, _⟩ := O2.at (by decide)
          have hbig := T.out.big
          have hsz := U.out.kept.size
          refine ⟨g1, x.c, g2, y.c, ?_, T.out.kept.trans (U.out.kept.mono hbig), hb1, by omega, by omega, hl2, A1.kept (U.out.kept.block g1 hl1), A2⟩
          rw [← e1, ← e2, ← O1.1, ← O2.1]; rfl
end Go.Proofs.Ytcgcacegkbbmiaa
