/- The reference's Order, again. -/
import Derived.Test.YtcgcacegkbbmiaaRFixed
namespace Go.Proofs.Ytcgcacegkbbmiaa
open Go.RowKit

theorem ord_arr : (#[.int .i64 16, .int .i64 17, .int .i64 18, .int .i64 0, .int .i64 8, .int .i64 7, .int .i64 9, .int .i64 6, .int .i64 10, .int .i64 5, .int .i64 11, .int .i64 4, .int .i64 12, .int .i64 3, .int .i64 13, .int .i64 2, .int .i64 14, .int .i64 1, .int .i64 15] : Array Value) = ints 19 fun i => ord.getD i 0 := by kernel_rfl
set_option maxRecDepth 100000 in
set_option maxHeartbeats 1000000 in
theorem order_any (w : World) : Calls Try.prog 38 #[] w fun e w' => e = .returned (.slice (some ⟨w.heap.size, 0, none⟩) 19 19) ∧ w' = w.alloc (.cells (ints 19 fun i => ord.getD i 0) 3) := by
  go_enter Try.func38, Try.ntmps38
  go_wp2_with fail
  go_ret
  exact ⟨rfl, by rw [← ord_arr]⟩

/-- A list that has grown in its own row, or in a new one. -/
structure Gr (w w' : World) (B : Nat) (x x' : Sl) (l' : List Nat) : Prop where
  own : Own w' B x' l'
  kept : KeptBut (blk x.a) w w'
theorem KeptBut.grow {w w1 w2 : World} {x x1 : Sl} (h : KeptBut (blk x.a) w w1) (o : ∀ k ∈ blk x1.a, k ∈ blk x.a ∨ w.heap.size ≤ k) (k : KeptBut (blk x1.a) w1 w2) : KeptBut (blk x.a) w w2 :=
  ⟨k.os.trans h.os, k.tape.trans h.tape, k.output.trans h.output, Nat.le_trans h.size k.size, fun j hj hn => (k.block j (Nat.lt_of_lt_of_le hj h.size) (fun hm => by
    rcases o j hm with h1 | h1
    · exact hn h1
    · omega)).trans (h.block j hj hn)⟩

/-- The round of again. -/
structure Ag (wr w : World) (B : Nat) (x x' : Sl) (l' : List Nat) : Prop where
  own : Own wr B x' l'
  kept : KeptBut (blk x.a) w wr
  near : ∀ k ∈ blk x'.a, k ∈ blk x.a ∨ w.heap.size ≤ k

set_option maxRecDepth 100000 in
set_option maxHeartbeats 2000000 in
theorem again_any {B p most B2 : Nat} {s : ByteArray} {r : St} {va : Option Addr} {vc : Nat} (x : Sl) (l : List Nat) (n t : Nat) (hll : l.length ≤ 400) (ht : t ≤ 300) (w : World) (hB2 : B2 ≤ w.heap.size) (hp : p < B2) (H : Ri w B p s most r va vc) (O : Own w B2 x l) :
    Calls Try.prog 39 #[.pointer (some ⟨p, 0, none⟩), .slice x.a x.n x.c, .int .i64 (n : Int), .int .i64 (t : Int)] w fun e w' => ∃ x' : Sl, e = .returned (.slice x'.a x'.n x'.c) ∧ Ag w' w B2 x x' (l ++ List.replicate (if r.err = 0 then t else 0) n) := by
  obtain ⟨i3, hi3, hz30, hz31, hz32⟩ := info_parts info3
  have HI3 := Lib.hid hi3
  have c2 := H.c2
  have hpl := H.lt
  by_cases he : r.err = 0
  · have hee : (r.err == 0) = true := by simp [he]
    rw [if_pos he]
    go_enter Try.func39, Try.ntmps39
    go_wp2_with fail
    go_loopg [1, 9] t (fun g v i wr => ∃ (j : Nat) (x' : Sl), g = t - j ∧ j ≤ t ∧ i = .int .i64 (j : Int) ∧ v = .slice x'.a x'.n x'.c ∧ Hid (Ag wr w B2 x x' (l ++ List.replicate j n)))
    case atStart => exact ⟨0, x, rfl, Nat.zero_le _, rfl, rfl, Lib.hid ⟨by simpa using O, KeptBut.refl _ _, fun k hk => .inl hk⟩⟩
    case round =>
      obtain ⟨j, x', hgj, hj, rfl, rfl, G⟩ := hrel
      have hpx : p ∉ blk x.a := fun hk => by have := (O.lt hk).1; omega
      have c2r : wr.cell? ⟨p, 2, none⟩ = some (.int .i64 r.err) := (World.cell?_of_block (a := ⟨p, 2, none⟩) (G.out.kept.block p hpl hpx)).trans c2
      by_cases hlt : j < t
      · have hd : decide ((j : Int) < (t : Int)) = true := by simp; omega
        have hxn : x'.n = l.length + j := by rw [G.out.own.1]; simp
        have hxl : x'.n ≤ 700 := by omega
        have hBW : B2 ≤ wr.heap.size := Nat.le_trans hB2 G.out.kept.size
        have hown2 : ∀ z, (wr.alloc (.cells #[z] 3)).ownsRow B2 3 1 (.slice x'.a x'.n x'.c) x'.n (vals (l ++ List.replicate j n)) := fun z => row_kept G.out.own.2 (fun k hk => Below.heap_alloc _ _ _ (G.out.own.lt hk).2)
        have HXN := Lib.hid hxn; clear hxn
        go_wp2_with (at_builtin; refine wpList_append_lies _ rfl _ _ 34 rfl B2 3 i3 _ 1 8 Try.underlying34 hi3 hz30 hz31 hz32 rfl (by decide) (.slice x'.a x'.n x'.c) x'.n _ rfl (hown2 _) ⟨wr.heap.size, 0, none⟩ 1 1 [.int .i64 (n : Int)] rfl rfl ?c2 ?c3 (by decide) ?c4 ?c5 ?c6 (wr.heap.size + 1) (by simp) ?c7)
        case c2 => exact World.news_of_block (cs := #[.int .i64 (n : Int)]) (t := 3) (fr := (0, 0)) (heap_alloc_new wr _)
        case c3 => intro u hu; simp at hu; subst hu; rfl
        case c4 => unfold maxLen; omega
        case c5 => omega
        case c6 => simp; omega
        case c7 =>
        intro g8 D8 w8 hown8 hg8 hat8 hlt8
        have G8 : Ag w8 w B2 x ⟨some ⟨g8, 0, none⟩, x'.n + 1, D8⟩ (l ++ List.replicate (j + 1) n) := by
          have k1 : KeptBut (blk x.a) w (wr.alloc (.cells #[.int .i64 (n : Int)] 3)) := G.out.kept.alloc _
          have k2 : KeptBut (blk x'.a) (wr.alloc (.cells #[.int .i64 (n : Int)] 3)) w8 := KeptBut.of_grown hg8 fun k hk => mem_blk.2 hk
          refine ⟨⟨by simp [HXN.out]; omega, ?_⟩, ?_, fun k hk => ?_⟩
          · rw [List.replicate_succ', ← List.append_assoc, vals_append]
            exact hown8
          · exact ⟨k2.os.trans k1.os, k2.tape.trans k1.tape, k2.output.trans k1.output, Nat.le_trans k1.size k2.size, fun i hi hn => (k2.block i (Nat.lt_of_lt_of_le hi k1.size) (fun hm => by
              rcases G.out.near i hm with h1 | h1
              · exact hn h1
              · omega)).trans (k1.block i hi hn)⟩
          · obtain rfl : k = g8 := by simpa [blk] using hk
            rcases hat8 with h1 | h1
            · rcases G.out.near k (mem_blk.2 h1) with h2 | h2
              · exact .inl h2
              · exact .inr h2
            · right; have := G.out.kept.size; omega
        have G8 := Lib.hid G8
        clear hown8 hg8 hat8 hlt8
        go_wp2
        go_roundg (t - (j + 1))
        case measure => omega
        case rel => exact ⟨j + 1, _, rfl, by omega, by go_num, rfl, G8⟩
      · obtain rfl : j = t := by omega
        have hd : decide ((j : Int) < (j : Int)) = false := by simp
        go_wp2
        go_ret
        exact ⟨x', rfl, G.out⟩
  · have hee : (r.err == 0) = false := by simp [he]
    rw [if_neg he]
    go_enter Try.func39, Try.ntmps39
    go_wp2_with fail
    go_loopg [1, 9] t (fun g v i wr => wr = w ∧ i = .int .i64 0 ∧ v = .slice x.a x.n x.c)
    case atStart => exact ⟨rfl, rfl, rfl⟩
    case round =>
      obtain ⟨rfl, rfl, rfl⟩ := hrel
      by_cases h0 : 0 < t
      · have hd : decide ((0 : Int) < (t : Int)) = true := by simp; omega
        go_wp2
        go_ret
        exact ⟨x, rfl, by simpa using O, KeptBut.refl _ _, fun k hk => .inl hk⟩
      · have hd : decide ((0 : Int) < (t : Int)) = false := by simp; omega
        go_wp2
        go_ret
        exact ⟨x, rfl, by simpa using O, KeptBut.refl _ _, fun k hk => .inl hk⟩
end Go.Proofs.Ytcgcacegkbbmiaa
