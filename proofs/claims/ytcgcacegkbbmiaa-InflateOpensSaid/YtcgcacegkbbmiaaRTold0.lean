/- The reference's told: what holds in its second loop. -/
import Derived.Test.YtcgcacegkbbmiaaRAgain
namespace Go.Proofs.Ytcgcacegkbbmiaa
open Go.RowKit

/-- What told says: how many lengths are of symbols, all lengths, the state. -/
def toldS (s : ByteArray) (r : St) : Nat × List Nat × St :=
  let h := dynHead s r
  let q := lensLoop s h.2.2.1 0 (fun _ => 0) h.2.2.2
  if q.2.err = 0 then
    let z := readLoop s (toList19 q.1) (h.1 + h.2.1) (h.1 + h.2.1) [] (coder (toList19 q.1) q.2)
    (h.1, z.1, if z.2.err = 0 ∧ (z.1.length ≠ h.1 + h.2.1 ∨ z.1.getD 256 0 = 0) then fail z.2 2 else z.2)
  else (h.1, [], q.2)
theorem dynamic_told (s : ByteArray) (most : Nat) (r : St) : dynamic s most r = if (toldS s r).2.2.err = 0 then block s most ((toldS s r).2.1.take (toldS s r).1) ((toldS s r).2.1.drop (toldS s r).1) (toldS s r).2.2 else (toldS s r).2.2 := by
  obtain ⟨h, hh⟩ : ∃ h, h = dynHead s r := ⟨_, rfl⟩
  obtain ⟨q, hq⟩ : ∃ q, q = lensLoop s h.2.2.1 0 (fun _ => 0) h.2.2.2 := ⟨_, rfl⟩
  by_cases h0 : q.2.err = 0
  · obtain ⟨z, hz⟩ : ∃ z, z = readLoop s (toList19 q.1) (h.1 + h.2.1) (h.1 + h.2.1) [] (coder (toList19 q.1) q.2) := ⟨_, rfl⟩
    have e1 : toldS s r = (h.1, z.1, if z.2.err = 0 ∧ (z.1.length ≠ h.1 + h.2.1 ∨ z.1.getD 256 0 = 0) then fail z.2 2 else z.2) := by
      unfold toldS
      dsimp only
      rw [← hh, ← hq, if_pos h0, ← hz]
    have e2 : dynamic s most r = dynTail s most h.1 h.2.1 z.1 z.2 := by
      unfold dynamic
      dsimp only
      rw [← hh, ← hq, if_pos h0, ← hz]
    rw [e1, e2]
    unfold dynTail
    dsimp only
    obtain ⟨c, hc⟩ : ∃ c, c = (if z.2.err = 0 ∧ (z.1.length ≠ h.1 + h.2.1 ∨ z.1.getD 256 0 = 0) then fail z.2 2 else z.2) := ⟨_, rfl⟩
    rw [← hc]
    by_cases h1 : z.2.err = 0
    · by_cases h2 : z.1.length ≠ h.1 + h.2.1 ∨ z.1.getD 256 0 = 0
      · rw [if_pos ⟨h1, h2⟩] at hc
        rw [if_pos h1, if_pos h2, hc, if_neg (fail_err_ne (by decide))]
      · rw [if_neg (fun k => h2 k.2)] at hc
        rw [if_pos h1, if_neg h2, hc, if_pos h1]
    · rw [if_neg (fun k => h1 k.1)] at hc
      rw [if_neg h1, hc, if_neg h1]
  · have e1 : toldS s r = (h.1, [], q.2) := by
      unfold toldS
      dsimp only
      rw [← hh, ← hq, if_neg h0]
    have e2 : dynamic s most r = q.2 := by
      unfold dynamic
      dsimp only
      rw [← hh, ← hq, if_neg h0]
    rw [e1, e2]
    dsimp only
    rw [if_neg h0]
def ToldQ (w : World) (B p : Nat) (s : ByteArray) (most : Nat) (t : Nat × List Nat × St) (va : Option Addr) (vc : Nat) (e : Ending) (w' : World) : Prop :=
  Ri w' B p s most t.2.2 va vc ∧ KeptBut [p] w w' ∧
  if t.2.2.err = 0 then ∃ g c1 c2, e = .returned (.tuple #[.slice (some ⟨g, 0, none⟩) t.1 c1, .slice (some ⟨g, t.1, none⟩) (t.2.1.length - t.1) c2]) ∧ w.heap.size ≤ g ∧ g < w'.heap.size ∧ At w' g 0 t.2.1 ∧ 257 ≤ t.1 ∧ t.1 < t.2.1.length ∧ t.2.1.length ≤ 316 ∧ t.1 ≤ 286 ∧ ∀ x ∈ t.2.1, x ≤ 15
  else e = .returned (.tuple #[.slice none 0 0, .slice none 0 0])
theorem ToldQ.neg {w : World} {B p : Nat} {s : ByteArray} {most : Nat} {t : Nat × List Nat × St} {va : Option Addr} {vc : Nat} {w' : World} (h : t.2.2.err ≠ 0) (R : Ri w' B p s most t.2.2 va vc) (k : KeptBut [p] w w') :
    ToldQ w B p s most t va vc (.returned (.tuple #[.slice none 0 0, .slice none 0 0])) w' := by
  unfold ToldQ; rw [if_neg h]; exact ⟨R, k, rfl⟩

/-- The round of the lengths. -/
structure Rq (wr : World) (B p : Nat) (s : ByteArray) (most : Nat) (va : Option Addr) (vc : Nat) (w : World) (B2 q all : Nat) (L : List Nat) (x y : Sl) (rc : St) (g : Nat) (l : List Nat) (r : St) (z : Sl) : Prop where
  rd : Ri wr B p s most r va vc
  kept : KeptBut [p] w wr
  big : B2 ≤ wr.heap.size
  wB : w.heap.size ≤ B2
  vaB : ∀ k ∈ p :: blk va, k < B2
  bx : wr.heap[q]? = some (.cells #[.slice x.a x.n x.c, .slice y.a y.n y.c] 65)
  qB : q < B2
  qp : q ≠ p
  code : r.err = 0 → ∃ a b, Cr wr x y L a b ∧ a < B2 ∧ b < B2 ∧ a ≠ p ∧ b ≠ p
  own : Own wr B2 z l
  eq0 : r.err = 0 → readLoop s L all all [] rc = readLoop s L all g l r
  eqE : r.err ≠ 0 → (readLoop s L all all [] rc).2 = r
  left : r.err = 0 → all ≤ l.length + g
  small : ∀ v ∈ l, v ≤ 15
  len : l.length ≤ all + 200
section
variable {wr w6 w : World} {B p most vc B2 q all g : Nat} {s : ByteArray} {va : Option Addr} {L l : List Nat} {x y z : Sl} {rc r r6 : St}
theorem Rq.hp (T : Rq wr B p s most va vc w B2 q all L x y rc g l r z) : p < B2 := T.vaB p List.mem_cons_self
/-- The reader has turned; the list is as it was, or has grown. -/
theorem Rq.next {l' : List Nat} {z' : Sl} {g' : Nat} {w7 : World} (T : Rq wr B p s most va vc w B2 q all L x y rc g l r z) (k : KeptBut [p] wr w6) (R : Ri w6 B p s most r6 va vc) (A : Ag w7 w6 B2 z z' l') (h0 : r6.err = 0 → r.err = 0)
    (e0 : r6.err = 0 → readLoop s L all all [] rc = readLoop s L all g' l' r6) (eE : r6.err ≠ 0 → (readLoop s L all all [] rc).2 = r6) (hl : r6.err = 0 → all ≤ l'.length + g') (hs : ∀ v ∈ l', v ≤ 15) (hn : l'.length ≤ all + 200) :
    Rq w7 B p s most va vc w B2 q all L x y rc g' l' r6 z' := by
  have hp := T.hp
  have hz : ∀ k ∈ blk z.a, B2 ≤ k := fun k hk => (T.own.lt hk).1
  have k7 : ∀ j, j < B2 → w7.heap[j]? = w6.heap[j]? := fun j hj => A.kept.block j (Nat.lt_of_lt_of_le hj (Nat.le_trans T.big k.size)) (fun hm => by have := hz j hm; omega)
  refine ⟨?_, ?_, Nat.le_trans T.big (Nat.le_trans k.size A.kept.size), T.wB, T.vaB, ?_, T.qB, T.qp, fun h => ?_, A.own, e0, eE, hl, hs, hn⟩
  · exact ⟨R.bp, (k7 p hp).trans R.hp, row_kept R.own (fun j hj => k7 j (T.vaB j (List.mem_cons_of_mem _ hj))), R.fits, R.pos⟩
  · refine ⟨A.kept.os.trans (k.os.trans T.kept.os), A.kept.tape.trans (k.tape.trans T.kept.tape), A.kept.output.trans (k.output.trans T.kept.output), Nat.le_trans T.kept.size (Nat.le_trans k.size A.kept.size), fun j hj hn => ?_⟩
    rw [k7 j (Nat.lt_of_lt_of_le hj T.wB), k.block j (Nat.lt_of_lt_of_le hj T.kept.size) hn, T.kept.block j hj hn]
  · rw [k7 q T.qB, k.block q (Nat.lt_of_lt_of_le T.qB T.big) (by simpa using T.qp)]; exact T.bx
  · obtain ⟨a, b, C, h1, h2, h3, h4⟩ := T.code (h0 h)
    have C6 := C.kept k.size (k.block a C.la (by simpa using h3)) (k.block b C.lb (by simpa using h4))
    exact ⟨a, b, C6.kept A.kept.size (k7 a h1) (k7 b h2), h1, h2, h3, h4⟩
/-- The list as it was. -/
theorem Ag.same {w6 : World} (h : Own wr B2 z l) (k : KeptBut [p] wr w6) (hp : p < B2) : Ag w6 w6 B2 z z l :=
  ⟨h.kept (fun j hj => k.block j (h.lt hj).2 (by have := (h.lt hj).1; simp; omega)), KeptBut.refl _ _, fun _ h => .inl h⟩
/-- One more number. -/
theorem Ag.one {w6 w7 : World} {n : Nat} {o C : Nat} (h : Own w6 B2 z l) (hown : w7.ownsRow B2 3 1 (.slice (some ⟨o, 0, none⟩) (z.n + 1) C) (z.n + 1) (vals l ++ [.int .i64 (n : Int)])) (hgr : (w6.alloc (.cells #[.int .i64 (n : Int)] 3)).grownBy w7 (Value.slice z.a z.n z.c).ownBlock) (hat : (Value.slice z.a z.n z.c).ownBlock = some o ∨ o = w6.heap.size + 1) :
    Ag w7 w6 B2 z ⟨some ⟨o, 0, none⟩, z.n + 1, C⟩ (l ++ [n]) := by
  have k1 : KeptBut (blk z.a) w6 (w6.alloc (.cells #[.int .i64 (n : Int)] 3)) := (KeptBut.refl _ _).alloc _
  have k2 : KeptBut (blk z.a) (w6.alloc (.cells #[.int .i64 (n : Int)] 3)) w7 := KeptBut.of_grown hgr fun k hk => mem_blk.2 hk
  refine ⟨⟨by simp [h.1], ?_⟩, k1.trans k2, fun k hk => ?_⟩
  · rw [vals_append]; exact hown
  · obtain rfl : k = o := by simpa [blk] using hk
    rcases hat with h1 | h1
    · exact .inl (mem_blk.2 h1)
    · right; omega
end
theorem Own.move {w w' : World} {B p : Nat} {z : Sl} {l : List Nat} (h : Own w B z l) (k : KeptBut [p] w w') (hp : p < B) : Own w' B z l := h.kept (fun j hj => k.block j (h.lt hj).2 (by have := (h.lt hj).1; simp; omega))
end Go.Proofs.Ytcgcacegkbbmiaa
