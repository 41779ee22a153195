/- What dynamic of package inflate does. -/
import Derived.Test.YtcgcacegkbbmiaaFixed
import Derived.WalkMore
import Derived.Laws.Tables
namespace Go.Proofs.Ytcgcacegkbbmiaa
open Go.RowKit Go.Maps

def ord : List Nat := [16, 17, 18, 0, 8, 7, 9, 6, 10, 5, 11, 4, 12, 3, 13, 2, 14, 1, 15]
/-- The lengths of lengths, so many of them told. -/
def lensLoop (s : ByteArray) : Nat → Nat → (Nat → Nat) → St → (Nat → Nat) × St
  | 0, _, f, r => (f, r)
  | n + 1, i, f, r => lensLoop s n (i + 1) (fun j => if j = ord.getD i 0 then (num s 3 r).1 else f j) (num s 3 r).2
/-- The lengths, by the code of lengths. -/
def readLoop (s : ByteArray) (L : List Nat) (all : Nat) : Nat → List Nat → St → List Nat × St
  | 0, l, r => (l, r)
  | f + 1, l, r =>
    if l.length < all ∧ r.err = 0 then
      let n := sym s L r
      if n.1 = 16 then
        if l = [] then (l, fail n.2 2)
        else readLoop s L all f (l ++ List.replicate (3 + (num s 2 n.2).1) (l.getLastD 0)) (num s 2 n.2).2
      else if n.1 = 17 then readLoop s L all f (l ++ List.replicate (3 + (num s 3 n.2).1) 0) (num s 3 n.2).2
      else if n.1 = 18 then readLoop s L all f (l ++ List.replicate (11 + (num s 7 n.2).1) 0) (num s 7 n.2).2
      else readLoop s L all f (l ++ [n.1]) n.2
    else (l, r)
def toList19 (f : Nat → Nat) : List Nat := (List.range 19).map f
def dynHead (s : ByteArray) (r : St) : Nat × Nat × Nat × St :=
  let a := num s 5 r
  let b := num s 5 a.2
  let c := num s 4 b.2
  (257 + a.1, 1 + b.1, 4 + c.1, if 286 < 257 + a.1 ∨ 30 < 1 + b.1 then fail c.2 2 else c.2)
def dynTail (s : ByteArray) (most many far : Nat) (l : List Nat) (r : St) : St :=
  if r.err = 0 then
    if l.length ≠ many + far ∨ l.getD 256 0 = 0 then fail r 2
    else block s most (l.take many) (l.drop many) r
  else r
def dynamic (s : ByteArray) (most : Nat) (r : St) : St :=
  let h := dynHead s r
  let q := lensLoop s h.2.2.1 0 (fun _ => 0) h.2.2.2
  if q.2.err = 0 then
    let z := readLoop s (toList19 q.1) (h.1 + h.2.1) (h.1 + h.2.1) [] (coder (toList19 q.1) q.2)
    dynTail s most h.1 h.2.1 z.1 z.2
  else q.2

def z59 : Array Value := ints 19 fun _ => 0
def ord59 : Array Value := ints 19 fun i => ord.getD i 0
theorem zero59 (w : World) : (zeroValue 59).run Try.prog w = .ok (.agg z59) w := by kernel_rfl
theorem ord59_get {i : Nat} (h : i < 19) : ord59[i]? = some (.int .i64 (ord.getD i 0 : Int)) := ints_get _ h
theorem ord59_size : ord59.size = 19 := ints_size _ _
theorem z59_size : z59.size = 19 := ints_size _ _
theorem ord59_one : ord59.all (·.oneCell') = true := by kernel_rfl
def ordParts : Array (Nat × Operand) := #[(0, .const (.int .i64 16)), (1, .const (.int .i64 17)), (2, .const (.int .i64 18)), (3, .const (.int .i64 0)), (4, .const (.int .i64 8)), (5, .const (.int .i64 7)), (6, .const (.int .i64 9)), (7, .const (.int .i64 6)), (8, .const (.int .i64 10)), (9, .const (.int .i64 5)), (10, .const (.int .i64 11)), (11, .const (.int .i64 4)), (12, .const (.int .i64 12)), (13, .const (.int .i64 3)), (14, .const (.int .i64 13)), (15, .const (.int .i64 2)), (16, .const (.int .i64 14)), (17, .const (.int .i64 1)), (18, .const (.int .i64 15))]
def ordVals : Array (Nat × Value) := #[(0, .int .i64 16), (1, .int .i64 17), (2, .int .i64 18), (3, .int .i64 0), (4, .int .i64 8), (5, .int .i64 7), (6, .int .i64 9), (7, .int .i64 6), (8, .int .i64 10), (9, .int .i64 5), (10, .int .i64 11), (11, .int .i64 4), (12, .int .i64 12), (13, .int .i64 3), (14, .int .i64 13), (15, .int .i64 2), (16, .int .i64 14), (17, .int .i64 1), (18, .int .i64 15)]
theorem built59 : Try.prog.built 59 ordVals.toList = some ord59 := by kernel_rfl
theorem wpList_ord {ops : Array Oper} {rest : List Oper} {o : Oper} {a : Act} {w : World} {Q : Exit → Act → World → Prop} (hg : o.guard = none) (ho : o.op = .build 59 ordParts)
    (h : wpList Try.prog ops Q rest (a.put o.dst (.agg ord59)) w) : wpList Try.prog ops Q (o :: rest) a w := by
  have e : (ordParts.map fun (i, x) => (i, a.eval x)) = ordVals := by simp [ordParts, ordVals, Act.eval]
  refine wpList_build hg 59 ordParts ho (by rw [e, built59]; rfl) ?_
  rw [e, built59]
  exact h
theorem size59 : (Try.prog.info? 59).map (·.size) = some 19 := by kernel_rfl
theorem arr59 : Try.prog.arrayLen 59 = 19 ∧ Try.prog.elem 59 = 3 := ⟨by kernel_rfl, by kernel_rfl⟩
theorem slice59 (n : Nat) (hn : n ≤ 19) (o : Nat) (W : World) : (Instr.sliceAt 59 (.pointer (some ⟨o, 0, none⟩)) none (some (.int .i64 (n : Int))) none).run Try.prog W = .ok (.slice (some ⟨o, 0, none⟩) n 19) W := by
  obtain ⟨i3, hi, hz0, hz1, hz2⟩ := info_parts info3
  have := run_sliceAt_array_h (P := Try.prog) (w := W) 59 ⟨o, 0, none⟩ (by rw [arr59.1, arr59.2]; exact Try.underlying59) .i64 (n : Int) (by omega) (by rw [arr59.1]; omega)
  rw [this, arr59.1, arr59.2]
  have hadd : (⟨o, 0, none⟩ : Addr).add 0 = ⟨o, 0, none⟩ := rfl
  simp [Go.sizeOf, typeInfo, hi, hz1, slicedAt, hadd]
attribute [irreducible] z59 ord59
theorem ord_lt (i : Nat) : ord.getD i 0 < 19 := by
  by_cases h : i < 19
  · have : ∀ i, i < 19 → ord.getD i 0 < 19 := by decide
    exact this i h
  · rw [List.getD_eq_getElem?_getD, List.getElem?_eq_none (by simp [ord]; omega)]; decide

theorem KeptBut.setNew {S : List Nat} {a w : World} (h : KeptBut S a w) {p : Addr} (hp : a.heap.size ≤ p.block) (u : Value) : KeptBut S a (w.setCell p u) :=
  ⟨h.os, h.tape, h.output, by simp [World.setCell]; exact h.size, fun k hk hn => (Below.heap_setCell _ _ _ _ (by omega)).trans (h.block k hk hn)⟩

/-- The round of the lengths of lengths. -/
structure Ln (wr : World) (B p : Nat) (s : ByteArray) (most : Nat) (va : Option Addr) (vc : Nat) (w : World) (o told : Nat) (r3 : St) (j : Nat) (f : Nat → Nat) (r : St) : Prop where
  rd : Rd wr B p s most r va vc
  kept : KeptBut [p] w wr
  ho : wr.heap[o]? = some (.cells ord59 59)
  hl : wr.heap[o + 1]? = some (.cells (ints 19 f) 3)
  eq : lensLoop s told 0 (fun _ => 0) r3 = lensLoop s (told - j) j f r
  small : ∀ i, f i ≤ 7

/-- The world in the round of the lengths. -/
structure Rw (wr : World) (B p : Nat) (s : ByteArray) (most : Nat) (va : Option Addr) (vc : Nat) (w : World) (B2 : Nat) (L : List Nat) (a : Option Addr) (l : List Nat) (r : St) (la : Option Addr) (lc : Nat) : Prop where
  rd : Rd wr B p s most r va vc
  kept : KeptBut [p] w wr
  big : B2 ≤ wr.heap.size
  wB : w.heap.size ≤ B2
  vaB : ∀ k ∈ p :: blk va, k < B2
  code : r.err = 0 → ∃ c m, a = some ⟨c, 0, none⟩ ∧ Code wr c m L ∧ c ∉ p :: blk va ∧ m ∉ p :: blk va ∧ c < B2 ∧ m < B2
  own : wr.ownsRow B2 3 1 (.slice la l.length lc) l.length (vals l)
/-- The round of the lengths. -/
structure Rl (wr : World) (B p : Nat) (s : ByteArray) (most : Nat) (va : Option Addr) (vc : Nat) (w : World) (B2 all : Nat) (L : List Nat) (a : Option Addr) (rc : St) (g : Nat) (l : List Nat) (r : St) (la : Option Addr) (lc : Nat) : Prop extends Rw wr B p s most va vc w B2 L a l r la lc where
  eq : readLoop s L all all [] rc = readLoop s L all g l r
  left : all ≤ l.length + g
  small : ∀ x ∈ l, x ≤ 15
  len : l.length ≤ all + 200
theorem Rw.turn {wr w6 w : World} {B p most vc B2 lc : Nat} {s : ByteArray} {va a la : Option Addr} {L l : List Nat} {r r6 : St} (T : Rw wr B p s most va vc w B2 L a l r la lc) (k : KeptBut [p] wr w6) (R : Rd w6 B p s most r6 va vc) (he : r6.err = 0 → r.err = 0) : Rw w6 B p s most va vc w B2 L a l r6 la lc := by
  have hp : p < B2 := T.vaB p List.mem_cons_self
  refine ⟨R, T.kept.trans k, Nat.le_trans T.big k.size, T.wB, T.vaB, fun h => ?_, row_kept T.own fun j hj => ?_⟩
  · obtain ⟨c, m, e, hc, h1, h2, h3, h4⟩ := T.code (he h)
    have n1 : c ∉ [p] := fun h => h1 (by rcases List.mem_singleton.1 h with rfl; exact List.mem_cons_self)
    have n2 : m ∉ [p] := fun h => h2 (by rcases List.mem_singleton.1 h with rfl; exact List.mem_cons_self)
    exact ⟨c, m, e, hc.kept (k.block c hc.ltc n1) (k.block m hc.tab.lt n2), h1, h2, h3, h4⟩
  · obtain ⟨hb, cur, hc⟩ := row_block T.own hj
    exact k.block j (Array.getElem?_eq_some_iff.1 hc).1 (by simp; omega)
theorem Rw.below {wr w6 w : World} {B p most vc B2 lc : Nat} {s : ByteArray} {va a la : Option Addr} {L l : List Nat} {r : St} (T : Rw wr B p s most va vc w B2 L a l r la lc) (b : Below wr.heap.size wr w6) : Rw w6 B p s most va vc w B2 L a l r la lc :=
  T.turn (KeptBut.of_below b) (T.rd.kept (S := []) (KeptBut.of_below b) (by simp) (by simp)) id
theorem Rw.grown {wr w6 w : World} {B p most vc B2 lc g' n' lc' : Nat} {s : ByteArray} {va a la : Option Addr} {L l l' : List Nat} {r : St} (T : Rw wr B p s most va vc w B2 L a l r la lc) (g : wr.grownBy w6 (Value.slice la l.length lc).ownBlock)
    (hn : n' = l'.length) (o : w6.ownsRow B2 3 1 (.slice (some ⟨g', 0, none⟩) n' lc') n' (vals l')) : Rw w6 B p s most va vc w B2 L a l' r (some ⟨g', 0, none⟩) lc' := by
  subst hn
  have hS : ∀ k ∈ blk la, B2 ≤ k := fun k hk => (row_block T.own hk).1
  have k : KeptBut (blk la) wr w6 := KeptBut.of_grown g fun k hk => mem_blk.2 hk
  have hkv : ∀ k ∈ p :: blk va, k ∉ blk la := fun k hk hm => by have := T.vaB k hk; have := hS k hm; omega
  refine ⟨T.rd.kept k (hkv p List.mem_cons_self) (fun j hj => hkv j (List.mem_cons_of_mem _ hj)), ?_, Nat.le_trans T.big k.size, T.wB, T.vaB, fun h => ?_, o⟩
  · exact ⟨k.os.trans T.kept.os, k.tape.trans T.kept.tape, k.output.trans T.kept.output, Nat.le_trans T.kept.size k.size, fun j hj hn => (k.block j (Nat.lt_of_lt_of_le hj T.kept.size) (fun hm => by have := hS j hm; have := T.wB; omega)).trans (T.kept.block j hj hn)⟩
  · obtain ⟨c, m, e, hc, h1, h2, h3, h4⟩ := T.code h
    exact ⟨c, m, e, hc.kept (k.block c hc.ltc (fun hm => by have := hS c hm; omega)) (k.block m hc.tab.lt (fun hm => by have := hS m hm; omega)), h1, h2, h3, h4⟩
theorem Rw.last {wr w : World} {B p most vc B2 lc : Nat} {s : ByteArray} {va a la : Option Addr} {L l : List Nat} {r : St} (T : Rw wr B p s most va vc w B2 L a l r la lc) (h : l ≠ []) : ∃ g, la = some ⟨g, 0, none⟩ ∧ B2 ≤ g ∧ g < wr.heap.size ∧ wr.cell? ⟨g, l.length - 1, none⟩ = some (.int .i64 (l.getLastD 0 : Int)) := by
  have hpos : 0 < l.length := List.length_pos_iff.2 h
  obtain ⟨g, rfl⟩ : ∃ g, la = some ⟨g, 0, none⟩ := by
    rcases T.own.2 with ⟨_, h0⟩ | ⟨g, cap, cur, hv, _⟩
    · omega
    · simp at hv; exact ⟨g, hv.1⟩
  obtain ⟨hb, cur, hc⟩ := row_block T.own (k := g) (by simp [blk])
  refine ⟨g, rfl, hb, (Array.getElem?_eq_some_iff.1 hc).1, ?_⟩
  have := own_at T.own (l.length - 1) (l.getLastD 0) (by
    rw [← List.getLast?_eq_getElem?, List.getLastD_eq_getLast?]
    cases h' : l.getLast? with
    | none => rw [List.getLast?_eq_none_iff] at h'; exact absurd h' h
    | some x => rfl)
  rwa [Nat.zero_add] at this
theorem vals_at {w : World} {o : Nat} {L : List Nat} (h : At w o 0 L) (j : Nat) (u : Value) (hu : (vals L)[j]? = some u) : w.cell? ((⟨o, 0, none⟩ : Addr).add j) = some u := by
  unfold vals at hu
  rw [List.getElem?_map] at hu
  cases hx : L[j]? with
  | none => rw [hx] at hu; cases hu
  | some x =>
    rw [hx] at hu
    simp at hu
    subst hu
    have hadd : (⟨o, 0, none⟩ : Addr).add j = ⟨o, 0 + j, none⟩ := by unfold Addr.add; split <;> simp_all
    rw [hadd]
    exact h j x hx
theorem vals_one {L : List Nat} (u : Value) (hu : u ∈ vals L) : u.oneCell' = true := by
  unfold vals at hu
  obtain ⟨x, _, rfl⟩ := List.mem_map.1 hu
  rfl
theorem lensLoop_err {s : ByteArray} : ∀ (n i : Nat) (f : Nat → Nat) (r : St), (lensLoop s n i f r).2.err = 0 → r.err = 0
  | 0, _, _, _, h => h
  | n + 1, i, _, _, h => num_err (lensLoop_err n (i + 1) _ _ h)

theorem slice34_h (g l c m : Nat) (h : Int) (hh : h = m) (h2 : m ≤ c) (W : World) : (Instr.sliceAt 34 (.slice (some ⟨g, 0, none⟩) l c) none (some (.int .i64 h)) none).run Try.prog W = .ok (.slice (some ⟨g, 0, none⟩) m c) W := by
  subst hh
  obtain ⟨i3, hi, hz0, hz1, hz2⟩ := info_parts info3
  have he : Try.prog.elem 34 = 3 := by kernel_rfl
  have hadd : (⟨g, 0, none⟩ : Addr).add 0 = ⟨g, 0, none⟩ := rfl
  rw [run_sliceAt_slice _ _ _ _ _ _ (by rw [he]; exact Try.underlying34), run_slice_h _ _ _ _ _ (by rw [he]; exact Try.underlying34) _ _ (by omega) (by omega), he]
  simp [Go.sizeOf, typeInfo, hi, hz1, sliced, hadd]
theorem slice34_l (g l c m : Nat) (h : Int) (hh : h = m) (h1 : m ≤ l) (h2 : m < c) (W : World) : (Instr.sliceAt 34 (.slice (some ⟨g, 0, none⟩) l c) (some (.int .i64 h)) none none).run Try.prog W = .ok (.slice (some ⟨g, m, none⟩) (l - m) (c - m)) W := by
  subst hh
  obtain ⟨i3, hi, hz0, hz1, hz2⟩ := info_parts info3
  have he : Try.prog.elem 34 = 3 := by kernel_rfl
  have hadd : (⟨g, 0, none⟩ : Addr).add m = ⟨g, m, none⟩ := by unfold Addr.add; split <;> simp_all
  rw [run_sliceAt_slice _ _ _ _ _ _ (by rw [he]; exact Try.underlying34), run_slice_l _ _ _ _ _ (by rw [he]; exact Try.underlying34) _ _ (by omega) (by omega), he]
  simp [Go.sizeOf, typeInfo, hi, hz1, sliced, hadd, show c ≠ m by omega]
theorem At.take {w : World} {g off : Nat} {L : List Nat} (h : At w g off L) (n : Nat) : At w g off (L.take n) := fun i x hx => h i x (by
  rw [List.getElem?_take] at hx; split at hx
  · exact hx
  · cases hx)
theorem At.drop {w : World} {g off : Nat} {L : List Nat} (h : At w g off L) (n : Nat) : At w g (off + n) (L.drop n) := fun i x hx => by
  rw [List.getElem?_drop] at hx
  have := h (n + i) x hx
  rwa [← Nat.add_assoc] at this

set_option maxRecDepth 100000 in
set_option maxHeartbeats 4000000 in
theorem dynamic_any {B p most : Nat} {s : ByteArray} {r : St} {va : Option Addr} {vc : Nat} (hs : 8 * s.size < 4611686018427387904) (hm : most ≤ 1048576) (w : World) (hB : B ≤ w.heap.size) (H : Rd w B p s most r va vc) :
    Calls Try.prog 20 #[.pointer (some ⟨p, 0, none⟩)] w fun e w' => e = .returned (.tuple #[]) ∧ ∃ va' vc', Rd w' B p s most (dynamic s most r) va' vc' ∧ Mv p w va w' va' := by
  have hpl := H.lt
  have hz := zero59
  have hmk : ∀ w : World, (Instr.makeSlice 34 (.int .i64 19) (.int .i64 19)).run Try.prog w = .ok (.slice (some ⟨w.heap.size, 0, none⟩) 19 19) (w.alloc (.cells (ints 19 fun _ => 0) 3)) := make_ints 19 (by omega)
  have h1 := number_any 5 (by omega) hs w H
  have hal : (num s 5 r).1 < 32 := num_lt s 5 r
  obtain ⟨A, hA⟩ : ∃ A, A = num s 5 r := ⟨_, rfl⟩
  rw [← hA] at h1 hal
  have H1 := Lib.hid h1; clear h1 H
  have HA := Lib.hid hA; clear hA
  go_enter Try.func20, Try.ntmps20
  go_wp2_with fail
  go_step3
  go_wp2_with fail
  refine H1.out.mono ?_
  rintro e w1 ⟨rfl, R1, k1⟩
  have h2 := number_any 5 (by omega) hs w1 R1
  have hbl : (num s 5 A.2).1 < 32 := num_lt s 5 A.2
  obtain ⟨Bn, hB⟩ : ∃ x, x = num s 5 A.2 := ⟨_, rfl⟩
  rw [← hB] at h2 hbl
  have H2 := Lib.hid h2; clear h2 R1
  have HBN := Lib.hid hB; clear hB
  have K1 := Lib.hid k1; clear k1
  go_wp2_with fail
  refine H2.out.mono ?_
  rintro e w2 ⟨rfl, R2, k2⟩
  have h3 := number_any 4 (by omega) hs w2 R2
  have hcl : (num s 4 Bn.2).1 < 16 := num_lt s 4 Bn.2
  obtain ⟨Cn, hC⟩ : ∃ x, x = num s 4 Bn.2 := ⟨_, rfl⟩
  rw [← hC] at h3 hcl
  have H3 := Lib.hid h3; clear h3 R2
  have HCN := Lib.hid hC; clear hC
  have K2 := Lib.hid (K1.out.trans k2); clear k2
  go_wp2_with fail
  refine H3.out.mono ?_
  rintro e w3 ⟨rfl, R3, k3⟩
  have R3 := Lib.hid R3
  have K3 := Lib.hid (K2.out.trans k3); clear k3
  have hdh : ∀ x, x = (if 286 < 257 + A.1 ∨ 30 < 1 + Bn.1 then fail Cn.2 2 else Cn.2) → dynHead s r = (257 + A.1, 1 + Bn.1, 4 + Cn.1, x) := by
    intro x hx
    have e : dynHead s r = (257 + (num s 5 r).1, 1 + (num s 5 (num s 5 r).2).1, 4 + (num s 4 (num s 5 (num s 5 r).2).2).1, if 286 < 257 + (num s 5 r).1 ∨ 30 < 1 + (num s 5 (num s 5 r).2).1 then fail (num s 4 (num s 5 (num s 5 r).2).2).2 2 else (num s 4 (num s 5 (num s 5 r).2).2).2) := rfl
    rw [e, ← HA.out, ← HBN.out, ← HCN.out, hx]
  have HDH := Lib.hid hdh; clear hdh
  have hcs : 286 < 257 + A.1 ∨ (¬ 286 < 257 + A.1 ∧ 30 < 1 + Bn.1) ∨ (¬ 286 < 257 + A.1 ∧ ¬ 30 < 1 + Bn.1) := by omega
  rcases hcs with h286 | ⟨h286, h30⟩ | ⟨h286, h30⟩
  case' inl =>
    have hd1 : decide ((286 : Int) < 257 + (A.1 : Int)) = true := by simp; omega
    have HX : Hid (dynHead s r = (257 + A.1, 1 + Bn.1, 4 + Cn.1, fail Cn.2 2)) := Lib.hid (HDH.out _ (by rw [if_pos (.inl h286)]))
    have HB : Hid ((fail Cn.2 2).err = 0 → A.1 ≤ 29 ∧ Bn.1 ≤ 29) := Lib.hid (fun h => absurd h (fail_err_ne (by decide)))
    go_wp2_with fail
    refine (fail_any 2 _ R3.out).mono ?_
    rintro e w4 ⟨rfl, R4, k4⟩
    have R4 := Lib.hid R4
    have K4 := Lib.hid (K3.out.trans k4); clear k4
    obtain ⟨r4, hr4⟩ : ∃ x, x = fail Cn.2 2 := ⟨_, rfl⟩
    rw [← hr4] at HX HB R4
    have HR4 := Lib.hid hr4; clear hr4
  case' inr.inl =>
    have hd1 : decide ((286 : Int) < 257 + (A.1 : Int)) = false := by simp; omega
    have hd2 : decide ((30 : Int) < 1 + (Bn.1 : Int)) = true := by simp; omega
    have HX : Hid (dynHead s r = (257 + A.1, 1 + Bn.1, 4 + Cn.1, fail Cn.2 2)) := Lib.hid (HDH.out _ (by rw [if_pos (.inr h30)]))
    have HB : Hid ((fail Cn.2 2).err = 0 → A.1 ≤ 29 ∧ Bn.1 ≤ 29) := Lib.hid (fun h => absurd h (fail_err_ne (by decide)))
    go_wp2_with fail
    refine (fail_any 2 _ R3.out).mono ?_
    rintro e w4 ⟨rfl, R4, k4⟩
    have R4 := Lib.hid R4
    have K4 := Lib.hid (K3.out.trans k4); clear k4
    obtain ⟨r4, hr4⟩ : ∃ x, x = fail Cn.2 2 := ⟨_, rfl⟩
    rw [← hr4] at HX HB R4
    have HR4 := Lib.hid hr4; clear hr4
  case' inr.inr =>
    have hd1 : decide ((286 : Int) < 257 + (A.1 : Int)) = false := by simp; omega
    have hd2 : decide ((30 : Int) < 1 + (Bn.1 : Int)) = false := by simp; omega
    have HX : Hid (dynHead s r = (257 + A.1, 1 + Bn.1, 4 + Cn.1, Cn.2)) := Lib.hid (HDH.out _ (by rw [if_neg (by omega)]))
    have HB : Hid (Cn.2.err = 0 → A.1 ≤ 29 ∧ Bn.1 ≤ 29) := Lib.hid (fun _ => by omega)
    have R4 := R3
    have K4 := K3
    rename World => w4
    obtain ⟨r4, hr4⟩ : ∃ x, x = Cn.2 := ⟨_, rfl⟩
    rw [← hr4] at HX HB R4
    have HR4 := Lib.hid hr4; clear hr4
    clear h286 h30
  all_goals
    clear R3 K3 HDH
    have hsl : ∀ o (W : World), (Instr.sliceAt 59 (.pointer (some ⟨o, 0, none⟩)) none (some (.int .i64 (4 + (Cn.1 : Int)))) none).run Try.prog W = .ok (.slice (some ⟨o, 0, none⟩) (4 + Cn.1) 19) W := slice59 (4 + Cn.1) (by omega)
    go_wp2_with (first
      | (refine wpList_ord rfl rfl ?_)
      | (refine wpList_store_row rfl 59 _ _ rfl w4.heap.size ord59 rfl rfl 59 z59 (heap_alloc_new _ _) (by rw [size59, ord59_size]) (by rw [z59_size, ord59_size]) ord59_one ?_))
    obtain ⟨o, ho⟩ : ∃ o, o = w4.heap.size := ⟨_, rfl⟩
    rw [← ho]
    generalize hW : World.alloc _ _ = W
    have hsz : ((w4.alloc (.cells z59 59)).setRow w4.heap.size ord59).heap.size = w4.heap.size + 1 := by simp [World.setRow]
    have hrow : ((w4.alloc (.cells z59 59)).setRow w4.heap.size ord59).heap[w4.heap.size]? = some (.cells ord59 59) := setRow_heap _ _ _ _ _ _ (heap_alloc_new w4 _)
    have hbr : Below w4.heap.size w4 ((w4.alloc (.cells z59 59)).setRow w4.heap.size ord59) := below_setRow ((Below.refl _ _).alloc (Nat.le_refl _) _) (Nat.le_refl _) _
    have hkW : KeptBut [] w4 W := by rw [← hW, ho]; exact KeptBut.of_below (hbr.alloc (by omega) _)
    have HO0 : W.heap[o]? = some (.cells ord59 59) := by
      rw [← hW, ho, Below.heap_alloc _ _ _ (by omega)]; exact hrow
    have HL0 : W.heap[o + 1]? = some (.cells (ints 19 fun _ => 0) 3) := by
      have := heap_alloc_new ((w4.alloc (.cells z59 59)).setRow w4.heap.size ord59) (.cells (ints 19 fun _ => 0) 3)
      rw [hsz] at this
      rw [← hW, ho]; exact this
    have L0 : Ln W B p s most va vc w o (4 + Cn.1) r4 0 (fun _ => 0) r4 := ⟨R4.out.kept hkW (by simp) (by simp), K4.out.trans (hkW.mono (by simp)), HO0, HL0, rfl, fun _ => by omega⟩
    clear hsz hrow hbr
    clear hW HO0 HL0 hkW
    have L0 := Lib.hid L0
    have HO := Lib.hid ho; clear ho
    go_loopg [36] 40 (fun g i wr => ∃ (j : Nat) (f : Nat → Nat) (r' : St), g = 40 - j ∧ j ≤ 4 + Cn.1 ∧ i = .int .i64 (j : Int) ∧ Hid (Ln wr B p s most va vc w o (4 + Cn.1) r4 j f r'))
    case atStart => exact ⟨0, _, _, rfl, Nat.zero_le _, rfl, L0⟩
    case round =>
      obtain ⟨j, f, r', hgj, hj, rfl, G⟩ := hrel
      by_cases hlt : j < 4 + Cn.1
      · have hd : decide ((j : Int) < 4 + (Cn.1 : Int)) = true := by simp; omega
        have hol := ord_lt j
        have co : wr.cell? ⟨o, j, none⟩ = some (.int .i64 (ord.getD j 0 : Int)) := by rw [cell_at G.out.ho, ord59_get (by omega)]
        have hn := number_any 3 (by omega) hs wr G.out.rd
        have hvl : (num s 3 r').1 < 8 := num_lt s 3 r'
        have heq : lensLoop s (4 + Cn.1) 0 (fun _ => 0) r4 = lensLoop s (4 + Cn.1 - (j + 1)) (j + 1) (fun q => if q = ord.getD j 0 then (num s 3 r').1 else f q) (num s 3 r').2 := by
          rw [G.out.eq]
          obtain ⟨q, hq⟩ : ∃ q, 4 + Cn.1 - j = q + 1 := ⟨4 + Cn.1 - j - 1, by omega⟩
          rw [hq, show 4 + Cn.1 - (j + 1) = q from by omega]; rfl
        obtain ⟨V, hV⟩ : ∃ V, V = num s 3 r' := ⟨_, rfl⟩
        rw [← hV] at hn hvl heq
        obtain ⟨x, hx⟩ : ∃ x, x = ord.getD j 0 := ⟨_, rfl⟩
        rw [← hx] at co hol heq
        have HN := Lib.hid hn; clear hn
        have HV := Lib.hid hV; clear hV
        have HX := Lib.hid hx; clear hx
        have HEQ := Lib.hid heq; clear heq
        go_wp2_with fail
        refine HN.out.mono ?_
        rintro e w5 ⟨rfl, R5, k5⟩
        have hpo : p < o := by have := HO.out; have := K4.out.size; omega
        have l5 : w5.heap[o + 1]? = some (.cells (ints 19 f) 3) := (k5.block (o + 1) (Array.getElem?_eq_some_iff.1 G.out.hl).1 (by simp; omega)).trans G.out.hl
        have o5 : w5.heap[o]? = some (.cells ord59 59) := (k5.block o (Array.getElem?_eq_some_iff.1 G.out.ho).1 (by simp; omega)).trans G.out.ho
        have c5 : w5.cell? ⟨o + 1, x, none⟩ = some (.int .i64 (f x : Int)) := by rw [cell_at l5, ints_get _ hol]
        have f5 : w5.frozen? ⟨o + 1, x, none⟩ = false := frozen_of_row w5 _ x _ _ l5
        have R5 := Lib.hid R5
        have K5 := Lib.hid k5; clear k5
        have L5 := Lib.hid l5; clear l5
        have O5 := Lib.hid o5; clear o5
        go_wp2
        go_roundg (40 - (j + 1))
        case measure => omega
        case rel =>
          refine ⟨j + 1, _, _, rfl, hlt, by go_num, Lib.hid ⟨?_, ?_, ?_, ?_, HEQ.out, fun i => ?_⟩⟩
          · exact R5.out.kept (S := [o + 1]) ((KeptBut.refl _ _).setCell (by simp) _) (by simp; omega) (fun k hk => by
              have h1 := (R4.out.blk_lt hk).2
              have h2 := HO.out
              simp; omega)
          · exact (G.out.kept.trans K5.out).setNew (by have h1 := HO.out; have h2 := K4.out.size; simp; omega) _
          · rw [heap_setCell_other _ _ _ _ (by simp)]; exact O5.out
          · rw [heap_setCell_same _ _ _ _ _ _ L5.out, ints_set]
          · show (if i = x then V.1 else f i) ≤ 7
            split
            · omega
            · exact G.out.small i
      · obtain rfl : j = 4 + Cn.1 := by omega
        have hd : decide (((4 + Cn.1 : Nat) : Int) < 4 + (Cn.1 : Int)) = false := by simp
        have c4 := G.out.rd.c4
        have heq : lensLoop s (4 + Cn.1) 0 (fun _ => 0) r4 = (f, r') := by rw [G.out.eq, Nat.sub_self]; rfl
        have hdyn : dynamic s most r = if r'.err = 0 then dynTail s most (257 + A.1) (1 + Bn.1) (readLoop s (toList19 f) (257 + A.1 + (1 + Bn.1)) (257 + A.1 + (1 + Bn.1)) [] (coder (toList19 f) r')).1 (readLoop s (toList19 f) (257 + A.1 + (1 + Bn.1)) (257 + A.1 + (1 + Bn.1)) [] (coder (toList19 f) r')).2 else r' := by
          have hh := HX.out
          unfold dynamic
          rw [hh]
          simp only [heq]
        by_cases he : r'.err = 0
        · obtain ⟨hA29, hB29⟩ := HB.out (lensLoop_err (4 + Cn.1) 0 (fun _ => 0) r4 (by rw [heq]; exact he))
          try omega
          all_goals
            have hne : (r'.err != 0) = false := by simp [he]
            rw [if_pos he] at hdyn
            have hL19 : (toList19 f).length = 19 := by simp [toList19]
            have hAt : At wr (o + 1) 0 (toList19 f) := by
              intro i x hx
              have hi : i < 19 := by have := (List.getElem?_eq_some_iff.1 hx).1; rwa [hL19] at this
              unfold toList19 at hx
              rw [List.getElem?_map, List.getElem?_range hi] at hx
              simp at hx
              rw [cell_at G.out.hl, Nat.zero_add, ints_get _ hi, hx]
            have h15 : ∀ x ∈ toList19 f, x ≤ 15 := by
              intro x hx
              unfold toList19 at hx
              obtain ⟨i, _, rfl⟩ := List.mem_map.1 hx
              exact Nat.le_trans (G.out.small i) (by omega)
            have hco := code_any (cap := 19) (toList19 f) (by omega) h15 wr (Array.getElem?_eq_some_iff.1 G.out.hl).1 hAt G.out.rd
            obtain ⟨L, hL⟩ : ∃ L, L = toList19 f := ⟨_, rfl⟩
            rw [← hL] at hco hdyn h15 hL19
            rw [hL19] at hco
            have HCO := Lib.hid hco; clear hco
            have HD := Lib.hid hdyn; clear hdyn heq
            have HLL := Lib.hid hL; clear hL
            clear hAt
            go_wp2_with fail
            refine HCO.out.mono ?_
            rintro e w6 ⟨a6, rfl, k6, R6, hcode⟩
            have R6 : Rd w6 B p s most (coder L r') va vc := R6
            obtain ⟨all, hall⟩ : ∃ x, x = 257 + A.1 + (1 + Bn.1) := ⟨_, rfl⟩
            have hallI : (257 : Int) + (A.1 : Int) + (1 + (Bn.1 : Int)) = (all : Int) := by omega
            have hall1 : all ≤ 316 := by omega
            have hca : (coder L r').err = 0 → ∃ c m, a6 = some ⟨c, 0, none⟩ ∧ Code w6 c m L ∧ c ∉ p :: blk va ∧ m ∉ p :: blk va ∧ c < w6.heap.size ∧ m < w6.heap.size := fun h => by
              obtain ⟨c, m, e, h1, h2, hc⟩ := hcode (coder_err h).1
              have nc : ∀ k, wr.heap.size ≤ k → k ∉ p :: blk va := fun k hk hm => by
                rcases List.mem_cons.1 hm with e | hb'
                · have := G.out.rd.lt; omega
                · have := (G.out.rd.blk_lt hb').2; omega
              exact ⟨c, m, e, hc, nc c h1, nc m h2, hc.ltc, hc.tab.lt⟩
            have hvB : ∀ k ∈ p :: blk va, k < w6.heap.size := fun k hk => by
              rcases List.mem_cons.1 hk with rfl | hb'
              · exact R6.lt
              · exact (R6.blk_lt hb').2
            have T0 : Rl w6 B p s most va vc w w6.heap.size all L a6 (coder L r') all [] (coder L r') none 0 := ⟨⟨R6, G.out.kept.trans k6, Nat.le_refl _, (G.out.kept.trans k6).size, hvB, hca, World.ownsRow_nil _ _ _ _⟩, rfl, by simp, by simp, by simp⟩
            have T0 := Lib.hid T0
            obtain ⟨B2, hB2⟩ : ∃ x, x = w6.heap.size := ⟨_, rfl⟩
            have HPB : Hid (p < B2) := Lib.hid (by have := T0.out.rd.lt; omega)
            rw [← hB2] at T0
            have HB2 := Lib.hid hB2; clear hB2
            have HALL := Lib.hid hall; clear hall
            clear hca hcode hvB R6 k6
            go_wp2_with fail
            go_step3
            go_wp2_with fail
            go_loopg [10, 11, 12, 13] all (fun g v _ _ _ wq => ∃ (l : List Nat) (r2 : St) (la : Option Addr) (lc : Nat), v = .slice la l.length lc ∧ Hid (Rl wq B p s most va vc w B2 all L a6 (coder L r') g l r2 la lc))
            case atStart => exact ⟨[], _, none, 0, rfl, T0⟩
            case round =>
              obtain ⟨l, r2, la, lc, rfl, T⟩ := hrel
              have d4 := T.out.rd.c4
              have hll := T.out.len
              by_cases he2 : r2.err = 0
              · have hee : (r2.err == 0) = true := by simp [he2]
                by_cases hlen : l.length < all
                · obtain ⟨q, hq⟩ : ∃ q, gk = q + 1 := ⟨gk - 1, by have := T.out.left; omega⟩
                  have hleft := T.out.left
                  have hcap := T.out.code he2
                  have hsy := symbol_any a6 L hs wr T.out.rd (fun _ => by obtain ⟨c, m, e, hc, _⟩ := hcap; exact ⟨c, m, e, hc⟩)
                  have hsl := sym_lt s L r2 (by omega)
                  rw [hL19] at hsl
                  have heq : readLoop s L all all [] (coder L r') = (if (sym s L r2).1 = 16 then
                        if l = [] then (l, fail (sym s L r2).2 2)
                        else readLoop s L all q (l ++ List.replicate (3 + (num s 2 (sym s L r2).2).1) (l.getLastD 0)) (num s 2 (sym s L r2).2).2
                      else if (sym s L r2).1 = 17 then readLoop s L all q (l ++ List.replicate (3 + (num s 3 (sym s L r2).2).1) 0) (num s 3 (sym s L r2).2).2
                      else if (sym s L r2).1 = 18 then readLoop s L all q (l ++ List.replicate (11 + (num s 7 (sym s L r2).2).1) 0) (num s 7 (sym s L r2).2).2
                      else readLoop s L all q (l ++ [(sym s L r2).1]) (sym s L r2).2) := by
                    rw [T.out.eq, hq]
                    show (if l.length < all ∧ r2.err = 0 then _ else (l, r2)) = _
                    rw [if_pos ⟨hlen, he2⟩]
                  have hse : (sym s L r2).2.err = 0 → r2.err = 0 := sym_err
                  obtain ⟨V, hV⟩ : ∃ V, V = sym s L r2 := ⟨_, rfl⟩
                  rw [← hV] at hsy hsl heq hse
                  have HV := Lib.hid hV; clear hV
                  have HSY := Lib.hid hsy; clear hsy hcap
                  have HEQ := Lib.hid heq; clear heq
                  have HSE := Lib.hid hse; clear hse
                  have hdl : decide ((l.length : Int) < (all : Int)) = true := by simp; omega
                  have hq1 : q = gk - 1 := by omega
                  subst hq1
                  clear hq
                  have HGK := Lib.hid (show 1 ≤ gk by omega)
                  go_wp2_with fail
                  refine HSY.out.mono ?_
                  rintro e w5 ⟨rfl, R5, k5⟩
                  have G5 := Lib.hid (T.out.turn k5 R5 HSE.out)
                  have K5 := Lib.hid k5; clear k5 R5
                  obtain ⟨i3, hi3, hz30, hz31, hz32⟩ := info_parts info3
                  have HI3 := Lib.hid hi3
                  by_cases h16 : V.1 = 16
                  · have hv16 : ((V.1 : Int) == 16) = true := by simp; omega
                    by_cases hnil : l = []
                    · have hst : readLoop s L all all [] (coder L r') = (l, fail V.2 2) := by rw [HEQ.out, if_pos h16, if_pos hnil]
                      have hfe : (fail V.2 2).err ≠ 0 := fail_err_ne (by decide)
                      have hres : dynamic s most r = fail V.2 2 := by
                        have h1 := HD.out
                        rw [← HALL.out, hst] at h1
                        rw [h1]
                        unfold dynTail
                        rw [if_neg hfe]
                      have HRES := Lib.hid hres; clear hres hst
                      have hlz : ((l.length : Int) == 0) = true := by simp [hnil]
                      have hnil := Lib.hid hnil
                      go_wp2_with fail
                      refine (fail_any 2 _ G5.out.rd).mono ?_
                      rintro e w6 ⟨rfl, R6, k6⟩
                      have e4 := R6.c4
                      have hee6 : ((fail V.2 2).err == 0) = false := by simp [hfe]
                      have R6 := Lib.hid R6
                      have K6 := Lib.hid (G5.out.kept.trans k6); clear k6
                      go_wp2
                      (try rw [Exit.noGoto_normal])
                      go_end0
                      exact ⟨rfl, va, vc, by rw [HRES.out]; exact R6.out, Mv.of va K6.out⟩
                    · have hlz : ((l.length : Int) == 0) = false := by simp [hnil]
                      have hl1 : 1 ≤ l.length := List.length_pos_iff.2 hnil
                      obtain ⟨g2, rfl, hgB, hgl, c5⟩ := G5.out.last hnil
                      have hpB : p < B2 := HPB.out
                      have hn := number_any 2 (by omega) hs w5.drew (G5.out.rd.drewN 1)
                      have hwl : (num s 2 V.2).1 < 4 := num_lt s 2 V.2
                      have hst : readLoop s L all all [] (coder L r') = readLoop s L all (gk - 1) (l ++ List.replicate (3 + (num s 2 V.2).1) (l.getLastD 0)) (num s 2 V.2).2 := by rw [HEQ.out, if_pos h16, if_neg hnil]
                      have hne : (num s 2 V.2).2.err = 0 → V.2.err = 0 := num_err
                      have hx15 : l.getLastD 0 ≤ 15 := by
                        rw [List.getLastD_eq_getLast?]
                        cases h' : l.getLast? with
                        | none => simp
                        | some x => exact T.out.small x (List.mem_of_getLast? h')
                      obtain ⟨N, hN⟩ : ∃ N, N = num s 2 V.2 := ⟨_, rfl⟩
                      rw [← hN] at hn hwl hst hne
                      obtain ⟨x0, hx0⟩ : ∃ x, x = l.getLastD 0 := ⟨_, rfl⟩
                      rw [← hx0] at c5 hst hx15
                      have HN := Lib.hid hn; clear hn
                      have HST := Lib.hid hst; clear hst
                      have HNE := Lib.hid hne; clear hne
                      have HNN := Lib.hid hN; clear hN
                      have HX0 := Lib.hid hx0; clear hx0
                      have j0 : (0 : Int) ≤ (l.length : Int) - 1 := by omega
                      have j1 : (l.length : Int) - 1 < (l.length : Int) := by omega
                      have j2 : ((l.length : Int) - 1).toNat = l.length - 1 := by omega
                      have j3 : IntKind.i64.wrap ((l.length : Int) - 1) = (l.length : Int) - 1 := by rw [IntKind.wrap_i64]; omega
                      go_wp2_with fail
                      go_region_with (go_at_call 17; refine HN.out.mono ?_; rintro e w6 ⟨rfl, R6, k6⟩; have c6 : w6.cell? ⟨g2, l.length - 1, none⟩ = some (.int .i64 (x0 : Int)) := (World.cell?_of_block (a := ⟨g2, l.length - 1, none⟩) (k6.block g2 hgl (by simp; omega))).trans c5)
                      all_goals
                        have G6 := Lib.hid (G5.out.turn (((KeptBut.refl _ _).drewN 1).trans k6) R6 HNE.out)
                        clear R6 k6 c6 j0 j1 j2 j3
                        have hn1 : 1 ≤ 3 + N.1 := by omega
                        have hn2 : 3 + N.1 ≤ 300 := by omega
                        have hxv : x0 ≤ 15 := hx15
                        go_wp2_with fail
                        refine (rep_any (x0) (3 + N.1) _ _ (by first | rfl | omega) (by first | rfl | omega) hn1 hn2 _).mono ?_
                        rintro e w7 ⟨o7, rfl, b7, hl7, hu7, A7⟩
                        have G7 := Lib.hid (G6.out.below b7)
                        have A7 := Lib.hid A7
                        have hB7 : B2 ≤ w7.heap.size := G7.out.big
                        have O7 := Lib.hid G7.out.own
                        go_wp2_with (at_builtin; refine wpList_append_lies _ rfl _ _ 34 rfl B2 3 i3 _ 1 8 Try.underlying34 hi3 hz30 hz31 hz32 rfl (by decide) (.slice (some ⟨g2, 0, none⟩) l.length lc) l.length _ rfl O7.out ⟨o7, 0, none⟩ (3 + N.1) (3 + N.1) (vals (List.replicate (3 + N.1) (x0))) rfl (by rw [vals_length, List.length_replicate, Nat.mul_one]) (vals_at A7.out) vals_one hn1 ?c4 ?c5 hB7 w7.heap.size rfl ?c6)
                        case c4 => unfold maxLen; omega
                        case c5 => omega
                        case c6 =>
                        intro o8 D8 w8 hown8 hg8 hat8 hlt8
                        rw [← vals_append] at hown8
                        have G8 := Lib.hid (G7.out.grown (l' := l ++ List.replicate (3 + N.1) (x0)) hg8 (by simp) hown8)
                        have hle8 : l.length + (3 + N.1) = (l ++ List.replicate (3 + N.1) (x0)).length := by simp
                        have HLE8 := Lib.hid hle8; clear hle8 hown8 hg8 hat8 hlt8
                        go_wp2
                        go_roundg (gk - 1)
                        case measure => omega
                        case rel =>
                          refine ⟨l ++ List.replicate (3 + N.1) (x0), N.2, some ⟨o8, 0, none⟩, D8, by rw [← HLE8.out], Lib.hid ⟨G8.out, ?_, ?_, ?_, ?_⟩⟩
                          · exact HST.out
                          · rw [← HLE8.out]; omega
                          · intro z hz
                            rcases List.mem_append.1 hz with h | h
                            · exact T.out.small z h
                            · rw [(List.mem_replicate.1 h).2]; exact hxv
                          · rw [← HLE8.out]; omega
                  · have hv16 : ((V.1 : Int) == 16) = false := by simp; omega
                    by_cases h17 : V.1 = 17
                    · have hv17 : ((V.1 : Int) == 17) = true := by simp; omega
                      have hn := number_any 3 (by omega) hs w5 G5.out.rd
                      have hwl : (num s 3 V.2).1 < 8 := num_lt s 3 V.2
                      have hst : readLoop s L all all [] (coder L r') = readLoop s L all (gk - 1) (l ++ List.replicate (3 + (num s 3 V.2).1) 0) (num s 3 V.2).2 := by rw [HEQ.out, if_neg h16, if_pos h17]
                      have hne : (num s 3 V.2).2.err = 0 → V.2.err = 0 := num_err
                      obtain ⟨N, hN⟩ : ∃ N, N = num s 3 V.2 := ⟨_, rfl⟩
                      rw [← hN] at hn hwl hst hne
                      have HN := Lib.hid hn; clear hn
                      have HST := Lib.hid hst; clear hst
                      have HNE := Lib.hid hne; clear hne
                      have HNN := Lib.hid hN; clear hN
                      go_wp2_with fail
                      refine HN.out.mono ?_
                      rintro e w6 ⟨rfl, R6, k6⟩
                      have G6 := Lib.hid (G5.out.turn k6 R6 HNE.out)
                      clear R6 k6
                      have hn1 : 1 ≤ 3 + N.1 := by omega
                      have hn2 : 3 + N.1 ≤ 300 := by omega
                      have hxv : 0 ≤ 15 := by omega
                      go_wp2_with fail
                      refine (rep_any (0) (3 + N.1) _ _ (by first | rfl | omega) (by first | rfl | omega) hn1 hn2 _).mono ?_
                      rintro e w7 ⟨o7, rfl, b7, hl7, hu7, A7⟩
                      have G7 := Lib.hid (G6.out.below b7)
                      have A7 := Lib.hid A7
                      have hB7 : B2 ≤ w7.heap.size := G7.out.big
                      have O7 := Lib.hid G7.out.own
                      go_wp2_with (at_builtin; refine wpList_append_lies _ rfl _ _ 34 rfl B2 3 i3 _ 1 8 Try.underlying34 hi3 hz30 hz31 hz32 rfl (by decide) (.slice la l.length lc) l.length _ rfl O7.out ⟨o7, 0, none⟩ (3 + N.1) (3 + N.1) (vals (List.replicate (3 + N.1) (0))) rfl (by rw [vals_length, List.length_replicate, Nat.mul_one]) (vals_at A7.out) vals_one hn1 ?c4 ?c5 hB7 w7.heap.size rfl ?c6)
                      case c4 => unfold maxLen; omega
                      case c5 => omega
                      case c6 =>
                      intro o8 D8 w8 hown8 hg8 hat8 hlt8
                      rw [← vals_append] at hown8
                      have G8 := Lib.hid (G7.out.grown (l' := l ++ List.replicate (3 + N.1) (0)) hg8 (by simp) hown8)
                      have hle8 : l.length + (3 + N.1) = (l ++ List.replicate (3 + N.1) (0)).length := by simp
                      have HLE8 := Lib.hid hle8; clear hle8 hown8 hg8 hat8 hlt8
                      go_wp2
                      go_roundg (gk - 1)
                      case measure => omega
                      case rel =>
                        refine ⟨l ++ List.replicate (3 + N.1) (0), N.2, some ⟨o8, 0, none⟩, D8, by rw [← HLE8.out], Lib.hid ⟨G8.out, ?_, ?_, ?_, ?_⟩⟩
                        · exact HST.out
                        · rw [← HLE8.out]; omega
                        · intro z hz
                          rcases List.mem_append.1 hz with h | h
                          · exact T.out.small z h
                          · rw [(List.mem_replicate.1 h).2]; exact hxv
                        · rw [← HLE8.out]; omega
                    · have hv17 : ((V.1 : Int) == 17) = false := by simp; omega
                      by_cases h18 : V.1 = 18
                      · have hv18 : ((V.1 : Int) == 18) = true := by simp; omega
                        have hn := number_any 7 (by omega) hs w5 G5.out.rd
                        have hwl : (num s 7 V.2).1 < 128 := num_lt s 7 V.2
                        have hst : readLoop s L all all [] (coder L r') = readLoop s L all (gk - 1) (l ++ List.replicate (11 + (num s 7 V.2).1) 0) (num s 7 V.2).2 := by rw [HEQ.out, if_neg h16, if_neg h17, if_pos h18]
                        have hne : (num s 7 V.2).2.err = 0 → V.2.err = 0 := num_err
                        obtain ⟨N, hN⟩ : ∃ N, N = num s 7 V.2 := ⟨_, rfl⟩
                        rw [← hN] at hn hwl hst hne
                        have HN := Lib.hid hn; clear hn
                        have HST := Lib.hid hst; clear hst
                        have HNE := Lib.hid hne; clear hne
                        have HNN := Lib.hid hN; clear hN
                        go_wp2_with fail
                        refine HN.out.mono ?_
                        rintro e w6 ⟨rfl, R6, k6⟩
                        have G6 := Lib.hid (G5.out.turn k6 R6 HNE.out)
                        clear R6 k6
                        have hn1 : 1 ≤ 11 + N.1 := by omega
                        have hn2 : 11 + N.1 ≤ 300 := by omega
                        have hxv : 0 ≤ 15 := by omega
                        go_wp2_with fail
                        refine (rep_any (0) (11 + N.1) _ _ (by first | rfl | omega) (by first | rfl | omega) hn1 hn2 _).mono ?_
                        rintro e w7 ⟨o7, rfl, b7, hl7, hu7, A7⟩
                        have G7 := Lib.hid (G6.out.below b7)
                        have A7 := Lib.hid A7
                        have hB7 : B2 ≤ w7.heap.size := G7.out.big
                        have O7 := Lib.hid G7.out.own
                        go_wp2_with (at_builtin; refine wpList_append_lies _ rfl _ _ 34 rfl B2 3 i3 _ 1 8 Try.underlying34 hi3 hz30 hz31 hz32 rfl (by decide) (.slice la l.length lc) l.length _ rfl O7.out ⟨o7, 0, none⟩ (11 + N.1) (11 + N.1) (vals (List.replicate (11 + N.1) (0))) rfl (by rw [vals_length, List.length_replicate, Nat.mul_one]) (vals_at A7.out) vals_one hn1 ?c4 ?c5 hB7 w7.heap.size rfl ?c6)
                        case c4 => unfold maxLen; omega
                        case c5 => omega
                        case c6 =>
                        intro o8 D8 w8 hown8 hg8 hat8 hlt8
                        rw [← vals_append] at hown8
                        have G8 := Lib.hid (G7.out.grown (l' := l ++ List.replicate (11 + N.1) (0)) hg8 (by simp) hown8)
                        have hle8 : l.length + (11 + N.1) = (l ++ List.replicate (11 + N.1) (0)).length := by simp
                        have HLE8 := Lib.hid hle8; clear hle8 hown8 hg8 hat8 hlt8
                        go_wp2
                        go_roundg (gk - 1)
                        case measure => omega
                        case rel =>
                          refine ⟨l ++ List.replicate (11 + N.1) (0), N.2, some ⟨o8, 0, none⟩, D8, by rw [← HLE8.out], Lib.hid ⟨G8.out, ?_, ?_, ?_, ?_⟩⟩
                          · exact HST.out
                          · rw [← HLE8.out]; omega
                          · intro z hz
                            rcases List.mem_append.1 hz with h | h
                            · exact T.out.small z h
                            · rw [(List.mem_replicate.1 h).2]; exact hxv
                          · rw [← HLE8.out]; omega
                      · have hv18 : ((V.1 : Int) == 18) = false := by simp; omega
                        have hst : readLoop s L all all [] (coder L r') = readLoop s L all (gk - 1) (l ++ List.replicate 1 V.1) V.2 := by rw [HEQ.out, if_neg h16, if_neg h17, if_neg h18]; rfl
                        have HST := Lib.hid hst; clear hst
                        have G6 := G5
                        have hn1 : 1 ≤ 1 := by omega
                        have hn2 : 1 ≤ 300 := by omega
                        have hxv : V.1 ≤ 15 := by omega
                        go_wp2_with fail
                        refine (rep_any (V.1) (1) _ _ (by first | rfl | omega) (by first | rfl | omega) hn1 hn2 _).mono ?_
                        rintro e w7 ⟨o7, rfl, b7, hl7, hu7, A7⟩
                        have G7 := Lib.hid (G6.out.below b7)
                        have A7 := Lib.hid A7
                        have hB7 : B2 ≤ w7.heap.size := G7.out.big
                        have O7 := Lib.hid G7.out.own
                        go_wp2_with (at_builtin; refine wpList_append_lies _ rfl _ _ 34 rfl B2 3 i3 _ 1 8 Try.underlying34 hi3 hz30 hz31 hz32 rfl (by decide) (.slice la l.length lc) l.length _ rfl O7.out ⟨o7, 0, none⟩ (1) (1) (vals (List.replicate (1) (V.1))) rfl (by rw [vals_length, List.length_replicate, Nat.mul_one]) (vals_at A7.out) vals_one hn1 ?c4 ?c5 hB7 w7.heap.size rfl ?c6)
                        case c4 => unfold maxLen; omega
                        case c5 => omega
                        case c6 =>
                        intro o8 D8 w8 hown8 hg8 hat8 hlt8
                        rw [← vals_append] at hown8
                        have G8 := Lib.hid (G7.out.grown (l' := l ++ List.replicate (1) (V.1)) hg8 (by simp) hown8)
                        have hle8 : l.length + (1) = (l ++ List.replicate (1) (V.1)).length := by simp
                        have HLE8 := Lib.hid hle8; clear hle8 hown8 hg8 hat8 hlt8
                        go_wp2
                        go_roundg (gk - 1)
                        case measure => omega
                        case rel =>
                          refine ⟨l ++ List.replicate (1) (V.1), V.2, some ⟨o8, 0, none⟩, D8, by rw [← HLE8.out], Lib.hid ⟨G8.out, ?_, ?_, ?_, ?_⟩⟩
                          · exact HST.out
                          · rw [← HLE8.out]; omega
                          · intro z hz
                            rcases List.mem_append.1 hz with h | h
                            · exact T.out.small z h
                            · rw [(List.mem_replicate.1 h).2]; exact hxv
                          · rw [← HLE8.out]; omega
                · have hdl : decide ((l.length : Int) < (all : Int)) = false := by simp; omega
                  have hst : readLoop s L all gk l r2 = (l, r2) := by
                    cases gk with
                    | zero => rfl
                    | succ g => unfold readLoop; rw [if_neg (fun h => hlen h.1)]
                  have hres : dynamic s most r = dynTail s most (257 + A.1) (1 + Bn.1) l r2 := by
                    have h1 := HD.out
                    rw [← HALL.out, T.out.eq, hst] at h1
                    exact h1
                  have hall2 := HALL.out
                  by_cases hne2 : l.length = all
                  · have hdn : ((l.length : Int) != (all : Int)) = false := by simp; omega
                    have h257 : 257 ≤ l.length := by omega
                    obtain ⟨g2, rfl⟩ : ∃ g, la = some ⟨g, 0, none⟩ := by
                      rcases T.out.own.2 with ⟨_, h0⟩ | ⟨g, cap, cur, hv, _⟩
                      · omega
                      · simp at hv; exact ⟨g, hv.1⟩
                    have hAl : At wr g2 0 l := own_at T.out.own
                    obtain ⟨y, hy⟩ : ∃ y, l[256]? = some y := ⟨_, List.getElem?_eq_getElem (by omega)⟩
                    have c256 : wr.cell? ⟨g2, 256, none⟩ = some (.int .i64 (y : Int)) := by have := hAl 256 y hy; rwa [Nat.zero_add] at this
                    have hyD : l.getD 256 0 = y := by rw [List.getD_eq_getElem?_getD, hy]; rfl
                    have i0 : (256 : Int) < (l.length : Int) := by omega
                    by_cases hy0 : y = 0
                    · subst hy0
                      have hres2 : dynamic s most r = fail r2 2 := by
                        rw [hres]; unfold dynTail; rw [if_pos he2, if_pos (.inr hyD)]
                      have HRES := Lib.hid hres2; clear hres2 hres hst hall2 hyD hy hAl
                      have hfe : (fail r2 2).err ≠ 0 := fail_err_ne (by decide)
                      go_wp2_with fail
                      refine (fail_any 2 _ T.out.rd).mono ?_
                      rintro e w7 ⟨rfl, R7, k7⟩
                      have e4 := R7.c4
                      have hee7 : ((fail r2 2).err == 0) = false := by simp [hfe]
                      have R7 := Lib.hid R7
                      have K7 := Lib.hid (T.out.kept.trans k7); clear k7
                      go_wp2
                      (try rw [Exit.noGoto_normal])
                      go_end0
                      exact ⟨rfl, va, vc, by rw [HRES.out]; exact R7.out, Mv.of va K7.out⟩
                    · have hres2 : dynamic s most r = block s most (l.take (257 + A.1)) (l.drop (257 + A.1)) r2 := by
                        rw [hres]; unfold dynTail; rw [if_pos he2, if_neg (by rw [hyD]; omega)]
                      have HRES := Lib.hid hres2; clear hres2 hres hst hyD hy
                      have hdy : ((y : Int) == 0) = false := by simp; omega
                      obtain ⟨hgB, hg2, hcapl⟩ : B2 ≤ g2 ∧ g2 < wr.heap.size ∧ l.length ≤ lc := by
                        rcases T.out.own.2 with ⟨_, h0⟩ | ⟨g, cap, cur, hv, hb, hc, h1, _⟩
                        · omega
                        · simp at hv; obtain ⟨rfl, rfl⟩ := hv; exact ⟨hb, (Array.getElem?_eq_some_iff.1 hc).1, h1⟩
                      have hs1 : ∀ W : World, (Instr.sliceAt 34 (.slice (some ⟨g2, 0, none⟩) l.length lc) none (some (.int .i64 (257 + (A.1 : Int)))) none).run Try.prog W = .ok (.slice (some ⟨g2, 0, none⟩) (257 + A.1) lc) W := slice34_h _ _ _ _ _ (by omega) (by omega)
                      have hs2 : ∀ W : World, (Instr.sliceAt 34 (.slice (some ⟨g2, 0, none⟩) l.length lc) (some (.int .i64 (257 + (A.1 : Int)))) none none).run Try.prog W = .ok (.slice (some ⟨g2, 257 + A.1, none⟩) (l.length - (257 + A.1)) (lc - (257 + A.1))) W := slice34_l _ _ _ _ _ (by omega) (by omega) (by omega)
                      have hblk := block_any (cap := lc) (cap2 := lc - (257 + A.1)) (l.take (257 + A.1)) (l.drop (257 + A.1)) (by simp; omega) (by simp; omega) (by simp; omega) (fun x hx => T.out.small x (List.mem_of_mem_take hx)) (fun x hx => T.out.small x (List.mem_of_mem_drop hx)) hs hm wr.drew (Nat.le_trans hB T.out.kept.size) (T.out.rd.drewN 1) (by exact hg2) (by exact hg2) (fun e => by have := HPB.out; omega) ((hAl.take _).kept rfl) ((hAl.drop _).kept rfl)
                      rw [show (l.take (257 + A.1)).length = 257 + A.1 from by simp; omega, List.length_drop, Nat.zero_add, ← HRES.out] at hblk
                      have HBLK := Lib.hid hblk; clear hblk hAl
                      clear hall2
                      clear hll hne2 h257 hg2 hcapl HD HLL HALL HO H1 H2 H3 HCO
                      go_wp2_with fail
                      go_region_with (go_at_call 31; refine HBLK.out.mono ?_; rintro e w7 ⟨rfl, va7, vc7, R7, M7⟩)
                      all_goals
                        have R7 := Lib.hid R7
                        have M7 := Lib.hid M7
                        go_wp2
                        (try rw [Exit.noGoto_normal])
                        go_end0
                        exact ⟨rfl, va7, vc7, R7.out, (Mv.of va (T.out.kept.drewN 1)).trans M7.out⟩
                  · have hdn : ((l.length : Int) != (all : Int)) = true := by simp; omega
                    have hres2 : dynamic s most r = fail r2 2 := by
                      rw [hres]; unfold dynTail; rw [if_pos he2, if_pos (.inl (by omega))]
                    have HRES := Lib.hid hres2; clear hres2 hres hst hall2
                    have hfe : (fail r2 2).err ≠ 0 := fail_err_ne (by decide)
                    go_wp2_with fail
                    refine (fail_any 2 _ T.out.rd).mono ?_
                    rintro e w7 ⟨rfl, R7, k7⟩
                    have e4 := R7.c4
                    have hee7 : ((fail r2 2).err == 0) = false := by simp [hfe]
                    have R7 := Lib.hid R7
                    have K7 := Lib.hid (T.out.kept.trans k7); clear k7
                    go_wp2
                    (try rw [Exit.noGoto_normal])
                    go_end0
                    exact ⟨rfl, va, vc, by rw [HRES.out]; exact R7.out, Mv.of va K7.out⟩
              · have hee : (r2.err == 0) = false := by simp [he2]
                have hst : ∀ g, readLoop s L all g l r2 = (l, r2) := fun g => by
                  cases g with
                  | zero => rfl
                  | succ g => unfold readLoop; rw [if_neg (fun h => he2 h.2)]
                have hres : dynamic s most r = r2 := by
                  have h1 := HD.out
                  rw [← HALL.out, T.out.eq, hst] at h1
                  rw [h1]
                  unfold dynTail
                  rw [if_neg he2]
                have HRES := Lib.hid hres; clear hres hst
                by_cases hlen : l.length < all
                · have hdl : decide ((l.length : Int) < (all : Int)) = true := by simp; omega
                  go_wp2
                  (try rw [Exit.noGoto_normal])
                  go_end0
                  exact ⟨rfl, va, vc, by rw [HRES.out]; exact T.out.rd, Mv.of va T.out.kept⟩
                · have hdl : decide ((l.length : Int) < (all : Int)) = false := by simp; omega
                  go_wp2
                  (try rw [Exit.noGoto_normal])
                  go_end0
                  exact ⟨rfl, va, vc, by rw [HRES.out]; exact T.out.rd, Mv.of va T.out.kept⟩
        · have hne : (r'.err != 0) = true := by simp [he]
          rw [if_neg he] at hdyn
          have HD := Lib.hid hdyn; clear hdyn heq
          go_wp2
          (try rw [Exit.noGoto_ret])
          ((try simp only [Exit.inBlock, Exit.then]); refine bodyPost_ret (results_none rfl _ _ _) rfl ?_)
          exact ⟨rfl, va, vc, by rw [HD.out]; exact G.out.rd, Mv.of va G.out.kept⟩
end Go.Proofs.Ytcgcacegkbbmiaa
