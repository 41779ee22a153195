/- The pool's state in memory, and what New, Len, Has of package pool do with it. -/
import Derived.Test.YtppagjglfpnfbaaRows
import Derived.Test.YtppagjglfpnfbaaSel
import Derived.WalkSpells
import Derived.WalkLawsBesides
import Derived.Lib.Hide
import Derived.Maps.OwnOps
import Derived.Maps.Views
import Derived.Maps.OwnSet
import Derived.Conc.LoneSelectN
import Derived.Deep.AppendLies
namespace Go.Proofs.Ytppagjglfpnfbaa
open Go.RowKit Go.Conc Go.Maps

/-- An item, as it lies in memory (its entry's list of strings is a slice, never looked into by package pool). -/
structure It where
  id : Int
  name : ByteArray
  pre : Bool
  body : ByteArray
  key : ByteArray
  full : ByteArray
  ca : Option Addr
  cl : Nat
  cc : Nat
  time : Int
  idx : Int

def It.cells (x : It) : List Value := [.int .i64 x.id, .string x.name, .bool x.pre, .string x.body, .string x.key, .string x.full, .slice x.ca x.cl x.cc, .int .i64 x.time, .int .i64 x.idx]
def It.val (x : It) : Value := .agg #[.int .i64 x.id, .string x.name, .bool x.pre, .string x.body, .string x.key, .string x.full, .slice x.ca x.cl x.cc, .int .i64 x.time, .int .i64 x.idx]

/-- How many of a name. -/
def cnt (s : ByteArray) (l : List It) : Nat := (l.filter fun x => decide (x.name = s)).length

theorem cnt_nil (s : ByteArray) : cnt s [] = 0 := rfl
theorem cnt_snoc (s : ByteArray) (l : List It) (x : It) : cnt s (l ++ [x]) = cnt s l + if x.name = s then 1 else 0 := by
  unfold cnt
  rw [List.filter_append, List.length_append]
  by_cases h : x.name = s <;> simp [h]
theorem cnt_le (s : ByteArray) (l : List It) : cnt s l ≤ l.length := List.length_filter_le _ _

theorem law9 : Keyed Try.prog 9 := string_keyed Try.underlying9
theorem zero3 (w : World) : (zeroValue 3).run Try.prog w = .ok (.int .i64 0) w := by kernel_rfl

/-- What the map of names holds. -/
def Names (w : World) (m : Nat) (l : List It) : Prop :=
  ∃ D : DataW Unit, IsMap D ∧ w.ownsMap Try.prog 9 (plainElem Try.prog 3) m l.length D ∧
    ∀ s : ByteArray, s.size ≤ maxLen → D.atKey (.string s.data.toList) (.lit (.int .i64 0)) = .lit (.int .i64 (cnt s l))

/-- A pool at block p: its channel, its map. -/
structure Pool (w : World) (B p c m room : Nat) (l : List It) : Prop where
  bp : B ≤ p
  bc : B ≤ c
  bm : B ≤ m
  hp : w.heap[p]? = some (.cells #[.chan (some c), .map (some m)] 53)
  hc : ∃ s r, w.heap[c]? = some (.chan room (l.map It.val).toArray false s r false)
  fits : l.length ≤ room
  small : room ≤ 8
  names : Names w m l

/-- But for some blocks all is as it was. -/
structure KeptBut (S : List Nat) (w w' : World) : Prop where
  os : w'.os = w.os
  tape : w'.tape = w.tape
  output : w'.output = w.output
  size : w.heap.size ≤ w'.heap.size
  block : ∀ k, k < w.heap.size → k ∉ S → w'.heap[k]? = w.heap[k]?

theorem KeptBut.refl (S : List Nat) (w : World) : KeptBut S w w := ⟨rfl, rfl, rfl, Nat.le_refl _, fun _ _ _ => rfl⟩
theorem KeptBut.trans {S : List Nat} {a b c : World} (h : KeptBut S a b) (k : KeptBut S b c) : KeptBut S a c :=
  ⟨k.os.trans h.os, k.tape.trans h.tape, k.output.trans h.output, Nat.le_trans h.size k.size, fun i hi hn => (k.block i (Nat.lt_of_lt_of_le hi h.size) hn).trans (h.block i hi hn)⟩
theorem KeptBut.below {S : List Nat} {B : Nat} {w w' : World} (h : KeptBut S w w') (hS : ∀ k ∈ S, B ≤ k) (hB : B ≤ w.heap.size) : Below B w w' :=
  ⟨h.os, h.tape, h.output, h.size, fun k hk => h.block k (by omega) (fun hm => by have := hS k hm; omega)⟩
theorem KeptBut.of_below {S : List Nat} {w w' : World} (h : Below w.heap.size w w') : KeptBut S w w' :=
  ⟨h.os, h.tape, h.output, h.size, fun k hk _ => h.block k hk⟩
theorem KeptBut.of_grown {S : List Nat} {w w' : World} {row : Option Nat} (h : w.grownBy w' row) (hS : ∀ k, row = some k → k ∈ S) : KeptBut S w w' :=
  ⟨h.os, h.tape, h.output, h.size, fun k hk hn => h.block k hk (fun e => hn (hS k e.symm))⟩
theorem KeptBut.setCell {S : List Nat} {a w : World} (h : KeptBut S a w) {p : Addr} (hp : p.block ∈ S) (u : Value) : KeptBut S a (w.setCell p u) :=
  h.trans ⟨rfl, rfl, rfl, by simp [World.setCell], fun k _ hn => Below.heap_setCell _ _ _ _ (fun e => hn (e ▸ hp))⟩
theorem KeptBut.alloc {S : List Nat} {a w : World} (h : KeptBut S a w) (o : Obj) : KeptBut S a (w.alloc o) :=
  h.trans (KeptBut.of_below ((Below.refl _ _).alloc (Nat.le_refl _) _))
theorem KeptBut.drew {S : List Nat} {a w : World} (h : KeptBut S a w) : KeptBut S a w.drew :=
  h.trans (KeptBut.of_below (Below.refl _ _).drew)
theorem KeptBut.setChan {S : List Nat} {a w : World} (h : KeptBut S a w) {c : Nat} (hc : c ∈ S) (cap : Nat) (buf : Array Value) (cl : Bool) (s r : Nat) (tm : Bool) : KeptBut S a (w.setChan c cap buf cl s r tm) :=
  h.trans ⟨rfl, rfl, rfl, by simp [World.setChan], fun k _ hn => by simp only [World.setChan]; rw [Array.getElem?_setIfInBounds_ne (fun (e : c = k) => hn (e ▸ hc))]⟩

theorem Names.kept {w w' : World} {m : Nat} {l : List It} (h : Names w m l) (he : w'.heap[m]? = w.heap[m]?) : Names w' m l := by
  obtain ⟨D, h1, ⟨es, clock, hb, F, hs, hD⟩, h3⟩ := h
  exact ⟨D, h1, ⟨es, clock, he.trans hb, F, hs, hD⟩, h3⟩
theorem Names.lt {w : World} {m : Nat} {l : List It} (h : Names w m l) : m < w.heap.size := by
  obtain ⟨D, _, h2, _⟩ := h; exact h2.lt

/-- The pool stays what it is while other blocks turn. -/
theorem Pool.kept {w w' : World} {B p c m room : Nat} {l : List It} {S : List Nat} (h : Pool w B p c m room l) (hk : KeptBut S w w') (hp : p ∉ S) (hc : c ∉ S) (hm : m ∉ S) : Pool w' B p c m room l := by
  have lt : ∀ {b : Nat} {o : Obj}, w.heap[b]? = some o → b < w.heap.size := fun h => (Array.getElem?_eq_some_iff.1 h).1
  obtain ⟨s, r, hcc⟩ := h.hc
  exact ⟨h.bp, h.bc, h.bm, (hk.block p (lt h.hp) hp).trans h.hp, ⟨s, r, (hk.block c (lt hcc) hc).trans hcc⟩, h.fits, h.small, h.names.kept (hk.block m h.names.lt hm)⟩

theorem names_made (w : World) : Names (w.alloc (.map #[] 0)) w.heap.size [] := by
  refine ⟨.map [], isMap_empty, World.ownsMap_made _ _ _ _, fun s _ => ?_⟩
  rfl

theorem info35 : (Try.prog.info? 35).map (fun i => (i.zero, i.size, i.bytes)) = some (some (.agg #[.int .i64 0, .string .empty, .bool false, .string .empty, .string .empty, .string .empty, .slice none 0 0, .int .i64 0, .int .i64 0]), 9, 120) := by kernel_rfl

theorem make_chan (room : Nat) (h8 : room ≤ 8) (w : World) : (Instr.makeChan 50 (.int .i64 (room : Int))).run Try.prog w = .ok (.chan (some w.heap.size)) (w.alloc (.chan room #[] false 0 0 false)) := by
  obtain ⟨i, hi, _, _, hb⟩ := info_parts info35
  exact run_makeChan (P := Try.prog) (w := w) Try.underlying50 hi .i64 room (by omega) (by rw [hb]; omega)

set_option maxHeartbeats 400000 in
theorem new_bad (n : Int) (w : World) (h : n < 1 ∨ 8 < n) :
    Calls Try.prog 7 #[.int .i64 n] w fun e w' => e = .returned (.tuple #[.pointer none, .int .i64 1]) ∧ w = w' := by
  rcases h with h | h
  · go_enter Try.func7, Try.ntmps7
    go_wp2
    go_ret2
    exact ⟨rfl, rfl⟩
  · have h' : ¬ n < 1 := by omega
    go_enter Try.func7, Try.ntmps7
    go_wp2
    go_ret2
    exact ⟨rfl, rfl⟩

set_option maxHeartbeats 400000 in
theorem new_any (room : Nat) (w : World) (h1 : 1 ≤ room) (h8 : room ≤ 8) :
    Calls Try.prog 7 #[.int .i64 (room : Int)] w fun e w' => e = .returned (.tuple #[.pointer (some ⟨w.heap.size + 2, 0, none⟩), .int .i64 0]) ∧
      Below w.heap.size w w' ∧ w'.heap.size = w.heap.size + 3 ∧ Pool w' w.heap.size (w.heap.size + 2) w.heap.size (w.heap.size + 1) room [] := by
  have hmc := make_chan room h8
  have hmm := @run_makeMap Try.prog
  have hd1 : ¬ ((room : Int) < 1) := by omega
  have hd2 : ¬ ((8 : Int) < (room : Int)) := by omega
  go_enter Try.func7, Try.ntmps7
  go_wp2
  go_ret2
  refine ⟨rfl, (((Below.refl _ _).alloc (Nat.le_refl _) _).alloc (by simp) _).alloc (by simp; omega) _, by simp, ?_⟩
  generalize hA : (Obj.chan room #[] false 0 0 false) = A
  have h0 : ((w.alloc A).alloc (.map #[] 0)).heap[w.heap.size]? = some A := heap_alloc2_old w _ _
  refine ⟨by omega, by omega, by omega, ?_, ⟨0, 0, ?_⟩, by simp, h8, ?_⟩
  · have := heap_alloc_new ((w.alloc A).alloc (.map #[] 0)) (.cells #[.chan (some w.heap.size), .map (some (w.heap.size + 1))] 53)
    simpa only [World.size_alloc] using this
  · rw [Below.heap_alloc _ _ _ (by simp; omega), h0, ← hA]; rfl
  · have := names_made (w.alloc A)
    rw [World.size_alloc] at this
    exact this.kept (Below.heap_alloc _ _ _ (by simp))

theorem cell_at {w : World} {p : Nat} {cs : Array Value} {t : TypeId} {fr : Nat × Nat} (h : w.heap[p]? = some (.cells cs t fr)) (j : Nat) : w.cell? ⟨p, j, none⟩ = cs[j]? := by
  simp [World.cell?, h]

set_option maxHeartbeats 400000 in
theorem len_any {B p c m room : Nat} {l : List It} (w : World) (H : Pool w B p c m room l) :
    Calls Try.prog 10 #[.pointer (some ⟨p, 0, none⟩)] w fun e w' => e = .returned (.int .i64 (l.length : Int)) ∧ w = w' := by
  obtain ⟨s, r, hc⟩ := H.hc
  have h0 : w.cell? ⟨p, 0, none⟩ = some (.chan (some c)) := by rw [cell_at H.hp]; rfl
  have hl := fun ty => run_len_chan (P := Try.prog) 50 ty Try.underlying50 hc
  have e : (l.map It.val).toArray.size = l.length := by simp
  rw [e] at hl
  clear e hc H
  go_enter Try.func10, Try.ntmps10
  go_wp2
  go_ret
  exact ⟨rfl, rfl⟩

set_option maxHeartbeats 400000 in
theorem has_any {B p c m room : Nat} {l : List It} (nm : ByteArray) (hnm : nm.size ≤ maxLen) (w : World) (H : Pool w B p c m room l) :
    Calls Try.prog 12 #[.pointer (some ⟨p, 0, none⟩), .string nm] w fun e w' => e = .returned (.bool (decide (0 < cnt nm l))) ∧ w = w' := by
  have h1 : w.cell? ⟨p, 1, none⟩ = some (.map (some m)) := by rw [cell_at H.hp]; rfl
  obtain ⟨D, _, hown, hat⟩ := H.names
  obtain ⟨q, hrun, hq, _⟩ := hown.lookup_int law9 Try.underlying51 Try.underlying3 (zero3 w) (WideMaps.keyOf_string_mk Try.underlying9 hnm)
  rw [hat nm hnm] at hq
  obtain rfl : (cnt nm l : Int) = q := by simpa using hq
  clear hat hown hq H
  go_enter Try.func12, Try.ntmps12
  go_wp2
  go_ret
  exact ⟨by simp, rfl⟩
end Go.Proofs.Ytppagjglfpnfbaa
