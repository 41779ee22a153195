/- The reader's state in memory, and what fail, number, say, grown, Length, Distance of package inflate do. -/
import Derived.Test.YtcgcacegkbbmiaaRows
import Derived.WalkSpells
import Derived.WalkLawsBesides
import Derived.Lib.Hide
import Derived.BigQuiet
import Derived.Deep.LoopGhost
import Derived.Deep.AppendLies
namespace Go.Proofs.Ytcgcacegkbbmiaa
open Go.RowKit

/-- But for some blocks all is as it was. -/
structure KeptBut (S : List Nat) (w w' : World) : Prop where
  os : w'.os = w.os
  tape : w'.tape = w.tape
  output : w'.output = w.output
  size : w.heap.size ≤ w'.heap.size
  block : ∀ k, k < w.heap.size → k ∉ S → w'.heap[k]? = w.heap[k]?

theorem KeptBut.refl (S : List Nat) (w : World) : KeptBut S w w := ⟨rfl, rfl, rfl, Nat.le_refl _, fun _ _ _ => rfl⟩
theorem KeptBut.trans {S : List Nat} {a b c : World} (h : KeptBut S a b) (k : KeptBut S b c) : KeptBut S a c :=
  ⟨k.os.trans h.os, k.tape.trans h.tape, k.output.trans h.output, Nat.le_trans h.size k.size, fun i hi hn => (k.block i (Nat.lt_of_lt_of_le hi h.size) hn).trans (h.block i hi hn)⟩
theorem KeptBut.below {S : List Nat} {B : Nat} {w w' : World} (h : KeptBut S w w') (hS : ∀ k ∈ S, B ≤ k) (hB : B ≤ w.heap.size) : Below B w w' :=
  ⟨h.os, h.tape, h.output, h.size, fun k hk => h.block k (by omega) (fun hm => by have := hS k hm; omega)⟩
theorem KeptBut.of_below {S : List Nat} {w w' : World} (h : Below w.heap.size w w') : KeptBut S w w' :=
  ⟨h.os, h.tape, h.output, h.size, fun k hk _ => h.block k hk⟩
theorem KeptBut.of_grown {S : List Nat} {w w' : World} {row : Option Nat} (h : w.grownBy w' row) (hS : ∀ k, row = some k → k ∈ S) : KeptBut S w w' :=
  ⟨h.os, h.tape, h.output, h.size, fun k hk hn => h.block k hk (fun e => hn (hS k e.symm))⟩
theorem KeptBut.setCell {S : List Nat} {a w : World} (h : KeptBut S a w) {p : Addr} (hp : p.block ∈ S) (u : Value) : KeptBut S a (w.setCell p u) :=
  h.trans ⟨rfl, rfl, rfl, by simp [World.setCell], fun k _ hn => Below.heap_setCell _ _ _ _ (fun e => hn (e ▸ hp))⟩
theorem KeptBut.alloc {S : List Nat} {a w : World} (h : KeptBut S a w) (o : Obj) : KeptBut S a (w.alloc o) :=
  h.trans (KeptBut.of_below ((Below.refl _ _).alloc (Nat.le_refl _) _))
theorem KeptBut.drew {S : List Nat} {a w : World} (h : KeptBut S a w) : KeptBut S a w.drew :=
  h.trans (KeptBut.of_below (Below.refl _ _).drew)
theorem KeptBut.drewN {S : List Nat} {a w : World} (h : KeptBut S a w) (n : Nat) : KeptBut S a (w.drewN n) :=
  h.trans ⟨rfl, rfl, rfl, Nat.le_refl _, fun _ _ _ => rfl⟩
theorem KeptBut.mono {S T : List Nat} {a w : World} (h : KeptBut S a w) (hS : ∀ k ∈ S, k ∈ T) : KeptBut T a w :=
  ⟨h.os, h.tape, h.output, h.size, fun k hk hn => h.block k hk (fun hm => hn (hS k hm))⟩

theorem cell_at {w : World} {p : Nat} {cs : Array Value} {t : TypeId} {fr : Nat × Nat} (h : w.heap[p]? = some (.cells cs t fr)) (j : Nat) : w.cell? ⟨p, j, none⟩ = cs[j]? := by
  simp [World.cell?, h]

/-- The reader: the next bit, what was said, the error. -/
structure St where
  pos : Nat
  out : List UInt8
  err : Int

def bytes (l : List UInt8) : List Value := l.map fun b => .int .u8 (b.toNat : Int)

/-- Bit i of some bytes. -/
def bit (s : ByteArray) (i : Nat) : Nat := (s.data.toList.getD (i / 8) 0).toNat / 2 ^ (i % 8) % 2
/-- The number of k bits from a place on. -/
def val (s : ByteArray) (i : Nat) : Nat → Nat
  | 0 => 0
  | k + 1 => val s i k + bit s (i + k) * 2 ^ k

def fail (r : St) (e : Int) : St := if r.err = 0 then { r with err := e } else r
/-- A number of k bits. -/
def num (s : ByteArray) (k : Nat) (r : St) : Nat × St :=
  if r.err = 0 then
    if r.pos + k ≤ 8 * s.size then (val s r.pos k, { r with pos := r.pos + k })
    else (0, { r with pos := 8 * s.size, err := 2 })
  else (0, r)
/-- A byte is said. -/
def say (most : Nat) (b : UInt8) (r : St) : St :=
  if r.err = 0 then (if r.out.length = most then { r with err := 9 } else { r with out := r.out ++ [b] }) else r

/-- The reader of s at block p, with so much room. -/
structure Rd (w : World) (B p : Nat) (s : ByteArray) (most : Nat) (r : St) (va : Option Addr) (vc : Nat) : Prop where
  bp : B ≤ p
  hp : w.heap[p]? = some (.cells #[.string s, .int .i64 (r.pos : Int), .slice va r.out.length vc, .int .i64 (most : Int), .int .i64 r.err] 44)
  own : w.ownsRow B 5 1 (.slice va r.out.length vc) r.out.length (bytes r.out)
  fits : r.out.length ≤ most
  pos : r.pos ≤ 8 * s.size

/-- The block of a slice. -/
def blk (va : Option Addr) : List Nat := match va with | some a => [a.block] | none => []
theorem mem_blk {va : Option Addr} {n c k : Nat} : k ∈ blk va ↔ (Value.slice va n c).ownBlock = some k := by
  cases va with
  | none => simp [blk, Value.ownBlock]
  | some a => simp [blk, Value.ownBlock, eq_comm]

/-- A row of the call's own lies in a block of cells of its element's type. -/
theorem row_block {w : World} {B e size n : Nat} {va : Option Addr} {vc : Nat} {xs : List Value} (h : w.ownsRow B e size (.slice va n vc) n xs) {k : Nat} (hk : k ∈ blk va) : B ≤ k ∧ ∃ cur, w.heap[k]? = some (.cells cur e (0, 0)) := by
  rw [mem_blk (n := n) (c := vc)] at hk
  rcases h.2 with ⟨hv, _⟩ | ⟨g, cap, cur, hv, hb, hg, _⟩
  · rw [hv] at hk; cases hk
  · rw [hv] at hk
    obtain rfl : g = k := by simpa [Value.ownBlock] using hk
    exact ⟨hb, cur, hg⟩
theorem row_kept {w w' : World} {B e size n : Nat} {va : Option Addr} {vc : Nat} {xs : List Value} (h : w.ownsRow B e size (.slice va n vc) n xs) (hk : ∀ k, k ∈ blk va → w'.heap[k]? = w.heap[k]?) : w'.ownsRow B e size (.slice va n vc) n xs := by
  refine ⟨h.1, ?_⟩
  rcases h.2 with hn | ⟨g, cap, cur, hv, hb, hg, r⟩
  · exact .inl hn
  · exact .inr ⟨g, cap, cur, hv, hb, (hk g ((mem_blk (n := n) (c := vc)).2 (by rw [hv]; rfl))).trans hg, r⟩

theorem Rd.lt {w : World} {B p most : Nat} {s : ByteArray} {r : St} {va : Option Addr} {vc : Nat} (h : Rd w B p s most r va vc) : p < w.heap.size := (Array.getElem?_eq_some_iff.1 h.hp).1
theorem Rd.apart {w : World} {B p most : Nat} {s : ByteArray} {r : St} {va : Option Addr} {vc : Nat} (h : Rd w B p s most r va vc) : p ∉ blk va := fun hk => by
  obtain ⟨_, cur, hc⟩ := row_block h.own hk
  rw [h.hp] at hc; cases hc
theorem Rd.blk_lt {w : World} {B p most : Nat} {s : ByteArray} {r : St} {va : Option Addr} {vc : Nat} (h : Rd w B p s most r va vc) {k : Nat} (hk : k ∈ blk va) : B ≤ k ∧ k < w.heap.size := by
  obtain ⟨hb, cur, hc⟩ := row_block h.own hk
  exact ⟨hb, (Array.getElem?_eq_some_iff.1 hc).1⟩
/-- The reader stays what it is while other blocks turn. -/
theorem Rd.kept {w w' : World} {B p most : Nat} {s : ByteArray} {r : St} {va : Option Addr} {vc : Nat} {S : List Nat} (h : Rd w B p s most r va vc) (hk : KeptBut S w w') (hp : p ∉ S) (hb : ∀ k ∈ blk va, k ∉ S) : Rd w' B p s most r va vc :=
  ⟨h.bp, (hk.block p h.lt hp).trans h.hp, row_kept h.own (fun k hk' => hk.block k (h.blk_lt hk').2 (hb k hk')), h.fits, h.pos⟩
theorem Rd.setPos {w : World} {B p most : Nat} {s : ByteArray} {r : St} {va : Option Addr} {vc : Nat} (h : Rd w B p s most r va vc) (k : Nat) (hk : k ≤ 8 * s.size) : Rd (w.setCell ⟨p, 1, none⟩ (.int .i64 (k : Int))) B p s most { r with pos := k } va vc :=
  ⟨h.bp, by rw [heap_setCell_same _ _ _ _ _ _ h.hp]; rfl, row_kept h.own (fun k hk => heap_setCell_other _ _ _ _ (fun e => h.apart (by subst e; exact hk))), h.fits, hk⟩
theorem Rd.setErr {w : World} {B p most : Nat} {s : ByteArray} {r : St} {va : Option Addr} {vc : Nat} (h : Rd w B p s most r va vc) (e : Int) : Rd (w.setCell ⟨p, 4, none⟩ (.int .i64 e)) B p s most { r with err := e } va vc :=
  ⟨h.bp, by rw [heap_setCell_same _ _ _ _ _ _ h.hp]; rfl, row_kept h.own (fun k hk => heap_setCell_other _ _ _ _ (fun e => h.apart (by subst e; exact hk))), h.fits, h.pos⟩

section
variable {w : World} {B p most : Nat} {s : ByteArray} {r : St} {va : Option Addr} {vc : Nat}
theorem Rd.c0 (h : Rd w B p s most r va vc) : w.cell? ⟨p, 0, none⟩ = some (.string s) := by rw [cell_at h.hp]; rfl
theorem Rd.c1 (h : Rd w B p s most r va vc) : w.cell? ⟨p, 1, none⟩ = some (.int .i64 (r.pos : Int)) := by rw [cell_at h.hp]; rfl
theorem Rd.c2 (h : Rd w B p s most r va vc) : w.cell? ⟨p, 2, none⟩ = some (.slice va r.out.length vc) := by rw [cell_at h.hp]; rfl
theorem Rd.c3 (h : Rd w B p s most r va vc) : w.cell? ⟨p, 3, none⟩ = some (.int .i64 (most : Int)) := by rw [cell_at h.hp]; rfl
theorem Rd.c4 (h : Rd w B p s most r va vc) : w.cell? ⟨p, 4, none⟩ = some (.int .i64 r.err) := by rw [cell_at h.hp]; rfl
theorem Rd.fr (h : Rd w B p s most r va vc) (j : Nat) : w.frozen? ⟨p, j, none⟩ = false := frozen_of_row w _ j _ _ h.hp
end

set_option maxHeartbeats 400000 in
theorem fail_any {B p most : Nat} {s : ByteArray} {r : St} {va : Option Addr} {vc : Nat} (e0 : Int) (w : World) (H : Rd w B p s most r va vc) :
    Calls Try.prog 21 #[.pointer (some ⟨p, 0, none⟩), .int .i64 e0] w fun e w' => e = .returned (.tuple #[]) ∧ Rd w' B p s most (fail r e0) va vc ∧ KeptBut [p] w w' := by
  have c4 := H.c4
  have f4 := H.fr 4
  by_cases h : r.err = 0
  · have hd : (r.err == 0) = true := by simp [h]
    have HR := Lib.hid (H.setErr e0)
    have HE : fail r e0 = { r with err := e0 } := by unfold fail; rw [if_pos h]
    rw [HE]
    clear H h HE
    go_enter Try.func21, Try.ntmps21
    go_wp2
    go_end0
    exact ⟨rfl, HR.out, (KeptBut.refl _ _).setCell (by simp) _⟩
  · have hd : (r.err == 0) = false := by simp [h]
    have HR := Lib.hid H
    have HE : fail r e0 = r := by unfold fail; rw [if_neg h]
    rw [HE]
    clear H h HE
    go_enter Try.func21, Try.ntmps21
    go_wp2
    go_end0
    exact ⟨rfl, HR.out, KeptBut.refl _ _⟩

theorem bit_lt (s : ByteArray) (i : Nat) : bit s i < 2 := by unfold bit; omega
theorem val_lt (s : ByteArray) (i k : Nat) : val s i k < 2 ^ k := by
  induction k with
  | zero => simp [val]
  | succ k ih =>
    have := bit_lt s (i + k)
    have h2 : bit s (i + k) * 2 ^ k ≤ 1 * 2 ^ k := Nat.mul_le_mul_right _ (by omega)
    show val s i k + bit s (i + k) * 2 ^ k < 2 ^ (k + 1)
    rw [Nat.pow_succ]; omega

theorem wraps_i64 (n : Int) (h₀ : 0 ≤ n) (h₁ : n < 2 ^ 63) : IntKind.i64.wrap n = n := by rw [IntKind.wrap_i64]; omega
theorem bit_and (c q : Nat) (hc : c < 256) : bits .and .u8 ((c : Int) / 2 ^ q) 1 = ((c / 2 ^ q % 2 : Nat) : Int) := by
  have h : c / 2 ^ q < 2 ^ 8 := Nat.lt_of_le_of_lt (Nat.div_le_self _ _) hc
  have := (bits_nat .u8 8 (by decide) wraps_u8 (c / 2 ^ q) 1 h (by decide)).1
  rw [Nat.and_one_is_mod] at this
  rw [← this]
  congr 1
theorem bit_or (n b j : Nat) (hn : n < 2 ^ j) (hb : b < 2) (hj : j ≤ 32) : bits .or .i64 (n : Int) (wrap64 (wrap64 (b : Int) * 2 ^ j)) = ((n + b * 2 ^ j : Nat) : Int) := by
  have hp : 2 ^ j ≤ 2 ^ 32 := Nat.pow_le_pow_right (by decide) hj
  have hpe : (2 : Int) ^ j = ((2 ^ j : Nat) : Int) := by simp
  have h1 : wrap64 (b : Int) = b := by unfold wrap64; omega
  have hm : b * 2 ^ j ≤ 1 * 2 ^ j := Nat.mul_le_mul_right _ (by omega)
  have h2 : wrap64 ((b : Int) * 2 ^ j) = ((b * 2 ^ j : Nat) : Int) := by
    have e : (b : Int) * 2 ^ j = ((b * 2 ^ j : Nat) : Int) := by simp
    rw [e]
    unfold wrap64; omega
  rw [h1, h2, (bits_nat .i64 63 (by decide) wraps_i64 n (b * 2 ^ j) (by omega) (by omega)).2]
  have := Nat.two_pow_add_eq_or_of_lt hn b
  rw [Nat.or_comm, Nat.mul_comm, ← this]
  omega
theorem bit_at (s : ByteArray) (i : Nat) (h : i / 8 < s.size) : bit s i = s[i / 8].toNat / 2 ^ (i % 8) % 2 := by
  unfold bit
  congr 3
  rw [List.getD_eq_getElem?_getD, List.getElem?_eq_getElem (by simpa using h)]
  rfl
theorem val_step (s : ByteArray) (q j : Nat) (h : (q + j) / 8 < s.size) (hj : j ≤ 32) :
    bits .or .i64 (val s q j : Int) (wrap64 (wrap64 (bits .and .u8 ((s[(q + j) / 8].toNat : Int) / 2 ^ ((q + j) % 8)) 1) * 2 ^ j)) = (val s q (j + 1) : Int) := by
  rw [bit_and _ _ (s[(q + j) / 8].toNat_lt), bit_or _ _ _ (val_lt s q j) (by omega) hj]
  show _ = ((val s q j + bit s (q + j) * 2 ^ j : Nat) : Int)
  rw [bit_at s _ h]

/-- A number of so many bits, while there is no error. -/
structure Got (wr : World) (B p : Nat) (s : ByteArray) (most : Nat) (r : St) (va : Option Addr) (vc : Nat) (w : World) (j : Nat) : Prop where
  rd : Rd wr B p s most { r with pos := r.pos + j } va vc
  kept : KeptBut [p] w wr

theorem Rd.drewN {w : World} {B p most : Nat} {s : ByteArray} {r : St} {va : Option Addr} {vc : Nat} (h : Rd w B p s most r va vc) (n : Nat) : Rd (w.drewN n) B p s most r va vc :=
  h.kept (S := []) ((KeptBut.refl _ _).drewN _) (by simp) (by simp)

set_option maxRecDepth 100000 in
set_option maxHeartbeats 1000000 in
theorem number_any {B p most : Nat} {s : ByteArray} {r : St} {va : Option Addr} {vc : Nat} (k : Nat) (hk : k ≤ 32) (hs : 8 * s.size < 4611686018427387904) (w : World) (H : Rd w B p s most r va vc) :
    Calls Try.prog 17 #[.pointer (some ⟨p, 0, none⟩), .int .i64 (k : Int)] w fun e w' => e = .returned (.int .i64 ((num s k r).1 : Int)) ∧ Rd w' B p s most (num s k r).2 va vc ∧ KeptBut [p] w w' := by
  by_cases he : r.err = 0
  · have hr0 := H.pos
    go_enter Try.func17, Try.ntmps17
    go_wp2_with fail
    go_loopg [5, 8] 40 (fun g n i wr => ∃ j : Nat, g = 40 - j ∧ j ≤ k ∧ i = .int .i64 (j : Int) ∧ n = .int .i64 (val s r.pos j : Int) ∧ Hid (Got wr B p s most r va vc w j))
    case atStart => exact ⟨0, rfl, Nat.zero_le _, rfl, rfl, Lib.hid ⟨H, KeptBut.refl _ _⟩⟩
    case round =>
      obtain ⟨j, hgj, hj, rfl, rfl, G⟩ := hrel
      have c0 := G.out.rd.c0
      have c1 := G.out.rd.c1
      have c4 := G.out.rd.c4
      have f1 := G.out.rd.fr 1
      have hpos := G.out.rd.pos
      simp only [he] at c4 c1 hpos
      obtain ⟨P, hP⟩ : ∃ P, P = r.pos + j := ⟨_, rfl⟩
      rw [← hP] at c1 hpos
      have hvs := val_step s r.pos j
      rw [← hP] at hvs
      have HV := Lib.hid hvs; clear hvs
      have HP := Lib.hid hP; clear hP
      by_cases hlt : j < k
      · have hd : decide ((j : Int) < (k : Int)) = true := by simp; omega
        have hz : ((0 : Int) != 0) = false := rfl
        by_cases hin : P < 8 * s.size
        · have hi0 : (0 : Int) ≤ (P : Int) / 8 := by omega
          have hi1 : (P : Int) / 8 < (s.size : Int) := by omega
          have hd8 : decide ((s.size : Int) ≤ (P : Int) / 8) = false := by simp; omega
          go_wp2_with fail
          go_quiet (fail)
          go_wp2_with fail
          go_quiet (fail)
          go_wp2_with fail
          go_roundg (40 - (j + 1))
          case measure => omega
          case rel =>
            refine ⟨j + 1, rfl, hlt, by go_num, ?_, Lib.hid ⟨?_, ?_⟩⟩
            · rw [HV.out (by omega) (by omega)]
            · have e := HP.out
              rw [show r.pos + (j + 1) = P + 1 from by omega]
              exact (G.out.rd.drewN _).setPos (P + 1) (by omega)
            · exact (G.out.kept.drewN _).setCell (by simp) _
        · have hd8 : decide ((s.size : Int) ≤ (P : Int) / 8) = true := by simp; omega
          go_wp2_with fail
          go_quiet (fail)
          go_wp2_with fail
          refine (fail_any 2 _ (G.out.rd.drewN _)).mono ?_
          rintro e w2 ⟨rfl, H2, k2⟩
          have H2 := Lib.hid H2
          have K2 := Lib.hid k2; clear k2
          go_wp2
          go_ret
          have e := HP.out
          have hnum : num s k r = (0, { r with pos := 8 * s.size, err := 2 }) := by
            unfold num; rw [if_pos he, if_neg (by omega)]
          have hf : fail { r with pos := r.pos + j } 2 = { r with pos := 8 * s.size, err := 2 } := by
            unfold fail
            rw [if_pos he, show r.pos + j = 8 * s.size from by omega]
          rw [hnum]
          refine ⟨rfl, ?_, (G.out.kept.drewN _).trans K2.out⟩
          have := H2.out
          rw [hf] at this
          exact this
      · obtain rfl : j = k := by omega
        have hd : decide ((j : Int) < (j : Int)) = false := by simp
        go_wp2
        go_ret
        have e := HP.out
        have hnum : num s j r = (val s r.pos j, { r with pos := r.pos + j }) := by
          unfold num; rw [if_pos he, if_pos (by omega)]
        rw [hnum]
        exact ⟨rfl, G.out.rd, G.out.kept⟩
  · have hne : (r.err != 0) = true := by simp [he]
    have hnum : num s k r = (0, r) := by unfold num; rw [if_neg he]
    rw [hnum]
    have c4 := H.c4
    have HH := Lib.hid H; clear H
    cases k with
    | zero =>
      go_enter Try.func17, Try.ntmps17
      go_wp2_with fail
      go_loopg [5, 8] 40 (fun g n i wr => i = .int .i64 0 ∧ n = .int .i64 0 ∧ wr = w)
      case atStart => exact ⟨rfl, rfl, rfl⟩
      case round =>
        obtain ⟨rfl, rfl, rfl⟩ := hrel
        go_wp2
        go_ret
        exact ⟨rfl, HH.out, KeptBut.refl _ _⟩
    | succ k =>
      have hd : decide ((0 : Int) < ((k + 1 : Nat) : Int)) = true := by simp
      go_enter Try.func17, Try.ntmps17
      go_wp2_with fail
      go_loopg [5, 8] 40 (fun g n i wr => i = .int .i64 0 ∧ n = .int .i64 0 ∧ wr = w)
      case atStart => exact ⟨rfl, rfl, rfl⟩
      case round =>
        obtain ⟨rfl, rfl, rfl⟩ := hrel
        go_wp2
        go_ret
        exact ⟨rfl, HH.out, KeptBut.refl _ _⟩

theorem info5 : (Try.prog.info? 5).map (fun i => (i.zero, i.size, i.bytes)) = some (some (.int .u8 0), 1, 1) := by kernel_rfl

theorem bytes_snoc (l : List UInt8) (b : UInt8) : bytes (l ++ [b]) = bytes l ++ [.int .u8 (b.toNat : Int)] := by simp [bytes]

/-- From one state to a later one: all but the reader and what was said is as it was; what was said lies where it lay, or in a new block. -/
structure Mv (p : Nat) (w : World) (va : Option Addr) (w' : World) (va' : Option Addr) : Prop where
  kept : KeptBut (p :: blk va) w w'
  new : ∀ k ∈ blk va', k ∈ blk va ∨ w.heap.size ≤ k
theorem Mv.refl (p : Nat) (w : World) (va : Option Addr) : Mv p w va w va := ⟨KeptBut.refl _ _, fun _ h => .inl h⟩
theorem Mv.of {p : Nat} {w w' : World} (va : Option Addr) (h : KeptBut [p] w w') : Mv p w va w' va := ⟨h.mono (by simp), fun _ h => .inl h⟩
theorem Mv.trans {p : Nat} {w w1 w2 : World} {va va1 va2 : Option Addr} (h : Mv p w va w1 va1) (k : Mv p w1 va1 w2 va2) : Mv p w va w2 va2 := by
  refine ⟨⟨k.kept.os.trans h.kept.os, k.kept.tape.trans h.kept.tape, k.kept.output.trans h.kept.output, Nat.le_trans h.kept.size k.kept.size, fun j hj hn => ?_⟩, fun j hj => ?_⟩
  · refine (k.kept.block j (Nat.lt_of_lt_of_le hj h.kept.size) (fun hm => ?_)).trans (h.kept.block j hj hn)
    rcases List.mem_cons.1 hm with e | hb
    · exact hn (e ▸ List.mem_cons_self)
    · rcases h.new j hb with h1 | h1
      · exact hn (List.mem_cons_of_mem _ h1)
      · omega
  · rcases k.new j hj with h1 | h1
    · exact h.new j h1
    · exact .inr (Nat.le_trans h.kept.size h1)
theorem Mv.drewN {p : Nat} {w w1 : World} {va va1 : Option Addr} (h : Mv p w va w1 va1) (n : Nat) : Mv p w va (w1.drewN n) va1 := h.trans (Mv.of _ ((KeptBut.refl _ _).drewN _))

set_option maxRecDepth 100000 in
set_option maxHeartbeats 1000000 in
theorem say_any {B p most : Nat} {s : ByteArray} {r : St} {va : Option Addr} {vc : Nat} (b : UInt8) (hm : most ≤ 1048576) (w : World) (hB : B ≤ w.heap.size) (H : Rd w B p s most r va vc) :
    Calls Try.prog 28 #[.pointer (some ⟨p, 0, none⟩), .int .u8 (b.toNat : Int)] w fun e w' => e = .returned (.bool (decide ((say most b r).err = 0))) ∧ ∃ va' vc', Rd w' B p s most (say most b r) va' vc' ∧ Mv p w va w' va' := by
  have c2 := H.c2
  have c3 := H.c3
  have c4 := H.c4
  have hfit := H.fits
  by_cases he : r.err = 0
  · have hee : (r.err == 0) = true := by simp [he]
    by_cases hl : r.out.length = most
    · have hs : say most b r = { r with err := 9 } := by unfold say; rw [if_pos he, if_pos hl]
      have hf : fail r 9 = { r with err := 9 } := by unfold fail; rw [if_pos he]
      rw [hs]
      have HH := Lib.hid H; clear H hs
      have HL := Lib.hid hl
      have hd : decide ((r.out.length : Int) = (most : Int)) = true := by simp [hl]
      rw [hl] at c2
      clear hl
      go_enter Try.func28, Try.ntmps28
      go_wp2_with fail
      go_quiet (fail)
      go_wp2_with fail
      refine (fail_any 9 _ (HH.out.drewN _)).mono ?_
      rintro e w1 ⟨rfl, H1, k1⟩
      rw [hf] at H1
      have d4 := H1.c4
      have hz : ((9 : Int) != 0) = true := rfl
      have H1 := Lib.hid H1
      go_wp2
      go_ret
      exact ⟨rfl, va, vc, H1.out, Mv.of _ (((KeptBut.refl _ _).drewN _).trans k1)⟩
    · have hs : say most b r = { r with out := r.out ++ [b] } := by unfold say; rw [if_pos he, if_neg hl]
      rw [hs]
      have hd : decide ((r.out.length : Int) = (most : Int)) = false := by simp; omega
      have hne : (r.err != 0) = false := by simp [he]
      obtain ⟨i5, hi, hz0, hz1, hz2⟩ := info_parts info5
      have HH := Lib.hid H; clear H hs
      go_enter Try.func28, Try.ntmps28
      go_wp2_with fail
      go_quiet (fail)
      generalize hW : World.drewN _ _ = W
      have HW : Rd W B p s most r va vc := by rw [← hW]; exact HH.out.drewN _
      have KW : KeptBut [p] w W := by rw [← hW]; exact (KeptBut.refl _ _).drewN _
      have hbW : B ≤ W.heap.size := Nat.le_trans hB KW.size
      have d2 := HW.c2
      have d4 := HW.c4
      have hpl := HW.lt
      have hap := HW.apart
      have hX := Lib.hid hW; clear hW
      have HW := Lib.hid HW
      have KW := Lib.hid KW
      clear c2 c3 c4
      go_wp2_with (at_builtin; refine wpList_append_lies _ rfl _ _ 36 rfl B 5 i5 _ 1 1 Try.underlying36 hi hz0 hz1 hz2 rfl (by decide) (.slice va r.out.length vc) r.out.length _ rfl (HW.out.own.alloc _) ⟨W.heap.size, 0, none⟩ 1 1 [.int .u8 (b.toNat : Int)] rfl rfl ?c1 ?c2 (by decide) ?c3 ?c4 ?c5 (W.heap.size + 1) (by simp) ?c6)
      case c1 => exact World.news_of_block (cs := #[.int .u8 (b.toNat : Int)]) (t := 5) (fr := (0, 0)) (heap_alloc_new W _)
      case c2 => intro u hu; simp at hu; subst hu; rfl
      case c3 => unfold maxLen; omega
      case c4 => omega
      case c5 => simp; omega
      case c6 =>
      intro g cap w1 hown1 hgrow hat hlt
      have hxo : (Value.slice va r.out.length vc).ownBlock ≠ some p := fun e => hap ((mem_blk (n := r.out.length) (c := vc)).2 e)
      have hp1 : w1.heap[p]? = some (.cells #[.string s, .int .i64 (r.pos : Int), .slice va r.out.length vc, .int .i64 (most : Int), .int .i64 r.err] 44) :=
        (hgrow.block p (by simp; omega) (Ne.symm hxo)).trans ((Below.heap_alloc W _ _ hpl).trans HW.out.hp)
      have e2 : w1.cell? ⟨p, 2, none⟩ = some (.slice va r.out.length vc) := by rw [cell_at hp1]; rfl
      have f2 : w1.frozen? ⟨p, 2, none⟩ = false := frozen_of_row w1 _ 2 _ _ hp1
      have HP1 := Lib.hid hp1; clear hp1
      have HO1 := Lib.hid hown1; clear hown1
      have HG := Lib.hid hgrow; clear hgrow
      go_wp2
      go_ret
      refine ⟨by simp [he], some ⟨g, 0, none⟩, cap, ⟨HH.out.bp, ?_, ?_, by simp; omega, HH.out.pos⟩, ⟨?_, ?_⟩⟩
      · rw [heap_setCell_same _ _ _ _ _ _ HP1.out]
        simp [List.length_append]
      · rw [bytes_snoc]
        have hgp : g ≠ p := fun e => by
          obtain ⟨_, cur, hc⟩ := row_block HO1.out (k := g) (by simp [blk])
          rw [e, HP1.out] at hc; cases hc
        have := row_kept (w' := w1.setCell ⟨p, 2, none⟩ (.slice (some ⟨g, 0, none⟩) (r.out.length + 1) cap)) HO1.out (fun k hk => heap_setCell_other _ _ _ _ (by simp [blk] at hk; subst hk; exact hgp))
        rw [show (r.out ++ [b]).length = r.out.length + 1 from by simp]
        exact this
      · have k1 : KeptBut (p :: blk va) w W := KW.out.mono (by simp)
        exact ((k1.alloc _).trans (KeptBut.of_grown HG.out (fun j hj => List.mem_cons_of_mem _ ((mem_blk (n := r.out.length) (c := vc)).2 hj)))).setCell (by simp) _
      · intro k hk
        obtain rfl : k = g := by simpa [blk] using hk
        have := KW.out.size
        rcases hat with h1 | h1
        · exact .inl ((mem_blk (n := r.out.length) (c := vc)).2 h1)
        · exact .inr (by omega)
  · have hs : say most b r = r := by unfold say; rw [if_neg he]
    rw [hs]
    have hee : (r.err == 0) = false := by simp [he]
    have hne : (r.err != 0) = true := by simp [he]
    have HH := Lib.hid H; clear H hs
    go_enter Try.func28, Try.ntmps28
    go_wp2_with fail
    go_quiet (fail)
    go_wp2
    go_ret
    exact ⟨by simp [he], va, vc, HH.out.drewN _, (Mv.refl _ _ _).drewN _⟩
end Go.Proofs.Ytcgcacegkbbmiaa
