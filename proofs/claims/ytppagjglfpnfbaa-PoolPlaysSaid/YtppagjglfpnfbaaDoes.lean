/- The walk of does of package engrosserlaw22: a deed on both pools. -/
import Derived.Test.YtppagjglfpnfbaaHas
namespace Go.Proofs.Ytppagjglfpnfbaa
open Go.RowKit Go.Conc Go.Maps

/-- A region that draws its order, at the class of worlds that are as this one was below B: one walk, in the text's order. -/
theorem wp_region_below_lit {P : Program} {id : Nat} {Q : Exit → Act → World → Prop} {a : Act} {w : World} {l : List Oper} (B : Nat) (w0 : World) (hm : P.follows .mixedOrders = true) (hB : Region.lexB .any l.toArray = true) (hw : Below B w0 w)
    (h : wpQuiet P l.toArray (fun w' => Below B w0 w') (fun a' => ∀ w', Below B w0 w' → Q .normal a' w') l a) : (Code.region id l.toArray true).wp P Q a w :=
  wp_region_quiet (C := fun w' => Below B w0 w') hm hB ⟨hw.os, hw.tape, hw.output, hw.size, hw.block⟩ (by simpa using h)

/-- A deed, as it is handed over. -/
def deed (k : Int) (it : It) (dn : ByteArray) : Value := .agg #[.int .i64 k, .int .i64 it.id, .string it.name, .bool it.pre, .string it.body, .string it.key, .string it.full, .slice it.ca it.cl it.cc, .int .i64 it.time, .int .i64 it.idx, .string dn]

def Does (w : World) (B p c x room : Nat) (l : List It) (it : It) (e : Ending) (w' : World) : Prop :=
  e = .returned (.bool true) ∧ Below B w w' ∧ ∃ (l' : List It) (m' : Nat) (va' : Option Addr) (vc' : Nat), Pool w' B p c m' room l' ∧ RP w' B x room l' va' vc' ∧ ∀ y ∈ l', y ∈ l ∨ y = it

theorem cell_kept {S : List Nat} {w w' : World} (hk : KeptBut S w w') {b o : Nat} {v : Value} (hb : b < w.heap.size) (hn : b ∉ S) (h : w.cell? ⟨b, o, none⟩ = some v) : w'.cell? ⟨b, o, none⟩ = some v :=
  (World.cell?_of_block (a := ⟨b, o, none⟩) (hk.block b hb hn)).trans h

theorem cell_below {w w1 : World} (hk : Below w.drew.heap.size w.drew w1) {b o : Nat} {v : Value} (hb : b < w.heap.size) (h : w.cell? ⟨b, o, none⟩ = some v) : w1.cell? ⟨b, o, none⟩ = some v :=
  (hk.cell (p := ⟨b, o, none⟩) hb).trans h

theorem rp_kept {w w' : World} {B x room : Nat} {l : List It} {va : Option Addr} {vc : Nat} {S : List Nat} (R : RP w B x room l va vc) (hk : KeptBut S w w') (hS : ∀ k ∈ x :: blk va, k ∉ S) : RP w' B x room l va vc :=
  ⟨R.bx, (hk.block x (Array.getElem?_eq_some_iff.1 R.hx).1 (hS x (by simp))).trans R.hx, own_kept R.own hk (fun k hk' => hS k (List.mem_cons_of_mem _ ((mem_blk (n := l.length) (c := vc)).2 hk'))), R.fits, R.small⟩

/-- The two pools share no block. -/
theorem disj {w : World} {B p c m x room : Nat} {l l' : List It} {va : Option Addr} {vc : Nat} (H : Pool w B p c m room l) (R : RP w B x room l' va vc) : ∀ k ∈ x :: blk va, k ∉ [p, c, m] := by
  obtain ⟨s, r, hc⟩ := H.hc
  obtain ⟨D, _, ⟨es, clock, hm, _⟩, _⟩ := H.names
  intro k hk hm'
  have hk' : (∃ cs, w.heap[k]? = some (.cells cs 41 (0, 0))) ∨ ∃ cs, w.heap[k]? = some (.cells cs 55 (0, 0)) := by
    rcases List.mem_cons.1 hk with rfl | h
    · exact .inl ⟨_, R.hx⟩
    · exact .inr (row_block R.own h).2
  simp at hm'
  rcases hm' with rfl | rfl | rfl <;> rcases hk' with ⟨cs, h⟩ | ⟨cs, h⟩
  · rw [H.hp] at h; cases h
  · rw [H.hp] at h; cases h
  · rw [hc] at h; cases h
  · rw [hc] at h; cases h
  · rw [hm] at h; cases h
  · rw [hm] at h; cases h

set_option maxRecDepth 100000 in
set_option maxHeartbeats 3200000 in
theorem does_pos {B p c m x room : Nat} {l : List It} {va : Option Addr} {vc : Nat} (k : Int) (hk : (Lit.int .i64 k).wf = true) (it : It) (dn : ByteArray) (w : World) (hB : B ≤ w.heap.size) (H : Pool w B p c m room l) (R : RP w B x room l va vc)
    (hn : it.name.size ≤ maxLen) (hdn : dn.size ≤ maxLen) (w0 : World) (hw0 : w0.heap.size ≤ B) (hch : ∀ y ∈ l, y.cl ≤ maxLen ∧ ∃ ss, StrsAt w0 y.ca y.cl ss) (hb0 : Below B w0 w) (h0 : 0 ≤ k) :
    Calls Try.prog 9 #[.pointer (some ⟨p, 0, none⟩), .pointer (some ⟨x, 0, none⟩), deed k it dn] w (Does w B p c x room l it) := by
  unfold deed
  have hdis := disj H R
  have hRb : ∀ k ∈ x :: blk va, B ≤ k := fun k hk => by
    rcases List.mem_cons.1 hk with rfl | h
    · exact R.bx
    · exact (row_block R.own h).1
  have hPl : p < w.heap.size ∧ c < w.heap.size ∧ m < w.heap.size := ⟨(Array.getElem?_eq_some_iff.1 H.hp).1, (by obtain ⟨_, _, h⟩ := H.hc; exact (Array.getElem?_eq_some_iff.1 h).1), H.names.lt⟩
  have hRl : ∀ k ∈ x :: blk va, k < w.heap.size := fun k hk => by
    rcases List.mem_cons.1 hk with rfl | h
    · exact (Array.getElem?_eq_some_iff.1 R.hx).1
    · obtain ⟨_, cur, hc⟩ := row_block R.own h; exact (Array.getElem?_eq_some_iff.1 hc).1
  have HD := Lib.hid hdis; clear hdis
  have HRB := Lib.hid hRb; clear hRb
  have HRL := Lib.hid hRl; clear hRl
  have HPL := Lib.hid hPl; clear hPl
  have HH := Lib.hid H; clear H
  have HR := Lib.hid R; clear R
  have HCH := Lib.hid hch; clear hch
  have HB0 := Lib.hid hb0; clear hb0
  have hkb : -9223372036854775808 ≤ k ∧ k ≤ 9223372036854775807 := by
    simp [Lit.wf, IntKind.min, IntKind.max, IntKind.signed, IntKind.bits] at hk; omega
  clear hk
  go_enter Try.func9, Try.ntmps9
  go_wp2_with fail
  · skip
    generalize hW : World.alloc w _ = W
    have hbx : W.heap[w.heap.size]? = some (.cells #[.int .i64 k, .int .i64 it.id, .string it.name, .bool it.pre, .string it.body, .string it.key, .string it.full, .slice it.ca it.cl it.cc, .int .i64 it.time, .int .i64 it.idx, .string dn] 37) := by rw [← hW]; exact heap_alloc_new _ _
    have hbel : KeptBut [] w W := by rw [← hW]; exact (KeptBut.refl _ _).alloc _
    have hsz : w.heap.size < W.heap.size := by rw [← hW]; simp
    clear hW
    obtain ⟨bx, hbxe⟩ : ∃ bx, bx = w.heap.size := ⟨_, rfl⟩
    rw [← hbxe] at hbx hsz ⊢
    have HE := Lib.hid hbxe; clear hbxe
    have b1 : W.cell? ⟨bx, 1, none⟩ = some (.int .i64 it.id) := by rw [cell_at hbx]; rfl
    have b2 : W.cell? ⟨bx, 2, none⟩ = some (.string it.name) := by rw [cell_at hbx]; rfl
    have b3 : W.cell? ⟨bx, 3, none⟩ = some (.bool it.pre) := by rw [cell_at hbx]; rfl
    have b4 : W.cell? ⟨bx, 4, none⟩ = some (.string it.body) := by rw [cell_at hbx]; rfl
    have b5 : W.cell? ⟨bx, 5, none⟩ = some (.string it.key) := by rw [cell_at hbx]; rfl
    have b6 : W.cell? ⟨bx, 6, none⟩ = some (.string it.full) := by rw [cell_at hbx]; rfl
    have b7 : W.cell? ⟨bx, 7, none⟩ = some (.slice it.ca it.cl it.cc) := by rw [cell_at hbx]; rfl
    have b8 : W.cell? ⟨bx, 8, none⟩ = some (.int .i64 it.time) := by rw [cell_at hbx]; rfl
    have b9 : W.cell? ⟨bx, 9, none⟩ = some (.int .i64 it.idx) := by rw [cell_at hbx]; rfl
    clear hbx
    have H1 : Pool W.drew B p c m room l := (HH.out.kept hbel (by simp) (by simp) (by simp)).kept (KeptBut.drew (KeptBut.refl [] W)) (by simp) (by simp) (by simp)
    have R1 : RP W.drew B x room l va vc := rp_kept (rp_kept HR.out hbel (by simp)) (KeptBut.drew (KeptBut.refl [] W)) (by simp)
    have H1 := Lib.hid H1
    have R1 := Lib.hid R1
    have hbx4 : bx ∉ x :: blk va := fun h => by have := HRL.out bx h; have := HE.out; omega
    have hbxp : bx ∉ [p, c, m] := by have := HPL.out; have := HE.out; simp; omega
    have HBEL := Lib.hid hbel; clear hbel
    by_cases hroom : l.length < room
    · go_region_held3 (fun w' => w'.cell? ⟨bx, 1, none⟩ = some (.int .i64 it.id) ∧ w'.cell? ⟨bx, 2, none⟩ = some (.string it.name) ∧ w'.cell? ⟨bx, 3, none⟩ = some (.bool it.pre) ∧ w'.cell? ⟨bx, 4, none⟩ = some (.string it.body) ∧
          w'.cell? ⟨bx, 5, none⟩ = some (.string it.key) ∧ w'.cell? ⟨bx, 6, none⟩ = some (.string it.full) ∧ w'.cell? ⟨bx, 7, none⟩ = some (.slice it.ca it.cl it.cc) ∧ w'.cell? ⟨bx, 8, none⟩ = some (.int .i64 it.time) ∧ w'.cell? ⟨bx, 9, none⟩ = some (.int .i64 it.idx))
        (first
          | go_keep
          | (go_split_ands; refine ⟨?_, ?_, ?_, ?_, ?_, ?_, ?_, ?_, ?_⟩ <;> exact cell_kept k3 hsz hbxp (by assumption))
          | (go_split_ands; refine ⟨?_, ?_, ?_, ?_, ?_, ?_, ?_, ?_, ?_⟩ <;> exact cell_kept k4 hsz3 hbx4 (cell_kept k3 hsz hbxp (by assumption))))
        (first
          | (go_at_call 11; refine (offer_room it hn _ H1.out hroom).mono ?_; rintro e w3 ⟨rfl, H3, k3⟩; have R3 := Lib.hid (rp_kept R1.out k3 HD.out); have H3 := Lib.hid H3; have hsz3 : bx < w3.heap.size := Nat.lt_of_lt_of_le hsz k3.size; have hB3 : B ≤ w3.heap.size := (by have := HE.out; omega))
          | (go_at_call 14; refine (roffer_room it _ hB3 R3.out hroom).mono ?_; rintro e w4 ⟨rfl, R4, k4⟩; have R4 := Lib.hid R4))
      go_wp2
      go_ret
      obtain ⟨va', vc', R5⟩ := R4.out
      refine ⟨rfl, ?_, l ++ [it], m, va', vc', H3.out.kept k4 (fun h => (disj H3.out R3.out) p h (by simp)) (fun h => (disj H3.out R3.out) c h (by simp)) (fun h => (disj H3.out R3.out) m h (by simp)), R5, fun y hy => by simpa using hy⟩
      have hpb : ∀ k ∈ [p, c, m], B ≤ k := by have h1 := HH.out.bp; have h2 := HH.out.bc; have h3 := HH.out.bm; simp; omega
      exact ((HBEL.out.below (by simp) hB).trans (Below.refl _ _).drew).trans ((k3.below hpb (by have := HE.out; simp; omega)).trans (k4.below HRB.out hB3))
    · go_region_held3 (fun w' => w'.cell? ⟨bx, 1, none⟩ = some (.int .i64 it.id) ∧ w'.cell? ⟨bx, 2, none⟩ = some (.string it.name) ∧ w'.cell? ⟨bx, 3, none⟩ = some (.bool it.pre) ∧ w'.cell? ⟨bx, 4, none⟩ = some (.string it.body) ∧
          w'.cell? ⟨bx, 5, none⟩ = some (.string it.key) ∧ w'.cell? ⟨bx, 6, none⟩ = some (.string it.full) ∧ w'.cell? ⟨bx, 7, none⟩ = some (.slice it.ca it.cl it.cc) ∧ w'.cell? ⟨bx, 8, none⟩ = some (.int .i64 it.time) ∧ w'.cell? ⟨bx, 9, none⟩ = some (.int .i64 it.idx))
        (first
          | go_keep
          | (go_split_ands; refine ⟨?_, ?_, ?_, ?_, ?_, ?_, ?_, ?_, ?_⟩ <;> exact cell_kept k3 hsz (by simp) (by assumption))
          | (go_split_ands; refine ⟨?_, ?_, ?_, ?_, ?_, ?_, ?_, ?_, ?_⟩ <;> exact cell_kept k4 hsz3 (by simp) (cell_kept k3 hsz (by simp) (by assumption))))
        (first
          | (go_at_call 11; refine (offer_full it _ H1.out (by omega)).mono ?_; rintro e w3 ⟨rfl, q3⟩; have k3 : KeptBut [] W.drew w3 := KeptBut.of_below q3; have R3 := Lib.hid (rp_kept R1.out k3 (by simp)); have hsz3 : bx < w3.heap.size := Nat.lt_of_lt_of_le hsz k3.size; have hB3 : B ≤ w3.heap.size := (by have := HE.out; omega))
          | (go_at_call 14; refine (roffer_full it _ R3.out (by omega)).mono ?_; rintro e w4 ⟨rfl, q4⟩; have k4 : KeptBut [] w3 w4 := KeptBut.of_below q4))
      go_wp2
      go_ret
      refine ⟨rfl, ?_, l, m, va, vc, (H1.out.kept k3 (by simp) (by simp) (by simp)).kept k4 (by simp) (by simp) (by simp), rp_kept R3.out k4 (by simp), fun y hy => .inl hy⟩
      exact ((HBEL.out.below (by simp) hB).trans (Below.refl _ _).drew).trans ((k3.below (by simp) (by have := HE.out; simp; omega)).trans (k4.below (by simp) hB3))
  · skip
    generalize hW : World.alloc w _ = W
    have hbx : W.heap[w.heap.size]? = some (.cells #[.int .i64 k, .int .i64 it.id, .string it.name, .bool it.pre, .string it.body, .string it.key, .string it.full, .slice it.ca it.cl it.cc, .int .i64 it.time, .int .i64 it.idx, .string dn] 37) := by rw [← hW]; exact heap_alloc_new _ _
    have hbel : KeptBut [] w W := by rw [← hW]; exact (KeptBut.refl _ _).alloc _
    have hsz : w.heap.size < W.heap.size := by rw [← hW]; simp
    clear hW
    obtain ⟨bx, hbxe⟩ : ∃ bx, bx = w.heap.size := ⟨_, rfl⟩
    rw [← hbxe] at hbx hsz ⊢
    have HE := Lib.hid hbxe; clear hbxe
    have b1 : W.cell? ⟨bx, 1, none⟩ = some (.int .i64 it.id) := by rw [cell_at hbx]; rfl
    have b2 : W.cell? ⟨bx, 2, none⟩ = some (.string it.name) := by rw [cell_at hbx]; rfl
    have b3 : W.cell? ⟨bx, 3, none⟩ = some (.bool it.pre) := by rw [cell_at hbx]; rfl
    have b4 : W.cell? ⟨bx, 4, none⟩ = some (.string it.body) := by rw [cell_at hbx]; rfl
    have b5 : W.cell? ⟨bx, 5, none⟩ = some (.string it.key) := by rw [cell_at hbx]; rfl
    have b6 : W.cell? ⟨bx, 6, none⟩ = some (.string it.full) := by rw [cell_at hbx]; rfl
    have b7 : W.cell? ⟨bx, 7, none⟩ = some (.slice it.ca it.cl it.cc) := by rw [cell_at hbx]; rfl
    have b8 : W.cell? ⟨bx, 8, none⟩ = some (.int .i64 it.time) := by rw [cell_at hbx]; rfl
    have b9 : W.cell? ⟨bx, 9, none⟩ = some (.int .i64 it.idx) := by rw [cell_at hbx]; rfl
    clear hbx
    have H1 : Pool W.drew B p c m room l := (HH.out.kept hbel (by simp) (by simp) (by simp)).kept (KeptBut.drew (KeptBut.refl [] W)) (by simp) (by simp) (by simp)
    have R1 : RP W.drew B x room l va vc := rp_kept (rp_kept HR.out hbel (by simp)) (KeptBut.drew (KeptBut.refl [] W)) (by simp)
    have H1 := Lib.hid H1
    have R1 := Lib.hid R1
    have hbx4 : bx ∉ x :: blk va := fun h => by have := HRL.out bx h; have := HE.out; omega
    have hbxp : bx ∉ [p, c, m] := by have := HPL.out; have := HE.out; simp; omega
    have HBEL := Lib.hid hbel; clear hbel
    by_cases hroom : l.length < room
    · go_region_held3 (fun w' => w'.cell? ⟨bx, 1, none⟩ = some (.int .i64 it.id) ∧ w'.cell? ⟨bx, 2, none⟩ = some (.string it.name) ∧ w'.cell? ⟨bx, 3, none⟩ = some (.bool it.pre) ∧ w'.cell? ⟨bx, 4, none⟩ = some (.string it.body) ∧
          w'.cell? ⟨bx, 5, none⟩ = some (.string it.key) ∧ w'.cell? ⟨bx, 6, none⟩ = some (.string it.full) ∧ w'.cell? ⟨bx, 7, none⟩ = some (.slice it.ca it.cl it.cc) ∧ w'.cell? ⟨bx, 8, none⟩ = some (.int .i64 it.time) ∧ w'.cell? ⟨bx, 9, none⟩ = some (.int .i64 it.idx))
        (first
          | go_keep
          | (go_split_ands; refine ⟨?_, ?_, ?_, ?_, ?_, ?_, ?_, ?_, ?_⟩ <;> exact cell_kept k3 hsz hbxp (by assumption))
          | (go_split_ands; refine ⟨?_, ?_, ?_, ?_, ?_, ?_, ?_, ?_, ?_⟩ <;> exact cell_kept k4 hsz3 hbx4 (cell_kept k3 hsz hbxp (by assumption))))
        (first
          | (go_at_call 11; refine (offer_room it hn _ H1.out hroom).mono ?_; rintro e w3 ⟨rfl, H3, k3⟩; have R3 := Lib.hid (rp_kept R1.out k3 HD.out); have H3 := Lib.hid H3; have hsz3 : bx < w3.heap.size := Nat.lt_of_lt_of_le hsz k3.size; have hB3 : B ≤ w3.heap.size := (by have := HE.out; omega))
          | (go_at_call 14; refine (roffer_room it _ hB3 R3.out hroom).mono ?_; rintro e w4 ⟨rfl, R4, k4⟩; have R4 := Lib.hid R4))
      go_wp2
      go_ret
      obtain ⟨va', vc', R5⟩ := R4.out
      refine ⟨rfl, ?_, l ++ [it], m, va', vc', H3.out.kept k4 (fun h => (disj H3.out R3.out) p h (by simp)) (fun h => (disj H3.out R3.out) c h (by simp)) (fun h => (disj H3.out R3.out) m h (by simp)), R5, fun y hy => by simpa using hy⟩
      have hpb : ∀ k ∈ [p, c, m], B ≤ k := by have h1 := HH.out.bp; have h2 := HH.out.bc; have h3 := HH.out.bm; simp; omega
      exact ((HBEL.out.below (by simp) hB).trans (Below.refl _ _).drew).trans ((k3.below hpb (by have := HE.out; simp; omega)).trans (k4.below HRB.out hB3))
    · go_region_held3 (fun w' => w'.cell? ⟨bx, 1, none⟩ = some (.int .i64 it.id) ∧ w'.cell? ⟨bx, 2, none⟩ = some (.string it.name) ∧ w'.cell? ⟨bx, 3, none⟩ = some (.bool it.pre) ∧ w'.cell? ⟨bx, 4, none⟩ = some (.string it.body) ∧
          w'.cell? ⟨bx, 5, none⟩ = some (.string it.key) ∧ w'.cell? ⟨bx, 6, none⟩ = some (.string it.full) ∧ w'.cell? ⟨bx, 7, none⟩ = some (.slice it.ca it.cl it.cc) ∧ w'.cell? ⟨bx, 8, none⟩ = some (.int .i64 it.time) ∧ w'.cell? ⟨bx, 9, none⟩ = some (.int .i64 it.idx))
        (first
          | go_keep
          | (go_split_ands; refine ⟨?_, ?_, ?_, ?_, ?_, ?_, ?_, ?_, ?_⟩ <;> exact cell_kept k3 hsz (by simp) (by assumption))
          | (go_split_ands; refine ⟨?_, ?_, ?_, ?_, ?_, ?_, ?_, ?_, ?_⟩ <;> exact cell_kept k4 hsz3 (by simp) (cell_kept k3 hsz (by simp) (by assumption))))
        (first
          | (go_at_call 11; refine (offer_full it _ H1.out (by omega)).mono ?_; rintro e w3 ⟨rfl, q3⟩; have k3 : KeptBut [] W.drew w3 := KeptBut.of_below q3; have R3 := Lib.hid (rp_kept R1.out k3 (by simp)); have hsz3 : bx < w3.heap.size := Nat.lt_of_lt_of_le hsz k3.size; have hB3 : B ≤ w3.heap.size := (by have := HE.out; omega))
          | (go_at_call 14; refine (roffer_full it _ R3.out (by omega)).mono ?_; rintro e w4 ⟨rfl, q4⟩; have k4 : KeptBut [] w3 w4 := KeptBut.of_below q4))
      go_wp2
      go_ret
      refine ⟨rfl, ?_, l, m, va, vc, (H1.out.kept k3 (by simp) (by simp) (by simp)).kept k4 (by simp) (by simp) (by simp), rp_kept R3.out k4 (by simp), fun y hy => .inl hy⟩
      exact ((HBEL.out.below (by simp) hB).trans (Below.refl _ _).drew).trans ((k3.below (by simp) (by have := HE.out; simp; omega)).trans (k4.below (by simp) hB3))
  · skip
    generalize hW : World.alloc w _ = W
    have hbx : W.heap[w.heap.size]? = some (.cells #[.int .i64 k, .int .i64 it.id, .string it.name, .bool it.pre, .string it.body, .string it.key, .string it.full, .slice it.ca it.cl it.cc, .int .i64 it.time, .int .i64 it.idx, .string dn] 37) := by rw [← hW]; exact heap_alloc_new _ _
    have hbel : KeptBut [] w W := by rw [← hW]; exact (KeptBut.refl _ _).alloc _
    have hsz : w.heap.size < W.heap.size := by rw [← hW]; simp
    clear hW
    obtain ⟨bx, hbxe⟩ : ∃ bx, bx = w.heap.size := ⟨_, rfl⟩
    rw [← hbxe] at hbx hsz ⊢
    have HE := Lib.hid hbxe; clear hbxe
    have b1 : W.cell? ⟨bx, 1, none⟩ = some (.int .i64 it.id) := by rw [cell_at hbx]; rfl
    have b2 : W.cell? ⟨bx, 2, none⟩ = some (.string it.name) := by rw [cell_at hbx]; rfl
    have b3 : W.cell? ⟨bx, 3, none⟩ = some (.bool it.pre) := by rw [cell_at hbx]; rfl
    have b4 : W.cell? ⟨bx, 4, none⟩ = some (.string it.body) := by rw [cell_at hbx]; rfl
    have b5 : W.cell? ⟨bx, 5, none⟩ = some (.string it.key) := by rw [cell_at hbx]; rfl
    have b6 : W.cell? ⟨bx, 6, none⟩ = some (.string it.full) := by rw [cell_at hbx]; rfl
    have b7 : W.cell? ⟨bx, 7, none⟩ = some (.slice it.ca it.cl it.cc) := by rw [cell_at hbx]; rfl
    have b8 : W.cell? ⟨bx, 8, none⟩ = some (.int .i64 it.time) := by rw [cell_at hbx]; rfl
    have b9 : W.cell? ⟨bx, 9, none⟩ = some (.int .i64 it.idx) := by rw [cell_at hbx]; rfl
    clear hbx
    have H1 : Pool W.drew B p c m room l := (HH.out.kept hbel (by simp) (by simp) (by simp)).kept (KeptBut.drew (KeptBut.refl [] W)) (by simp) (by simp) (by simp)
    have R1 : RP W.drew B x room l va vc := rp_kept (rp_kept HR.out hbel (by simp)) (KeptBut.drew (KeptBut.refl [] W)) (by simp)
    have H1 := Lib.hid H1
    have R1 := Lib.hid R1
    have hbx4 : bx ∉ x :: blk va := fun h => by have := HRL.out bx h; have := HE.out; omega
    have hbxp : bx ∉ [p, c, m] := by have := HPL.out; have := HE.out; simp; omega
    have HBEL := Lib.hid hbel; clear hbel
    by_cases hroom : l.length < room
    · go_region_held3 (fun w' => w'.cell? ⟨bx, 1, none⟩ = some (.int .i64 it.id) ∧ w'.cell? ⟨bx, 2, none⟩ = some (.string it.name) ∧ w'.cell? ⟨bx, 3, none⟩ = some (.bool it.pre) ∧ w'.cell? ⟨bx, 4, none⟩ = some (.string it.body) ∧
          w'.cell? ⟨bx, 5, none⟩ = some (.string it.key) ∧ w'.cell? ⟨bx, 6, none⟩ = some (.string it.full) ∧ w'.cell? ⟨bx, 7, none⟩ = some (.slice it.ca it.cl it.cc) ∧ w'.cell? ⟨bx, 8, none⟩ = some (.int .i64 it.time) ∧ w'.cell? ⟨bx, 9, none⟩ = some (.int .i64 it.idx))
        (first
          | go_keep
          | (go_split_ands; refine ⟨?_, ?_, ?_, ?_, ?_, ?_, ?_, ?_, ?_⟩ <;> exact cell_kept k3 hsz hbxp (by assumption))
          | (go_split_ands; refine ⟨?_, ?_, ?_, ?_, ?_, ?_, ?_, ?_, ?_⟩ <;> exact cell_kept k4 hsz3 hbx4 (cell_kept k3 hsz hbxp (by assumption))))
        (first
          | (go_at_call 11; refine (offer_room it hn _ H1.out hroom).mono ?_; rintro e w3 ⟨rfl, H3, k3⟩; have R3 := Lib.hid (rp_kept R1.out k3 HD.out); have H3 := Lib.hid H3; have hsz3 : bx < w3.heap.size := Nat.lt_of_lt_of_le hsz k3.size; have hB3 : B ≤ w3.heap.size := (by have := HE.out; omega))
          | (go_at_call 14; refine (roffer_room it _ hB3 R3.out hroom).mono ?_; rintro e w4 ⟨rfl, R4, k4⟩; have R4 := Lib.hid R4))
      go_wp2
      go_ret
      obtain ⟨va', vc', R5⟩ := R4.out
      refine ⟨rfl, ?_, l ++ [it], m, va', vc', H3.out.kept k4 (fun h => (disj H3.out R3.out) p h (by simp)) (fun h => (disj H3.out R3.out) c h (by simp)) (fun h => (disj H3.out R3.out) m h (by simp)), R5, fun y hy => by simpa using hy⟩
      have hpb : ∀ k ∈ [p, c, m], B ≤ k := by have h1 := HH.out.bp; have h2 := HH.out.bc; have h3 := HH.out.bm; simp; omega
      exact ((HBEL.out.below (by simp) hB).trans (Below.refl _ _).drew).trans ((k3.below hpb (by have := HE.out; simp; omega)).trans (k4.below HRB.out hB3))
    · go_region_held3 (fun w' => w'.cell? ⟨bx, 1, none⟩ = some (.int .i64 it.id) ∧ w'.cell? ⟨bx, 2, none⟩ = some (.string it.name) ∧ w'.cell? ⟨bx, 3, none⟩ = some (.bool it.pre) ∧ w'.cell? ⟨bx, 4, none⟩ = some (.string it.body) ∧
          w'.cell? ⟨bx, 5, none⟩ = some (.string it.key) ∧ w'.cell? ⟨bx, 6, none⟩ = some (.string it.full) ∧ w'.cell? ⟨bx, 7, none⟩ = some (.slice it.ca it.cl it.cc) ∧ w'.cell? ⟨bx, 8, none⟩ = some (.int .i64 it.time) ∧ w'.cell? ⟨bx, 9, none⟩ = some (.int .i64 it.idx))
        (first
          | go_keep
          | (go_split_ands; refine ⟨?_, ?_, ?_, ?_, ?_, ?_, ?_, ?_, ?_⟩ <;> exact cell_kept k3 hsz (by simp) (by assumption))
          | (go_split_ands; refine ⟨?_, ?_, ?_, ?_, ?_, ?_, ?_, ?_, ?_⟩ <;> exact cell_kept k4 hsz3 (by simp) (cell_kept k3 hsz (by simp) (by assumption))))
        (first
          | (go_at_call 11; refine (offer_full it _ H1.out (by omega)).mono ?_; rintro e w3 ⟨rfl, q3⟩; have k3 : KeptBut [] W.drew w3 := KeptBut.of_below q3; have R3 := Lib.hid (rp_kept R1.out k3 (by simp)); have hsz3 : bx < w3.heap.size := Nat.lt_of_lt_of_le hsz k3.size; have hB3 : B ≤ w3.heap.size := (by have := HE.out; omega))
          | (go_at_call 14; refine (roffer_full it _ R3.out (by omega)).mono ?_; rintro e w4 ⟨rfl, q4⟩; have k4 : KeptBut [] w3 w4 := KeptBut.of_below q4))
      go_wp2
      go_ret
      refine ⟨rfl, ?_, l, m, va, vc, (H1.out.kept k3 (by simp) (by simp) (by simp)).kept k4 (by simp) (by simp) (by simp), rp_kept R3.out k4 (by simp), fun y hy => .inl hy⟩
      exact ((HBEL.out.below (by simp) hB).trans (Below.refl _ _).drew).trans ((k3.below (by simp) (by have := HE.out; simp; omega)).trans (k4.below (by simp) hB3))
  · skip
    generalize hW : World.alloc w _ = W
    have hbx : W.heap[w.heap.size]? = some (.cells #[.int .i64 k, .int .i64 it.id, .string it.name, .bool it.pre, .string it.body, .string it.key, .string it.full, .slice it.ca it.cl it.cc, .int .i64 it.time, .int .i64 it.idx, .string dn] 37) := by rw [← hW]; exact heap_alloc_new _ _
    have hbel : KeptBut [] w W := by rw [← hW]; exact (KeptBut.refl _ _).alloc _
    have hsz : w.heap.size < W.heap.size := by rw [← hW]; simp
    clear hW
    obtain ⟨bx, hbxe⟩ : ∃ bx, bx = w.heap.size := ⟨_, rfl⟩
    rw [← hbxe] at hbx hsz ⊢
    have HE := Lib.hid hbxe; clear hbxe
    clear hbx
    have H1 := Lib.hid (HH.out.kept hbel (by simp) (by simp) (by simp))
    have R1 := Lib.hid (rp_kept HR.out hbel (by simp))
    have HBEL := Lib.hid hbel; clear hbel
    have hBW : B ≤ W.heap.size := by have := HE.out; omega
    refine (take_any W hBW H1.out).mono ?_
    rintro e w3 ⟨v3, m3, rfl, hown3, hm3, H3, k3⟩
    obtain ⟨a5, c5, rfl, hc5, hA5⟩ := taken_cells hown3
    have R3 := Lib.hid (rp_kept R1.out k3 (fun k hk hm => HD.out k hk (by simp at hm ⊢; omega)))
    have HA5 := Lib.hid hA5; clear hA5
    have HO3 := Lib.hid hown3; clear hown3
    have H3 := Lib.hid H3
    have K3 := Lib.hid k3; clear k3
    go_wp2_with fail
    refine (rtake_any w3 R3.out).mono ?_
    rintro e w4 ⟨rfl, R4, hown4, k4⟩
    have HB4 := Lib.hid (rp_cells hown4)
    have hvc : 0 < l.length → l.length ≤ vc := fun h => by obtain ⟨_, _, _, _, h, _⟩ := rp_cells hown4 h; exact h
    have R4 := Lib.hid R4
    have K4 := Lib.hid k4; clear k4
    have HO4 := Lib.hid hown4; clear hown4
    have hl8 : l.length ≤ 8 := Nat.le_trans HH.out.fits HH.out.small
    have hs3 : W.heap.size ≤ w3.heap.size := K3.out.size
    have hs4 : w3.heap.size ≤ w4.heap.size := K4.out.size
    have hB3 : B ≤ w3.heap.size := by omega
    have hb4 : Below B w w4 := (HBEL.out.below (by simp) hB).trans ((K3.out.below (by have h1 := HH.out.bp; have h2 := HH.out.bc; simp; omega) hBW).trans (K4.out.below (by simpa using HR.out.bx) hB3))
    have hxW : x < W.heap.size := by have := HRL.out x (by simp); have := HE.out; omega
    have HC : Hid (∀ j y, l[j]? = some y → ∃ g5 gv, a5 = some ⟨g5, 0, none⟩ ∧ va = some ⟨gv, 0, none⟩ ∧ (∀ t u, y.cells[t]? = some u → w4.cell? ⟨g5, j * 9 + t, none⟩ = some u) ∧ (∀ t u, y.cells[t]? = some u → w4.cell? ⟨gv, j * 9 + t, none⟩ = some u) ∧ g5 < w4.heap.size ∧ gv < w4.heap.size) := Lib.hid (by
      intro j y hy
      have hjl := (List.getElem?_eq_some_iff.1 hy).1
      obtain ⟨g5, e5, hb5, hl5, hcc⟩ := HA5.out (by omega)
      obtain ⟨gv, ev, hbv, hlv, hvc, hvv⟩ := HB4.out (by omega)
      exact ⟨g5, gv, e5, ev, fun t u hu => cell_kept K4.out hl5 (by simp; omega) (hcc j y hy t u hu), hvv j y hy, by omega, hlv⟩)
    have HBB := Lib.hid hb4; clear hb4
    go_wp2_with fail
    go_loopg [10] 9 (fun g i wr => ∃ j : Nat, g = 9 - j ∧ j ≤ l.length ∧ i = .int .i64 (j : Int) ∧ Hid (Below w4.heap.size w4 wr))
    case atStart => exact ⟨0, rfl, Nat.zero_le _, rfl, Lib.hid (Below.refl _ _)⟩
    case round =>
      obtain ⟨j, hgj, hj, rfl, HBl⟩ := hrel
      have HG := Lib.hid hgj; clear hgj
      have hwr4 : w4.heap.size ≤ wr.heap.size := HBl.out.size
      by_cases hlt : j < l.length
      · have hd : decide ((j : Int) < (l.length : Int)) = true := by simp; omega
        have hjl : (j : Int) < (l.length : Int) := by omega
        have hvc := hvc (by omega)
        obtain ⟨y, hy⟩ : ∃ y, l[j]? = some y := ⟨_, List.getElem?_eq_getElem hlt⟩
        obtain ⟨g5, gv, rfl, rfl, hc5', hcv, hl5, hlv⟩ := HC.out j y hy
        obtain ⟨hycl, ss, hss⟩ := HCH.out y (List.mem_of_getElem? hy)
        have hss4 : StrsAt wr y.ca y.cl ss := strs_cell hss ((HB0.out.trans HBB.out).trans (HBl.out.mono (by omega))) hw0
        have kr : KeptBut [] w4 wr := KeptBut.of_below HBl.out
        have fg50 : wr.cell? ⟨g5, j * 9 + 2, none⟩ = some (.bool y.pre) := cell_kept kr hl5 (by simp) (hc5' 2 _ rfl)
        have fg51 : wr.cell? ⟨g5, j * 9 + 2 + 1, none⟩ = some (.string y.body) := cell_kept kr hl5 (by simp) (hc5' 3 _ rfl)
        have fg52 : wr.cell? ⟨g5, j * 9 + 2 + 2, none⟩ = some (.string y.key) := cell_kept kr hl5 (by simp) (hc5' 4 _ rfl)
        have fg53 : wr.cell? ⟨g5, j * 9 + 2 + 3, none⟩ = some (.string y.full) := cell_kept kr hl5 (by simp) (hc5' 5 _ rfl)
        have fg54 : wr.cell? ⟨g5, j * 9 + 2 + 4, none⟩ = some (.slice y.ca y.cl y.cc) := cell_kept kr hl5 (by simp) (hc5' 6 _ rfl)
        have fg55 : wr.cell? ⟨g5, j * 9 + 2 + 5, none⟩ = some (.int .i64 y.time) := cell_kept kr hl5 (by simp) (hc5' 7 _ rfl)
        have fg56 : wr.cell? ⟨g5, j * 9 + 2 + 6, none⟩ = some (.int .i64 y.idx) := cell_kept kr hl5 (by simp) (hc5' 8 _ rfl)
        have ng5 : wr.cell? ⟨g5, j * 9, none⟩ = some (.int .i64 y.id) := cell_kept kr hl5 (by simp) (hc5' 0 _ rfl)
        have mg5 : wr.cell? ⟨g5, j * 9 + 1, none⟩ = some (.string y.name) := cell_kept kr hl5 (by simp) (hc5' 1 _ rfl)
        have fgv0 : wr.cell? ⟨gv, j * 9 + 2, none⟩ = some (.bool y.pre) := cell_kept kr hlv (by simp) (hcv 2 _ rfl)
        have fgv1 : wr.cell? ⟨gv, j * 9 + 2 + 1, none⟩ = some (.string y.body) := cell_kept kr hlv (by simp) (hcv 3 _ rfl)
        have fgv2 : wr.cell? ⟨gv, j * 9 + 2 + 2, none⟩ = some (.string y.key) := cell_kept kr hlv (by simp) (hcv 4 _ rfl)
        have fgv3 : wr.cell? ⟨gv, j * 9 + 2 + 3, none⟩ = some (.string y.full) := cell_kept kr hlv (by simp) (hcv 5 _ rfl)
        have fgv4 : wr.cell? ⟨gv, j * 9 + 2 + 4, none⟩ = some (.slice y.ca y.cl y.cc) := cell_kept kr hlv (by simp) (hcv 6 _ rfl)
        have fgv5 : wr.cell? ⟨gv, j * 9 + 2 + 5, none⟩ = some (.int .i64 y.time) := cell_kept kr hlv (by simp) (hcv 7 _ rfl)
        have fgv6 : wr.cell? ⟨gv, j * 9 + 2 + 6, none⟩ = some (.int .i64 y.idx) := cell_kept kr hlv (by simp) (hcv 8 _ rfl)
        have ngv : wr.cell? ⟨gv, j * 9, none⟩ = some (.int .i64 y.id) := cell_kept kr hlv (by simp) (hcv 0 _ rfl)
        have mgv : wr.cell? ⟨gv, j * 9 + 1, none⟩ = some (.string y.name) := cell_kept kr hlv (by simp) (hcv 1 _ rfl)
        have hssd : StrsAt wr.drew y.ca y.cl ss := hss4
        have HSS := Lib.hid hssd; clear hss4 hss hssd
        have HC5 := Lib.hid hc5'; clear hc5'
        have HCV := Lib.hid hcv; clear hcv
        have KR := Lib.hid kr; clear kr
        have HY := Lib.hid hy; clear hy
        have hl5r : g5 < wr.heap.size := by omega
        have hlvr : gv < wr.heap.size := by omega
        go_wp2
        go_region_held3 (fun w' => w'.cell? ⟨g5, j * 9 + 2, none⟩ = some (.bool y.pre) ∧ w'.cell? ⟨g5, j * 9 + 2 + 1, none⟩ = some (.string y.body) ∧ w'.cell? ⟨g5, j * 9 + 2 + 2, none⟩ = some (.string y.key) ∧ w'.cell? ⟨g5, j * 9 + 2 + 3, none⟩ = some (.string y.full) ∧ w'.cell? ⟨g5, j * 9 + 2 + 4, none⟩ = some (.slice y.ca y.cl y.cc) ∧ w'.cell? ⟨g5, j * 9 + 2 + 5, none⟩ = some (.int .i64 y.time) ∧ w'.cell? ⟨g5, j * 9 + 2 + 6, none⟩ = some (.int .i64 y.idx) ∧ w'.cell? ⟨gv, j * 9 + 2, none⟩ = some (.bool y.pre) ∧ w'.cell? ⟨gv, j * 9 + 2 + 1, none⟩ = some (.string y.body) ∧ w'.cell? ⟨gv, j * 9 + 2 + 2, none⟩ = some (.string y.key) ∧ w'.cell? ⟨gv, j * 9 + 2 + 3, none⟩ = some (.string y.full) ∧ w'.cell? ⟨gv, j * 9 + 2 + 4, none⟩ = some (.slice y.ca y.cl y.cc) ∧ w'.cell? ⟨gv, j * 9 + 2 + 5, none⟩ = some (.int .i64 y.time) ∧ w'.cell? ⟨gv, j * 9 + 2 + 6, none⟩ = some (.int .i64 y.idx))
          (first
            | go_keep
            | (go_split_ands; refine ⟨?_, ?_, ?_, ?_, ?_, ?_, ?_, ?_, ?_, ?_, ?_, ?_, ?_, ?_⟩ <;> exact cell_below q6 (by assumption) (by assumption)))
          ((go_at_call 16; refine (same_any y.pre y.body y.key y.full y.ca y.cl y.cc y.time y.idx ss hycl _ HSS.out).mono ?_; rintro e w6 ⟨rfl, q6⟩))
        have ng5' := cell_below q6 hl5r ng5
        have ngv' := cell_below q6 hlvr ngv
        have mg5' := cell_below q6 hl5r mg5
        have mgv' := cell_below q6 hlvr mgv
        clear ng5 ngv mg5 mgv fg50 fg51 fg52 fg53 fg54 fg55 fg56 fgv0 fgv1 fgv2 fgv3 fgv4 fgv5 fgv6
        have Q6 := Lib.hid q6; clear q6
        go_wp2
        go_quiet (fail)
        go_wp2
        go_roundg (9 - (j + 1))
        case measure => have := HG.out; omega
        case rel => exact ⟨j + 1, rfl, hlt, by go_num, Lib.hid ((HBl.out.trans ((Below.refl _ _).drew.trans (Q6.out.mono (by simpa using hwr4)))).trans (below_drewN _ _ _))⟩
      · have hd : decide ((j : Int) < (l.length : Int)) = false := by simp; omega
        go_wp2
        go_ret
        have kr : KeptBut [] w4 wr := KeptBut.of_below HBl.out
        refine ⟨rfl, HBB.out.trans (HBl.out.mono (by omega)), [], m3, none, 0, (H3.out.kept K4.out (fun h => ?_) (fun h => ?_) (fun h => ?_)).kept kr (by simp) (by simp) (by simp), rp_kept R4.out kr (by simp), fun y hy => by simp at hy⟩
        · exact (disj H3.out R3.out) x (by simp) (by simp at h; simp [h])
        · exact (disj H3.out R3.out) x (by simp) (by simp at h; simp [h])
        · exact (disj H3.out R3.out) x (by simp) (by simp at h; simp [h])
  · skip
    generalize hW : World.alloc w _ = W
    have hbx : W.heap[w.heap.size]? = some (.cells #[.int .i64 k, .int .i64 it.id, .string it.name, .bool it.pre, .string it.body, .string it.key, .string it.full, .slice it.ca it.cl it.cc, .int .i64 it.time, .int .i64 it.idx, .string dn] 37) := by rw [← hW]; exact heap_alloc_new _ _
    have hbel : KeptBut [] w W := by rw [← hW]; exact (KeptBut.refl _ _).alloc _
    have hsz : w.heap.size < W.heap.size := by rw [← hW]; simp
    clear hW
    obtain ⟨bx, hbxe⟩ : ∃ bx, bx = w.heap.size := ⟨_, rfl⟩
    rw [← hbxe] at hbx hsz ⊢
    have HE := Lib.hid hbxe; clear hbxe
    have b10 : W.cell? ⟨bx, 10, none⟩ = some (.string dn) := by rw [cell_at hbx]; rfl
    clear hbx
    have H1 : ∀ n, Pool (W.drewN n) B p c m room l := fun n => (HH.out.kept hbel (by simp) (by simp) (by simp)).kept (keptBut_drewN [] W n) (by simp) (by simp) (by simp)
    have R1 : ∀ n, RP (W.drewN n) B x room l va vc := fun n => rp_kept (rp_kept HR.out hbel (by simp)) (keptBut_drewN [] W n) (by simp)
    have H1 := Lib.hid H1
    have R1 := Lib.hid R1
    have HBEL := Lib.hid hbel; clear hbel
    go_quiet (first | (go_at_call 12; exact Calls.quiet_of_same ((has_any dn hdn _ (H1.out _)).mono (fun e w' h => ⟨h.1, h.2.symm⟩))) | (go_at_call 17; exact Calls.quiet_of_same ((rhas_any dn _ (R1.out _)).mono (fun e w' h => ⟨h.1, h.2.symm⟩))))
    go_wp2
    go_ret
    refine ⟨rfl, ?_, l, m, va, vc, H1.out _, R1.out _, fun y hy => .inl hy⟩
    exact (HBEL.out.below (by simp) hB).trans (below_drewN _ _ _)

set_option maxRecDepth 100000 in
set_option maxHeartbeats 3200000 in
theorem does_neg {B p c m x room : Nat} {l : List It} {va : Option Addr} {vc : Nat} (k : Int) (hk : (Lit.int .i64 k).wf = true) (it : It) (dn : ByteArray) (w : World) (hB : B ≤ w.heap.size) (H : Pool w B p c m room l) (R : RP w B x room l va vc)
    (hn : it.name.size ≤ maxLen) (hdn : dn.size ≤ maxLen) (w0 : World) (hw0 : w0.heap.size ≤ B) (hch : ∀ y ∈ l, y.cl ≤ maxLen ∧ ∃ ss, StrsAt w0 y.ca y.cl ss) (hb0 : Below B w0 w) (h0 : k < 0) :
    Calls Try.prog 9 #[.pointer (some ⟨p, 0, none⟩), .pointer (some ⟨x, 0, none⟩), deed k it dn] w (Does w B p c x room l it) := by
  unfold deed
  have hdis := disj H R
  have hRb : ∀ k ∈ x :: blk va, B ≤ k := fun k hk => by
    rcases List.mem_cons.1 hk with rfl | h
    · exact R.bx
    · exact (row_block R.own h).1
  have hPl : p < w.heap.size ∧ c < w.heap.size ∧ m < w.heap.size := ⟨(Array.getElem?_eq_some_iff.1 H.hp).1, (by obtain ⟨_, _, h⟩ := H.hc; exact (Array.getElem?_eq_some_iff.1 h).1), H.names.lt⟩
  have hRl : ∀ k ∈ x :: blk va, k < w.heap.size := fun k hk => by
    rcases List.mem_cons.1 hk with rfl | h
    · exact (Array.getElem?_eq_some_iff.1 R.hx).1
    · obtain ⟨_, cur, hc⟩ := row_block R.own h; exact (Array.getElem?_eq_some_iff.1 hc).1
  have HD := Lib.hid hdis; clear hdis
  have HRB := Lib.hid hRb; clear hRb
  have HRL := Lib.hid hRl; clear hRl
  have HPL := Lib.hid hPl; clear hPl
  have HH := Lib.hid H; clear H
  have HR := Lib.hid R; clear R
  have HCH := Lib.hid hch; clear hch
  have HB0 := Lib.hid hb0; clear hb0
  have hkb : -9223372036854775808 ≤ k ∧ k ≤ 9223372036854775807 := by
    simp [Lit.wf, IntKind.min, IntKind.max, IntKind.signed, IntKind.bits] at hk; omega
  clear hk
  go_enter Try.func9, Try.ntmps9
  go_wp2_with fail
  · skip
    generalize hW : World.alloc w _ = W
    have hbx : W.heap[w.heap.size]? = some (.cells #[.int .i64 k, .int .i64 it.id, .string it.name, .bool it.pre, .string it.body, .string it.key, .string it.full, .slice it.ca it.cl it.cc, .int .i64 it.time, .int .i64 it.idx, .string dn] 37) := by rw [← hW]; exact heap_alloc_new _ _
    have hbel : KeptBut [] w W := by rw [← hW]; exact (KeptBut.refl _ _).alloc _
    have hsz : w.heap.size < W.heap.size := by rw [← hW]; simp
    clear hW
    obtain ⟨bx, hbxe⟩ : ∃ bx, bx = w.heap.size := ⟨_, rfl⟩
    rw [← hbxe] at hbx hsz ⊢
    have HE := Lib.hid hbxe; clear hbxe
    have b1 : W.cell? ⟨bx, 1, none⟩ = some (.int .i64 it.id) := by rw [cell_at hbx]; rfl
    have b2 : W.cell? ⟨bx, 2, none⟩ = some (.string it.name) := by rw [cell_at hbx]; rfl
    have b3 : W.cell? ⟨bx, 3, none⟩ = some (.bool it.pre) := by rw [cell_at hbx]; rfl
    have b4 : W.cell? ⟨bx, 4, none⟩ = some (.string it.body) := by rw [cell_at hbx]; rfl
    have b5 : W.cell? ⟨bx, 5, none⟩ = some (.string it.key) := by rw [cell_at hbx]; rfl
    have b6 : W.cell? ⟨bx, 6, none⟩ = some (.string it.full) := by rw [cell_at hbx]; rfl
    have b7 : W.cell? ⟨bx, 7, none⟩ = some (.slice it.ca it.cl it.cc) := by rw [cell_at hbx]; rfl
    have b8 : W.cell? ⟨bx, 8, none⟩ = some (.int .i64 it.time) := by rw [cell_at hbx]; rfl
    have b9 : W.cell? ⟨bx, 9, none⟩ = some (.int .i64 it.idx) := by rw [cell_at hbx]; rfl
    clear hbx
    have H1 : Pool W.drew B p c m room l := (HH.out.kept hbel (by simp) (by simp) (by simp)).kept (KeptBut.drew (KeptBut.refl [] W)) (by simp) (by simp) (by simp)
    have R1 : RP W.drew B x room l va vc := rp_kept (rp_kept HR.out hbel (by simp)) (KeptBut.drew (KeptBut.refl [] W)) (by simp)
    have H1 := Lib.hid H1
    have R1 := Lib.hid R1
    have hbx4 : bx ∉ x :: blk va := fun h => by have := HRL.out bx h; have := HE.out; omega
    have hbxp : bx ∉ [p, c, m] := by have := HPL.out; have := HE.out; simp; omega
    have HBEL := Lib.hid hbel; clear hbel
    by_cases hroom : l.length < room
    · go_region_held3 (fun w' => w'.cell? ⟨bx, 1, none⟩ = some (.int .i64 it.id) ∧ w'.cell? ⟨bx, 2, none⟩ = some (.string it.name) ∧ w'.cell? ⟨bx, 3, none⟩ = some (.bool it.pre) ∧ w'.cell? ⟨bx, 4, none⟩ = some (.string it.body) ∧
          w'.cell? ⟨bx, 5, none⟩ = some (.string it.key) ∧ w'.cell? ⟨bx, 6, none⟩ = some (.string it.full) ∧ w'.cell? ⟨bx, 7, none⟩ = some (.slice it.ca it.cl it.cc) ∧ w'.cell? ⟨bx, 8, none⟩ = some (.int .i64 it.time) ∧ w'.cell? ⟨bx, 9, none⟩ = some (.int .i64 it.idx))
        (first
          | go_keep
          | (go_split_ands; refine ⟨?_, ?_, ?_, ?_, ?_, ?_, ?_, ?_, ?_⟩ <;> exact cell_kept k3 hsz hbxp (by assumption))
          | (go_split_ands; refine ⟨?_, ?_, ?_, ?_, ?_, ?_, ?_, ?_, ?_⟩ <;> exact cell_kept k4 hsz3 hbx4 (cell_kept k3 hsz hbxp (by assumption))))
        (first
          | (go_at_call 11; refine (offer_room it hn _ H1.out hroom).mono ?_; rintro e w3 ⟨rfl, H3, k3⟩; have R3 := Lib.hid (rp_kept R1.out k3 HD.out); have H3 := Lib.hid H3; have hsz3 : bx < w3.heap.size := Nat.lt_of_lt_of_le hsz k3.size; have hB3 : B ≤ w3.heap.size := (by have := HE.out; omega))
          | (go_at_call 14; refine (roffer_room it _ hB3 R3.out hroom).mono ?_; rintro e w4 ⟨rfl, R4, k4⟩; have R4 := Lib.hid R4))
      go_wp2
      go_ret
      obtain ⟨va', vc', R5⟩ := R4.out
      refine ⟨rfl, ?_, l ++ [it], m, va', vc', H3.out.kept k4 (fun h => (disj H3.out R3.out) p h (by simp)) (fun h => (disj H3.out R3.out) c h (by simp)) (fun h => (disj H3.out R3.out) m h (by simp)), R5, fun y hy => by simpa using hy⟩
      have hpb : ∀ k ∈ [p, c, m], B ≤ k := by have h1 := HH.out.bp; have h2 := HH.out.bc; have h3 := HH.out.bm; simp; omega
      exact ((HBEL.out.below (by simp) hB).trans (Below.refl _ _).drew).trans ((k3.below hpb (by have := HE.out; simp; omega)).trans (k4.below HRB.out hB3))
    · go_region_held3 (fun w' => w'.cell? ⟨bx, 1, none⟩ = some (.int .i64 it.id) ∧ w'.cell? ⟨bx, 2, none⟩ = some (.string it.name) ∧ w'.cell? ⟨bx, 3, none⟩ = some (.bool it.pre) ∧ w'.cell? ⟨bx, 4, none⟩ = some (.string it.body) ∧
          w'.cell? ⟨bx, 5, none⟩ = some (.string it.key) ∧ w'.cell? ⟨bx, 6, none⟩ = some (.string it.full) ∧ w'.cell? ⟨bx, 7, none⟩ = some (.slice it.ca it.cl it.cc) ∧ w'.cell? ⟨bx, 8, none⟩ = some (.int .i64 it.time) ∧ w'.cell? ⟨bx, 9, none⟩ = some (.int .i64 it.idx))
        (first
          | go_keep
          | (go_split_ands; refine ⟨?_, ?_, ?_, ?_, ?_, ?_, ?_, ?_, ?_⟩ <;> exact cell_kept k3 hsz (by simp) (by assumption))
          | (go_split_ands; refine ⟨?_, ?_, ?_, ?_, ?_, ?_, ?_, ?_, ?_⟩ <;> exact cell_kept k4 hsz3 (by simp) (cell_kept k3 hsz (by simp) (by assumption))))
        (first
          | (go_at_call 11; refine (offer_full it _ H1.out (by omega)).mono ?_; rintro e w3 ⟨rfl, q3⟩; have k3 : KeptBut [] W.drew w3 := KeptBut.of_below q3; have R3 := Lib.hid (rp_kept R1.out k3 (by simp)); have hsz3 : bx < w3.heap.size := Nat.lt_of_lt_of_le hsz k3.size; have hB3 : B ≤ w3.heap.size := (by have := HE.out; omega))
          | (go_at_call 14; refine (roffer_full it _ R3.out (by omega)).mono ?_; rintro e w4 ⟨rfl, q4⟩; have k4 : KeptBut [] w3 w4 := KeptBut.of_below q4))
      go_wp2
      go_ret
      refine ⟨rfl, ?_, l, m, va, vc, (H1.out.kept k3 (by simp) (by simp) (by simp)).kept k4 (by simp) (by simp) (by simp), rp_kept R3.out k4 (by simp), fun y hy => .inl hy⟩
      exact ((HBEL.out.below (by simp) hB).trans (Below.refl _ _).drew).trans ((k3.below (by simp) (by have := HE.out; simp; omega)).trans (k4.below (by simp) hB3))
  · skip
    generalize hW : World.alloc w _ = W
    have hbx : W.heap[w.heap.size]? = some (.cells #[.int .i64 k, .int .i64 it.id, .string it.name, .bool it.pre, .string it.body, .string it.key, .string it.full, .slice it.ca it.cl it.cc, .int .i64 it.time, .int .i64 it.idx, .string dn] 37) := by rw [← hW]; exact heap_alloc_new _ _
    have hbel : KeptBut [] w W := by rw [← hW]; exact (KeptBut.refl _ _).alloc _
    have hsz : w.heap.size < W.heap.size := by rw [← hW]; simp
    clear hW
    obtain ⟨bx, hbxe⟩ : ∃ bx, bx = w.heap.size := ⟨_, rfl⟩
    rw [← hbxe] at hbx hsz ⊢
    have HE := Lib.hid hbxe; clear hbxe
    have b1 : W.cell? ⟨bx, 1, none⟩ = some (.int .i64 it.id) := by rw [cell_at hbx]; rfl
    have b2 : W.cell? ⟨bx, 2, none⟩ = some (.string it.name) := by rw [cell_at hbx]; rfl
    have b3 : W.cell? ⟨bx, 3, none⟩ = some (.bool it.pre) := by rw [cell_at hbx]; rfl
    have b4 : W.cell? ⟨bx, 4, none⟩ = some (.string it.body) := by rw [cell_at hbx]; rfl
    have b5 : W.cell? ⟨bx, 5, none⟩ = some (.string it.key) := by rw [cell_at hbx]; rfl
    have b6 : W.cell? ⟨bx, 6, none⟩ = some (.string it.full) := by rw [cell_at hbx]; rfl
    have b7 : W.cell? ⟨bx, 7, none⟩ = some (.slice it.ca it.cl it.cc) := by rw [cell_at hbx]; rfl
    have b8 : W.cell? ⟨bx, 8, none⟩ = some (.int .i64 it.time) := by rw [cell_at hbx]; rfl
    have b9 : W.cell? ⟨bx, 9, none⟩ = some (.int .i64 it.idx) := by rw [cell_at hbx]; rfl
    clear hbx
    have H1 : Pool W.drew B p c m room l := (HH.out.kept hbel (by simp) (by simp) (by simp)).kept (KeptBut.drew (KeptBut.refl [] W)) (by simp) (by simp) (by simp)
    have R1 : RP W.drew B x room l va vc := rp_kept (rp_kept HR.out hbel (by simp)) (KeptBut.drew (KeptBut.refl [] W)) (by simp)
    have H1 := Lib.hid H1
    have R1 := Lib.hid R1
    have hbx4 : bx ∉ x :: blk va := fun h => by have := HRL.out bx h; have := HE.out; omega
    have hbxp : bx ∉ [p, c, m] := by have := HPL.out; have := HE.out; simp; omega
    have HBEL := Lib.hid hbel; clear hbel
    by_cases hroom : l.length < room
    · go_region_held3 (fun w' => w'.cell? ⟨bx, 1, none⟩ = some (.int .i64 it.id) ∧ w'.cell? ⟨bx, 2, none⟩ = some (.string it.name) ∧ w'.cell? ⟨bx, 3, none⟩ = some (.bool it.pre) ∧ w'.cell? ⟨bx, 4, none⟩ = some (.string it.body) ∧
          w'.cell? ⟨bx, 5, none⟩ = some (.string it.key) ∧ w'.cell? ⟨bx, 6, none⟩ = some (.string it.full) ∧ w'.cell? ⟨bx, 7, none⟩ = some (.slice it.ca it.cl it.cc) ∧ w'.cell? ⟨bx, 8, none⟩ = some (.int .i64 it.time) ∧ w'.cell? ⟨bx, 9, none⟩ = some (.int .i64 it.idx))
        (first
          | go_keep
          | (go_split_ands; refine ⟨?_, ?_, ?_, ?_, ?_, ?_, ?_, ?_, ?_⟩ <;> exact cell_kept k3 hsz hbxp (by assumption))
          | (go_split_ands; refine ⟨?_, ?_, ?_, ?_, ?_, ?_, ?_, ?_, ?_⟩ <;> exact cell_kept k4 hsz3 hbx4 (cell_kept k3 hsz hbxp (by assumption))))
        (first
          | (go_at_call 11; refine (offer_room it hn _ H1.out hroom).mono ?_; rintro e w3 ⟨rfl, H3, k3⟩; have R3 := Lib.hid (rp_kept R1.out k3 HD.out); have H3 := Lib.hid H3; have hsz3 : bx < w3.heap.size := Nat.lt_of_lt_of_le hsz k3.size; have hB3 : B ≤ w3.heap.size := (by have := HE.out; omega))
          | (go_at_call 14; refine (roffer_room it _ hB3 R3.out hroom).mono ?_; rintro e w4 ⟨rfl, R4, k4⟩; have R4 := Lib.hid R4))
      go_wp2
      go_ret
      obtain ⟨va', vc', R5⟩ := R4.out
      refine ⟨rfl, ?_, l ++ [it], m, va', vc', H3.out.kept k4 (fun h => (disj H3.out R3.out) p h (by simp)) (fun h => (disj H3.out R3.out) c h (by simp)) (fun h => (disj H3.out R3.out) m h (by simp)), R5, fun y hy => by simpa using hy⟩
      have hpb : ∀ k ∈ [p, c, m], B ≤ k := by have h1 := HH.out.bp; have h2 := HH.out.bc; have h3 := HH.out.bm; simp; omega
      exact ((HBEL.out.below (by simp) hB).trans (Below.refl _ _).drew).trans ((k3.below hpb (by have := HE.out; simp; omega)).trans (k4.below HRB.out hB3))
    · go_region_held3 (fun w' => w'.cell? ⟨bx, 1, none⟩ = some (.int .i64 it.id) ∧ w'.cell? ⟨bx, 2, none⟩ = some (.string it.name) ∧ w'.cell? ⟨bx, 3, none⟩ = some (.bool it.pre) ∧ w'.cell? ⟨bx, 4, none⟩ = some (.string it.body) ∧
          w'.cell? ⟨bx, 5, none⟩ = some (.string it.key) ∧ w'.cell? ⟨bx, 6, none⟩ = some (.string it.full) ∧ w'.cell? ⟨bx, 7, none⟩ = some (.slice it.ca it.cl it.cc) ∧ w'.cell? ⟨bx, 8, none⟩ = some (.int .i64 it.time) ∧ w'.cell? ⟨bx, 9, none⟩ = some (.int .i64 it.idx))
        (first
          | go_keep
          | (go_split_ands; refine ⟨?_, ?_, ?_, ?_, ?_, ?_, ?_, ?_, ?_⟩ <;> exact cell_kept k3 hsz (by simp) (by assumption))
          | (go_split_ands; refine ⟨?_, ?_, ?_, ?_, ?_, ?_, ?_, ?_, ?_⟩ <;> exact cell_kept k4 hsz3 (by simp) (cell_kept k3 hsz (by simp) (by assumption))))
        (first
          | (go_at_call 11; refine (offer_full it _ H1.out (by omega)).mono ?_; rintro e w3 ⟨rfl, q3⟩; have k3 : KeptBut [] W.drew w3 := KeptBut.of_below q3; have R3 := Lib.hid (rp_kept R1.out k3 (by simp)); have hsz3 : bx < w3.heap.size := Nat.lt_of_lt_of_le hsz k3.size; have hB3 : B ≤ w3.heap.size := (by have := HE.out; omega))
          | (go_at_call 14; refine (roffer_full it _ R3.out (by omega)).mono ?_; rintro e w4 ⟨rfl, q4⟩; have k4 : KeptBut [] w3 w4 := KeptBut.of_below q4))
      go_wp2
      go_ret
      refine ⟨rfl, ?_, l, m, va, vc, (H1.out.kept k3 (by simp) (by simp) (by simp)).kept k4 (by simp) (by simp) (by simp), rp_kept R3.out k4 (by simp), fun y hy => .inl hy⟩
      exact ((HBEL.out.below (by simp) hB).trans (Below.refl _ _).drew).trans ((k3.below (by simp) (by have := HE.out; simp; omega)).trans (k4.below (by simp) hB3))
  · skip
    generalize hW : World.alloc w _ = W
    have hbx : W.heap[w.heap.size]? = some (.cells #[.int .i64 k, .int .i64 it.id, .string it.name, .bool it.pre, .string it.body, .string it.key, .string it.full, .slice it.ca it.cl it.cc, .int .i64 it.time, .int .i64 it.idx, .string dn] 37) := by rw [← hW]; exact heap_alloc_new _ _
    have hbel : KeptBut [] w W := by rw [← hW]; exact (KeptBut.refl _ _).alloc _
    have hsz : w.heap.size < W.heap.size := by rw [← hW]; simp
    clear hW
    obtain ⟨bx, hbxe⟩ : ∃ bx, bx = w.heap.size := ⟨_, rfl⟩
    rw [← hbxe] at hbx hsz ⊢
    have HE := Lib.hid hbxe; clear hbxe
    have b1 : W.cell? ⟨bx, 1, none⟩ = some (.int .i64 it.id) := by rw [cell_at hbx]; rfl
    have b2 : W.cell? ⟨bx, 2, none⟩ = some (.string it.name) := by rw [cell_at hbx]; rfl
    have b3 : W.cell? ⟨bx, 3, none⟩ = some (.bool it.pre) := by rw [cell_at hbx]; rfl
    have b4 : W.cell? ⟨bx, 4, none⟩ = some (.string it.body) := by rw [cell_at hbx]; rfl
    have b5 : W.cell? ⟨bx, 5, none⟩ = some (.string it.key) := by rw [cell_at hbx]; rfl
    have b6 : W.cell? ⟨bx, 6, none⟩ = some (.string it.full) := by rw [cell_at hbx]; rfl
    have b7 : W.cell? ⟨bx, 7, none⟩ = some (.slice it.ca it.cl it.cc) := by rw [cell_at hbx]; rfl
    have b8 : W.cell? ⟨bx, 8, none⟩ = some (.int .i64 it.time) := by rw [cell_at hbx]; rfl
    have b9 : W.cell? ⟨bx, 9, none⟩ = some (.int .i64 it.idx) := by rw [cell_at hbx]; rfl
    clear hbx
    have H1 : Pool W.drew B p c m room l := (HH.out.kept hbel (by simp) (by simp) (by simp)).kept (KeptBut.drew (KeptBut.refl [] W)) (by simp) (by simp) (by simp)
    have R1 : RP W.drew B x room l va vc := rp_kept (rp_kept HR.out hbel (by simp)) (KeptBut.drew (KeptBut.refl [] W)) (by simp)
    have H1 := Lib.hid H1
    have R1 := Lib.hid R1
    have hbx4 : bx ∉ x :: blk va := fun h => by have := HRL.out bx h; have := HE.out; omega
    have hbxp : bx ∉ [p, c, m] := by have := HPL.out; have := HE.out; simp; omega
    have HBEL := Lib.hid hbel; clear hbel
    by_cases hroom : l.length < room
    · go_region_held3 (fun w' => w'.cell? ⟨bx, 1, none⟩ = some (.int .i64 it.id) ∧ w'.cell? ⟨bx, 2, none⟩ = some (.string it.name) ∧ w'.cell? ⟨bx, 3, none⟩ = some (.bool it.pre) ∧ w'.cell? ⟨bx, 4, none⟩ = some (.string it.body) ∧
          w'.cell? ⟨bx, 5, none⟩ = some (.string it.key) ∧ w'.cell? ⟨bx, 6, none⟩ = some (.string it.full) ∧ w'.cell? ⟨bx, 7, none⟩ = some (.slice it.ca it.cl it.cc) ∧ w'.cell? ⟨bx, 8, none⟩ = some (.int .i64 it.time) ∧ w'.cell? ⟨bx, 9, none⟩ = some (.int .i64 it.idx))
        (first
          | go_keep
          | (go_split_ands; refine ⟨?_, ?_, ?_, ?_, ?_, ?_, ?_, ?_, ?_⟩ <;> exact cell_kept k3 hsz hbxp (by assumption))
          | (go_split_ands; refine ⟨?_, ?_, ?_, ?_, ?_, ?_, ?_, ?_, ?_⟩ <;> exact cell_kept k4 hsz3 hbx4 (cell_kept k3 hsz hbxp (by assumption))))
        (first
          | (go_at_call 11; refine (offer_room it hn _ H1.out hroom).mono ?_; rintro e w3 ⟨rfl, H3, k3⟩; have R3 := Lib.hid (rp_kept R1.out k3 HD.out); have H3 := Lib.hid H3; have hsz3 : bx < w3.heap.size := Nat.lt_of_lt_of_le hsz k3.size; have hB3 : B ≤ w3.heap.size := (by have := HE.out; omega))
          | (go_at_call 14; refine (roffer_room it _ hB3 R3.out hroom).mono ?_; rintro e w4 ⟨rfl, R4, k4⟩; have R4 := Lib.hid R4))
      go_wp2
      go_ret
      obtain ⟨va', vc', R5⟩ := R4.out
      refine ⟨rfl, ?_, l ++ [it], m, va', vc', H3.out.kept k4 (fun h => (disj H3.out R3.out) p h (by simp)) (fun h => (disj H3.out R3.out) c h (by simp)) (fun h => (disj H3.out R3.out) m h (by simp)), R5, fun y hy => by simpa using hy⟩
      have hpb : ∀ k ∈ [p, c, m], B ≤ k := by have h1 := HH.out.bp; have h2 := HH.out.bc; have h3 := HH.out.bm; simp; omega
      exact ((HBEL.out.below (by simp) hB).trans (Below.refl _ _).drew).trans ((k3.below hpb (by have := HE.out; simp; omega)).trans (k4.below HRB.out hB3))
    · go_region_held3 (fun w' => w'.cell? ⟨bx, 1, none⟩ = some (.int .i64 it.id) ∧ w'.cell? ⟨bx, 2, none⟩ = some (.string it.name) ∧ w'.cell? ⟨bx, 3, none⟩ = some (.bool it.pre) ∧ w'.cell? ⟨bx, 4, none⟩ = some (.string it.body) ∧
          w'.cell? ⟨bx, 5, none⟩ = some (.string it.key) ∧ w'.cell? ⟨bx, 6, none⟩ = some (.string it.full) ∧ w'.cell? ⟨bx, 7, none⟩ = some (.slice it.ca it.cl it.cc) ∧ w'.cell? ⟨bx, 8, none⟩ = some (.int .i64 it.time) ∧ w'.cell? ⟨bx, 9, none⟩ = some (.int .i64 it.idx))
        (first
          | go_keep
          | (go_split_ands; refine ⟨?_, ?_, ?_, ?_, ?_, ?_, ?_, ?_, ?_⟩ <;> exact cell_kept k3 hsz (by simp) (by assumption))
          | (go_split_ands; refine ⟨?_, ?_, ?_, ?_, ?_, ?_, ?_, ?_, ?_⟩ <;> exact cell_kept k4 hsz3 (by simp) (cell_kept k3 hsz (by simp) (by assumption))))
        (first
          | (go_at_call 11; refine (offer_full it _ H1.out (by omega)).mono ?_; rintro e w3 ⟨rfl, q3⟩; have k3 : KeptBut [] W.drew w3 := KeptBut.of_below q3; have R3 := Lib.hid (rp_kept R1.out k3 (by simp)); have hsz3 : bx < w3.heap.size := Nat.lt_of_lt_of_le hsz k3.size; have hB3 : B ≤ w3.heap.size := (by have := HE.out; omega))
          | (go_at_call 14; refine (roffer_full it _ R3.out (by omega)).mono ?_; rintro e w4 ⟨rfl, q4⟩; have k4 : KeptBut [] w3 w4 := KeptBut.of_below q4))
      go_wp2
      go_ret
      refine ⟨rfl, ?_, l, m, va, vc, (H1.out.kept k3 (by simp) (by simp) (by simp)).kept k4 (by simp) (by simp) (by simp), rp_kept R3.out k4 (by simp), fun y hy => .inl hy⟩
      exact ((HBEL.out.below (by simp) hB).trans (Below.refl _ _).drew).trans ((k3.below (by simp) (by have := HE.out; simp; omega)).trans (k4.below (by simp) hB3))
  · skip
    generalize hW : World.alloc w _ = W
    have hbx : W.heap[w.heap.size]? = some (.cells #[.int .i64 k, .int .i64 it.id, .string it.name, .bool it.pre, .string it.body, .string it.key, .string it.full, .slice it.ca it.cl it.cc, .int .i64 it.time, .int .i64 it.idx, .string dn] 37) := by rw [← hW]; exact heap_alloc_new _ _
    have hbel : KeptBut [] w W := by rw [← hW]; exact (KeptBut.refl _ _).alloc _
    have hsz : w.heap.size < W.heap.size := by rw [← hW]; simp
    clear hW
    obtain ⟨bx, hbxe⟩ : ∃ bx, bx = w.heap.size := ⟨_, rfl⟩
    rw [← hbxe] at hbx hsz ⊢
    have HE := Lib.hid hbxe; clear hbxe
    clear hbx
    have H1 := Lib.hid (HH.out.kept hbel (by simp) (by simp) (by simp))
    have R1 := Lib.hid (rp_kept HR.out hbel (by simp))
    have HBEL := Lib.hid hbel; clear hbel
    have hBW : B ≤ W.heap.size := by have := HE.out; omega
    refine (take_any W hBW H1.out).mono ?_
    rintro e w3 ⟨v3, m3, rfl, hown3, hm3, H3, k3⟩
    obtain ⟨a5, c5, rfl, hc5, hA5⟩ := taken_cells hown3
    have R3 := Lib.hid (rp_kept R1.out k3 (fun k hk hm => HD.out k hk (by simp at hm ⊢; omega)))
    have HA5 := Lib.hid hA5; clear hA5
    have HO3 := Lib.hid hown3; clear hown3
    have H3 := Lib.hid H3
    have K3 := Lib.hid k3; clear k3
    go_wp2_with fail
    refine (rtake_any w3 R3.out).mono ?_
    rintro e w4 ⟨rfl, R4, hown4, k4⟩
    have HB4 := Lib.hid (rp_cells hown4)
    have hvc : 0 < l.length → l.length ≤ vc := fun h => by obtain ⟨_, _, _, _, h, _⟩ := rp_cells hown4 h; exact h
    have R4 := Lib.hid R4
    have K4 := Lib.hid k4; clear k4
    have HO4 := Lib.hid hown4; clear hown4
    have hl8 : l.length ≤ 8 := Nat.le_trans HH.out.fits HH.out.small
    have hs3 : W.heap.size ≤ w3.heap.size := K3.out.size
    have hs4 : w3.heap.size ≤ w4.heap.size := K4.out.size
    have hB3 : B ≤ w3.heap.size := by omega
    have hb4 : Below B w w4 := (HBEL.out.below (by simp) hB).trans ((K3.out.below (by have h1 := HH.out.bp; have h2 := HH.out.bc; simp; omega) hBW).trans (K4.out.below (by simpa using HR.out.bx) hB3))
    have hxW : x < W.heap.size := by have := HRL.out x (by simp); have := HE.out; omega
    have HC : Hid (∀ j y, l[j]? = some y → ∃ g5 gv, a5 = some ⟨g5, 0, none⟩ ∧ va = some ⟨gv, 0, none⟩ ∧ (∀ t u, y.cells[t]? = some u → w4.cell? ⟨g5, j * 9 + t, none⟩ = some u) ∧ (∀ t u, y.cells[t]? = some u → w4.cell? ⟨gv, j * 9 + t, none⟩ = some u) ∧ g5 < w4.heap.size ∧ gv < w4.heap.size) := Lib.hid (by
      intro j y hy
      have hjl := (List.getElem?_eq_some_iff.1 hy).1
      obtain ⟨g5, e5, hb5, hl5, hcc⟩ := HA5.out (by omega)
      obtain ⟨gv, ev, hbv, hlv, hvc, hvv⟩ := HB4.out (by omega)
      exact ⟨g5, gv, e5, ev, fun t u hu => cell_kept K4.out hl5 (by simp; omega) (hcc j y hy t u hu), hvv j y hy, by omega, hlv⟩)
    have HBB := Lib.hid hb4; clear hb4
    go_wp2_with fail
    go_loopg [10] 9 (fun g i wr => ∃ j : Nat, g = 9 - j ∧ j ≤ l.length ∧ i = .int .i64 (j : Int) ∧ Hid (Below w4.heap.size w4 wr))
    case atStart => exact ⟨0, rfl, Nat.zero_le _, rfl, Lib.hid (Below.refl _ _)⟩
    case round =>
      obtain ⟨j, hgj, hj, rfl, HBl⟩ := hrel
      have HG := Lib.hid hgj; clear hgj
      have hwr4 : w4.heap.size ≤ wr.heap.size := HBl.out.size
      by_cases hlt : j < l.length
      · have hd : decide ((j : Int) < (l.length : Int)) = true := by simp; omega
        have hjl : (j : Int) < (l.length : Int) := by omega
        have hvc := hvc (by omega)
        obtain ⟨y, hy⟩ : ∃ y, l[j]? = some y := ⟨_, List.getElem?_eq_getElem hlt⟩
        obtain ⟨g5, gv, rfl, rfl, hc5', hcv, hl5, hlv⟩ := HC.out j y hy
        obtain ⟨hycl, ss, hss⟩ := HCH.out y (List.mem_of_getElem? hy)
        have hss4 : StrsAt wr y.ca y.cl ss := strs_cell hss ((HB0.out.trans HBB.out).trans (HBl.out.mono (by omega))) hw0
        have kr : KeptBut [] w4 wr := KeptBut.of_below HBl.out
        have fg50 : wr.cell? ⟨g5, j * 9 + 2, none⟩ = some (.bool y.pre) := cell_kept kr hl5 (by simp) (hc5' 2 _ rfl)
        have fg51 : wr.cell? ⟨g5, j * 9 + 2 + 1, none⟩ = some (.string y.body) := cell_kept kr hl5 (by simp) (hc5' 3 _ rfl)
        have fg52 : wr.cell? ⟨g5, j * 9 + 2 + 2, none⟩ = some (.string y.key) := cell_kept kr hl5 (by simp) (hc5' 4 _ rfl)
        have fg53 : wr.cell? ⟨g5, j * 9 + 2 + 3, none⟩ = some (.string y.full) := cell_kept kr hl5 (by simp) (hc5' 5 _ rfl)
        have fg54 : wr.cell? ⟨g5, j * 9 + 2 + 4, none⟩ = some (.slice y.ca y.cl y.cc) := cell_kept kr hl5 (by simp) (hc5' 6 _ rfl)
        have fg55 : wr.cell? ⟨g5, j * 9 + 2 + 5, none⟩ = some (.int .i64 y.time) := cell_kept kr hl5 (by simp) (hc5' 7 _ rfl)
        have fg56 : wr.cell? ⟨g5, j * 9 + 2 + 6, none⟩ = some (.int .i64 y.idx) := cell_kept kr hl5 (by simp) (hc5' 8 _ rfl)
        have ng5 : wr.cell? ⟨g5, j * 9, none⟩ = some (.int .i64 y.id) := cell_kept kr hl5 (by simp) (hc5' 0 _ rfl)
        have mg5 : wr.cell? ⟨g5, j * 9 + 1, none⟩ = some (.string y.name) := cell_kept kr hl5 (by simp) (hc5' 1 _ rfl)
        have fgv0 : wr.cell? ⟨gv, j * 9 + 2, none⟩ = some (.bool y.pre) := cell_kept kr hlv (by simp) (hcv 2 _ rfl)
        have fgv1 : wr.cell? ⟨gv, j * 9 + 2 + 1, none⟩ = some (.string y.body) := cell_kept kr hlv (by simp) (hcv 3 _ rfl)
        have fgv2 : wr.cell? ⟨gv, j * 9 + 2 + 2, none⟩ = some (.string y.key) := cell_kept kr hlv (by simp) (hcv 4 _ rfl)
        have fgv3 : wr.cell? ⟨gv, j * 9 + 2 + 3, none⟩ = some (.string y.full) := cell_kept kr hlv (by simp) (hcv 5 _ rfl)
        have fgv4 : wr.cell? ⟨gv, j * 9 + 2 + 4, none⟩ = some (.slice y.ca y.cl y.cc) := cell_kept kr hlv (by simp) (hcv 6 _ rfl)
        have fgv5 : wr.cell? ⟨gv, j * 9 + 2 + 5, none⟩ = some (.int .i64 y.time) := cell_kept kr hlv (by simp) (hcv 7 _ rfl)
        have fgv6 : wr.cell? ⟨gv, j * 9 + 2 + 6, none⟩ = some (.int .i64 y.idx) := cell_kept kr hlv (by simp) (hcv 8 _ rfl)
        have ngv : wr.cell? ⟨gv, j * 9, none⟩ = some (.int .i64 y.id) := cell_kept kr hlv (by simp) (hcv 0 _ rfl)
        have mgv : wr.cell? ⟨gv, j * 9 + 1, none⟩ = some (.string y.name) := cell_kept kr hlv (by simp) (hcv 1 _ rfl)
        have hssd : StrsAt wr.drew y.ca y.cl ss := hss4
        have HSS := Lib.hid hssd; clear hss4 hss hssd
        have HC5 := Lib.hid hc5'; clear hc5'
        have HCV := Lib.hid hcv; clear hcv
        have KR := Lib.hid kr; clear kr
        have HY := Lib.hid hy; clear hy
        have hl5r : g5 < wr.heap.size := by omega
        have hlvr : gv < wr.heap.size := by omega
        go_wp2
        go_region_held3 (fun w' => w'.cell? ⟨g5, j * 9 + 2, none⟩ = some (.bool y.pre) ∧ w'.cell? ⟨g5, j * 9 + 2 + 1, none⟩ = some (.string y.body) ∧ w'.cell? ⟨g5, j * 9 + 2 + 2, none⟩ = some (.string y.key) ∧ w'.cell? ⟨g5, j * 9 + 2 + 3, none⟩ = some (.string y.full) ∧ w'.cell? ⟨g5, j * 9 + 2 + 4, none⟩ = some (.slice y.ca y.cl y.cc) ∧ w'.cell? ⟨g5, j * 9 + 2 + 5, none⟩ = some (.int .i64 y.time) ∧ w'.cell? ⟨g5, j * 9 + 2 + 6, none⟩ = some (.int .i64 y.idx) ∧ w'.cell? ⟨gv, j * 9 + 2, none⟩ = some (.bool y.pre) ∧ w'.cell? ⟨gv, j * 9 + 2 + 1, none⟩ = some (.string y.body) ∧ w'.cell? ⟨gv, j * 9 + 2 + 2, none⟩ = some (.string y.key) ∧ w'.cell? ⟨gv, j * 9 + 2 + 3, none⟩ = some (.string y.full) ∧ w'.cell? ⟨gv, j * 9 + 2 + 4, none⟩ = some (.slice y.ca y.cl y.cc) ∧ w'.cell? ⟨gv, j * 9 + 2 + 5, none⟩ = some (.int .i64 y.time) ∧ w'.cell? ⟨gv, j * 9 + 2 + 6, none⟩ = some (.int .i64 y.idx))
          (first
            | go_keep
            | (go_split_ands; refine ⟨?_, ?_, ?_, ?_, ?_, ?_, ?_, ?_, ?_, ?_, ?_, ?_, ?_, ?_⟩ <;> exact cell_below q6 (by assumption) (by assumption)))
          ((go_at_call 16; refine (same_any y.pre y.body y.key y.full y.ca y.cl y.cc y.time y.idx ss hycl _ HSS.out).mono ?_; rintro e w6 ⟨rfl, q6⟩))
        have ng5' := cell_below q6 hl5r ng5
        have ngv' := cell_below q6 hlvr ngv
        have mg5' := cell_below q6 hl5r mg5
        have mgv' := cell_below q6 hlvr mgv
        clear ng5 ngv mg5 mgv fg50 fg51 fg52 fg53 fg54 fg55 fg56 fgv0 fgv1 fgv2 fgv3 fgv4 fgv5 fgv6
        have Q6 := Lib.hid q6; clear q6
        go_wp2
        go_quiet (fail)
        go_wp2
        go_roundg (9 - (j + 1))
        case measure => have := HG.out; omega
        case rel => exact ⟨j + 1, rfl, hlt, by go_num, Lib.hid ((HBl.out.trans ((Below.refl _ _).drew.trans (Q6.out.mono (by simpa using hwr4)))).trans (below_drewN _ _ _))⟩
      · have hd : decide ((j : Int) < (l.length : Int)) = false := by simp; omega
        go_wp2
        go_ret
        have kr : KeptBut [] w4 wr := KeptBut.of_below HBl.out
        refine ⟨rfl, HBB.out.trans (HBl.out.mono (by omega)), [], m3, none, 0, (H3.out.kept K4.out (fun h => ?_) (fun h => ?_) (fun h => ?_)).kept kr (by simp) (by simp) (by simp), rp_kept R4.out kr (by simp), fun y hy => by simp at hy⟩
        · exact (disj H3.out R3.out) x (by simp) (by simp at h; simp [h])
        · exact (disj H3.out R3.out) x (by simp) (by simp at h; simp [h])
        · exact (disj H3.out R3.out) x (by simp) (by simp at h; simp [h])
  · skip
    generalize hW : World.alloc w _ = W
    have hbx : W.heap[w.heap.size]? = some (.cells #[.int .i64 k, .int .i64 it.id, .string it.name, .bool it.pre, .string it.body, .string it.key, .string it.full, .slice it.ca it.cl it.cc, .int .i64 it.time, .int .i64 it.idx, .string dn] 37) := by rw [← hW]; exact heap_alloc_new _ _
    have hbel : KeptBut [] w W := by rw [← hW]; exact (KeptBut.refl _ _).alloc _
    have hsz : w.heap.size < W.heap.size := by rw [← hW]; simp
    clear hW
    obtain ⟨bx, hbxe⟩ : ∃ bx, bx = w.heap.size := ⟨_, rfl⟩
    rw [← hbxe] at hbx hsz ⊢
    have HE := Lib.hid hbxe; clear hbxe
    have b10 : W.cell? ⟨bx, 10, none⟩ = some (.string dn) := by rw [cell_at hbx]; rfl
    clear hbx
    have H1 : ∀ n, Pool (W.drewN n) B p c m room l := fun n => (HH.out.kept hbel (by simp) (by simp) (by simp)).kept (keptBut_drewN [] W n) (by simp) (by simp) (by simp)
    have R1 : ∀ n, RP (W.drewN n) B x room l va vc := fun n => rp_kept (rp_kept HR.out hbel (by simp)) (keptBut_drewN [] W n) (by simp)
    have H1 := Lib.hid H1
    have R1 := Lib.hid R1
    have HBEL := Lib.hid hbel; clear hbel
    go_quiet (first | (go_at_call 12; exact Calls.quiet_of_same ((has_any dn hdn _ (H1.out _)).mono (fun e w' h => ⟨h.1, h.2.symm⟩))) | (go_at_call 17; exact Calls.quiet_of_same ((rhas_any dn _ (R1.out _)).mono (fun e w' h => ⟨h.1, h.2.symm⟩))))
    go_wp2
    go_ret
    refine ⟨rfl, ?_, l, m, va, vc, H1.out _, R1.out _, fun y hy => .inl hy⟩
    exact (HBEL.out.below (by simp) hB).trans (below_drewN _ _ _)

end Go.Proofs.Ytppagjglfpnfbaa
