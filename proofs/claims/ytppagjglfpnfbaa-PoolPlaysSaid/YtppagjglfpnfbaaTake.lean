/- What Take of package pool does: a loop over a select of one receive with a default. -/
import Derived.Test.YtppagjglfpnfbaaOffer
namespace Go.Proofs.Ytppagjglfpnfbaa
open Go.RowKit Go.Conc Go.Maps

/-- The cells of some items, one behind the other. -/
def flat (l : List It) : List Value := l.flatMap It.cells

theorem flat_snoc (l : List It) (x : It) : flat (l ++ [x]) = flat l ++ x.cells := by simp [flat]

theorem recv_first (a : Value) (r : List Value) : (a :: r).toArray.getD 0 undef = a := by simp
theorem recv_rest (a : Value) (r : List Value) : (a :: r).toArray.extract 1 (r.length + 1) = r.toArray := by
  apply Array.ext_getElem?
  intro i
  simp

/-- What Take leaves. -/
def Taken (w : World) (B p c room : Nat) (l : List It) (e : Ending) (w' : World) : Prop :=
  ∃ (v : Value) (m : Nat), e = .returned v ∧ w'.ownsRow w.heap.size 35 9 v l.length (flat l) ∧ w.heap.size ≤ m ∧ Pool w' B p c m room [] ∧ KeptBut [p, c] w w'

def Inv (w : World) (p c m room : Nat) (l : List It) (n : Nat) (a : Act) (wr : World) : Prop :=
  ∃ (k : Nat) (v u4 u5 u6 u7 u8 u9 u10 u11 u12 u13 u14 u15 u16 u17 u18 u19 u20 u21 : Value), n = l.length - k ∧ k ≤ l.length ∧
    a = ⟨#[.pointer (some ⟨p, 0, none⟩), undef, .slice none 0 0, v, u4, u5, u6, u7, u8, u9, u10, u11, u12, u13, u14, u15, u16, u17, u18, u19, u20, u21], []⟩ ∧
    wr.heap[p]? = some (.cells #[.chan (some c), .map (some m)] 53) ∧ (∃ s r, wr.heap[c]? = some (.chan room ((l.drop k).map It.val).toArray false s r false)) ∧
    wr.ownsRow w.heap.size 35 9 v k (flat (l.take k)) ∧ KeptBut [c] w wr

set_option maxRecDepth 100000 in
set_option maxHeartbeats 1000000 in
theorem take_any {B p c m room : Nat} {l : List It} (w : World) (hB : B ≤ w.heap.size) (H : Pool w B p c m room l) :
    Calls Try.prog 13 #[.pointer (some ⟨p, 0, none⟩)] w (Taken w B p c room l) := by
  have hl8 : l.length ≤ 8 := Nat.le_trans H.fits H.small
  obtain ⟨i35, hi, hz0, hz1, hz2⟩ := info_parts info35
  refine calls_of_wpN Try.func13 rfl ?_
  simp only [Try.ntmps13, List.size_toArray, List.length_cons, List.length_nil, Nat.reduceAdd, Nat.reduceSub, Array.replicate_succ,
     Array.replicate_zero, List.push_toArray, List.append_toArray, List.nil_append, List.cons_append]
  refine WpN.seq_k (fun K1 hK1 => ?_)
  go_wp2
  refine WpN.seq_k (fun K1 hK1 => ?_)
  go_wp2
  refine WpN.block ?_
  refine WpN.loop (Inv w p c m room l) l.length ⟨0, _, _, _, _, _, _, _, _, _, _, _, _, _, _, _, _, _, _, _, rfl, Nat.zero_le _, rfl, H.hp, H.hc, World.ownsRow_nil _ _ _ _, KeptBut.refl _ _⟩ ?_
  rintro n a wr ⟨k, v, u4, u5, u6, u7, u8, u9, u10, u11, u12, u13, u14, u15, u16, u17, u18, u19, u20, u21, hn, hk, rfl, hp, ⟨s, r, hc⟩, hown, hkept⟩
  have h0 : wr.cell? ⟨p, 0, none⟩ = some (.chan (some c)) := by rw [cell_at hp]; rfl
  have hpl : p < wr.heap.size := (Array.getElem?_eq_some_iff.1 hp).1
  have hcl : c < wr.heap.size := (Array.getElem?_eq_some_iff.1 hc).1
  refine WpN.block ?_
  refine WpN.seq_n (fun KB hKB => ?_)
  refine WpN.seq_k (fun K1 hK1 => ?_)
  have HP := Lib.hid hp; clear hp
  have HC := Lib.hid hc; clear hc
  have HO := Lib.hid hown; clear hown
  have HK := Lib.hid hkept; clear hkept
  have HN := Lib.hid hn; clear hn
  go_wp2
  refine WpN.seq_n (fun K1 hK1 => ?_)
  by_cases hlt : k < l.length
  · obtain ⟨x, hx⟩ : ∃ x, l[k]? = some x := ⟨_, List.getElem?_eq_getElem hlt⟩
    have hdrop : l.drop k = x :: l.drop (k + 1) := by
      rw [List.getElem?_eq_getElem hlt] at hx
      rw [List.drop_eq_getElem_cons hlt, Option.some.inj hx]
    have htake : l.take (k + 1) = l.take k ++ [x] := by
      rw [List.take_add_one, hx]; rfl
    obtain ⟨W2, hW2⟩ : ∃ W2 : World, W2 = wr.setChan c room ((l.drop (k + 1)).map It.val).toArray false s (r + 1) false := ⟨_, rfl⟩
    have HW := Lib.hid hW2; clear hW2
    refine WpN.region_comm (cases := #[rcase c z35]) (blocking := false) (shape := .select) (v := .tuple #[goInt 0, .bool true, x.val]) (w' := W2) rfl ?_ (fun fr cs es h => by
      have := step_lone_select_recv_buf h HC.out (by rw [hdrop]; simp)
      rw [this, HW.out, hdrop]
      simp only [List.map_cons, List.size_toArray, List.length_cons, recv_first, recv_rest]) ?_
    · simp [go_sem, execOp, rcase, Act.eval, z35]
    go_wp2
    refine WpN.of_wp ?_
    have hg2 : wr.grownBy W2 (some c) := by
      rw [HW.out]; exact ⟨rfl, rfl, rfl, by simp [World.setChan], fun j _ hne => by simp only [World.setChan]; rw [Array.getElem?_setIfInBounds_ne (fun (e : c = j) => hne (by rw [e]))]⟩
    have hcw : c < w.heap.size := by obtain ⟨_, _, h⟩ := H.hc; exact (Array.getElem?_eq_some_iff.1 h).1
    have hown2 : W2.ownsRow w.heap.size 35 9 v k (flat (l.take k)) := HO.out.kept hg2 (by
      cases hv : v.ownBlock with
      | none => exact .inl rfl
      | some g => exact .inr (fun e => by have := (HO.out.lt g hv).1; simp at e; omega))
    have HO2 := Lib.hid hown2; clear hown2
    have HG2 := Lib.hid hg2; clear hg2
    have hs2 : wr.heap.size ≤ W2.heap.size := HG2.out.size
    have hws : w.heap.size ≤ wr.heap.size := HK.out.size
    unfold It.val
    go_wp2_with (at_builtin; refine wpList_append_own _ rfl _ _ 45 rfl w.heap.size 35 i35 _ 9 120 Try.underlying45 hi hz0 hz1 hz2 rfl (by decide) v k _ rfl ((HO2.out.alloc _).alloc _) ⟨W2.heap.size + 1, 0, none⟩ 1 1 x.cells rfl rfl ?c1 ?c2 ?c3 ?c4 ?c5 ?c6)
    case c1 => exact World.news_of_block (by have := heap_alloc_new (W2.alloc (.cells #[.int .i64 x.id, .string x.name, .bool x.pre, .string x.body, .string x.key, .string x.full, .slice x.ca x.cl x.cc, .int .i64 x.time, .int .i64 x.idx] 35)) (.cells #[.int .i64 x.id, .string x.name, .bool x.pre, .string x.body, .string x.key, .string x.full, .slice x.ca x.cl x.cc, .int .i64 x.time, .int .i64 x.idx] 35); simpa using this)
    case c2 => intro u hu; simp [It.cells] at hu; rcases hu with rfl | rfl | rfl | rfl | rfl | rfl | rfl | rfl | rfl <;> rfl
    case c3 => unfold maxLen; omega
    case c4 => omega
    case c5 => simp; omega
    case c6 =>
    intro v' w3 hown3 hg3 _
    go_wp2
    have far : ∀ j, j < w.heap.size → w3.heap[j]? = W2.heap[j]? := fun j hj => by
      rw [hg3.block j (by simp; omega) (fun e => by have := (HO.out.lt j e.symm).1; omega), Below.heap_alloc _ _ _ (by simp; omega), Below.heap_alloc _ _ _ (by omega)]
    have hpw : p < w.heap.size := (Array.getElem?_eq_some_iff.1 H.hp).1
    have hpc : p ≠ c := by intro e; have h1 := HP.out; rw [e, HC.out] at h1; cases h1
    have hp3 : w3.heap[p]? = some (.cells #[.chan (some c), .map (some m)] 53) := by
      rw [far p hpw, HG2.out.block p hpl (by simpa using hpc)]; exact HP.out
    have hc3 : w3.heap[c]? = some (.chan room ((l.drop (k + 1)).map It.val).toArray false s (r + 1) false) := by
      rw [far c hcw, HW.out, heap_setChan _ _ _ _ _ _ _ _ hcl]
    have hk3 : KeptBut [c] w w3 := by
      have h1 := HK.out
      have h2 := HG2.out
      refine ⟨hg3.os.trans (h2.os.trans h1.os), hg3.tape.trans (h2.tape.trans h1.tape), hg3.output.trans (h2.output.trans h1.output), ?_, fun j hj hn => ?_⟩
      · have := hg3.size; simp at this; omega
      · rw [far j hj, h2.block j (by omega) (by simpa using hn), h1.block j hj hn]
    rw [← flat_snoc, ← htake] at hown3
    exact ⟨l.length - (k + 1), by rw [HN.out]; omega, k + 1, v', _, _, _, _, _, _, _, _, _, _, _, _, _, _, _, _, _, _, rfl, hlt, rfl, hp3, ⟨s, r + 1, hc3⟩, hown3, hk3⟩
  · refine WpN.region_comm (cases := #[rcase c z35]) (blocking := false) (shape := .select) (v := .tuple #[goInt (-1), .bool false, z35]) rfl ?_ (fun fr cs es h => step_lone_select_default h (by have := HC.out; rw [List.drop_eq_nil_of_le (by omega)] at this; exact this)) ?_
    · simp [go_sem, execOp, rcase, Act.eval, z35]
    go_wp2
    refine WpN.of_wp ?_
    go_wp2
    refine WpN.of_wp ?_
    have hmm := @run_makeMap Try.prog
    have h1 : wr.cell? ⟨p, 1, none⟩ = some (.map (some m)) := by rw [cell_at HP.out]; rfl
    have hfz : wr.frozen? ⟨p, 1, none⟩ = false := frozen_of_row wr _ 1 _ _ HP.out
    go_wp2
    go_ret
    have hkl : k = l.length := by omega
    have hown := HO.out
    have hkept := HK.out
    have hsz := hkept.size
    have hpw : p < w.heap.size := (Array.getElem?_eq_some_iff.1 H.hp).1
    have hcw : c < w.heap.size := by obtain ⟨_, _, h⟩ := H.hc; exact (Array.getElem?_eq_some_iff.1 h).1
    have hpc : p ≠ c := by intro e; have h1 := HP.out; rw [e, HC.out] at h1; cases h1
    rw [hkl, List.take_length] at hown
    obtain ⟨W1, hW1⟩ : ∃ W1 : World, W1 = wr.setCell ⟨p, 1, none⟩ (.map (some wr.heap.size)) := ⟨_, rfl⟩
    have hg1 : wr.grownBy W1 (some p) := by
      rw [hW1]; exact ⟨rfl, rfl, rfl, by simp [World.setCell], fun j _ hne => Below.heap_setCell _ _ _ _ (fun e => hne (by rw [e]))⟩
    have hs1 : W1.heap.size = wr.heap.size := by rw [hW1]; simp [World.setCell]
    have hp1 : W1.heap[p]? = some (.cells #[.chan (some c), .map (some wr.heap.size)] 53) := by
      rw [hW1, heap_setCell_same _ _ _ _ _ _ HP.out]; rfl
    have hc1 : W1.heap[c]? = some (.chan room ((l.drop k).map It.val).toArray false s r false) := by
      rw [hW1, heap_setCell_other _ _ _ _ (Ne.symm hpc)]; exact HC.out
    have hown1 : W1.ownsRow w.heap.size 35 9 v l.length (flat l) := hown.kept hg1 (by
      cases hv : v.ownBlock with
      | none => exact .inl rfl
      | some g => exact .inr (fun e => by have := (hown.lt g hv).1; simp at e; omega))
    rw [← hW1]
    refine ⟨v, wr.heap.size, rfl, hown1.alloc _, hsz, ⟨H.bp, H.bc, by omega, ?_, ⟨s, r, ?_⟩, by simp, H.small, ?_⟩, ?_⟩
    · rw [Below.heap_alloc _ _ _ (by omega)]; exact hp1
    · rw [Below.heap_alloc _ _ _ (by omega), hc1, List.drop_eq_nil_of_le (by omega)]
    · have := names_made W1
      rw [hs1] at this
      exact this
    · have k1 : KeptBut [p, c] w wr := ⟨hkept.os, hkept.tape, hkept.output, hkept.size, fun j hj hn => hkept.block j hj (by simp at hn ⊢; exact hn.2)⟩
      rw [hW1]
      exact (k1.setCell (by simp) _).alloc _
end Go.Proofs.Ytppagjglfpnfbaa
