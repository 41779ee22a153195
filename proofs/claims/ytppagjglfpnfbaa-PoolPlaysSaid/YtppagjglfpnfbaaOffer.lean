/- What Offer of package pool does: a select of one send with a default, and the map of names. -/
import Derived.Test.YtppagjglfpnfbaaBase
import Derived.RegionTactic
namespace Go.Proofs.Ytppagjglfpnfbaa
open Go.RowKit Go.Conc Go.Maps

def z35 : Value := .agg #[.int .i64 0, .string ⟨#[]⟩, .bool false, .string ⟨#[]⟩, .string ⟨#[]⟩, .string ⟨#[]⟩, .slice none 0 0, .int .i64 0, .int .i64 0]

set_option maxRecDepth 100000 in
set_option maxHeartbeats 400000 in
theorem offer_full {B p c m room : Nat} {l : List It} (x : It) (w : World) (H : Pool w B p c m room l) (hfull : room ≤ l.length) :
    Calls Try.prog 11 #[.pointer (some ⟨p, 0, none⟩), x.val] w fun e w' => e = .returned (.int .i64 4) ∧ Below w.heap.size w w' := by
  obtain ⟨s, r, hc⟩ := H.hc
  have hpl : p < w.heap.size := (Array.getElem?_eq_some_iff.1 H.hp).1
  have hcl : c < w.heap.size := (Array.getElem?_eq_some_iff.1 hc).1
  have h0 : w.cell? ⟨p, 0, none⟩ = some (.chan (some c)) := by rw [cell_at H.hp]; rfl
  have HC := Lib.hid hc; clear hc
  have HH := Lib.hid H; clear H
  unfold It.val
  refine calls_of_wpN Try.func11 rfl ?_
  simp only [Try.ntmps11, List.size_toArray, List.length_cons, List.length_nil, Nat.reduceAdd, Nat.reduceSub, Array.replicate_succ,
     Array.replicate_zero, List.push_toArray, List.append_toArray, List.nil_append, List.cons_append]
  refine WpN.seq_k (fun K1 hK1 => ?_)
  go_wp2
  refine WpN.seq_k (fun K1 hK1 => ?_)
  go_wp2
  refine WpN.seq_n (fun K1 hK1 => ?_)
  refine WpN.region_comm (cases := #[scase c x.val z35]) (blocking := false) (shape := .select) (v := .tuple #[goInt (-1), .bool false]) rfl ?_ (fun fr cs es h => step_lone_select_send_full h ((Below.heap_alloc _ _ _ hcl).trans HC.out) (by simpa using hfull)) ?_
  · simp [go_sem, execOp, scase, Act.eval, It.val, z35]
  go_wp2
  refine WpN.of_wp ?_
  go_wp2
  go_ret
  exact ⟨rfl, (Below.refl _ _).alloc (Nat.le_refl _) _⟩

theorem names_add {w : World} {m : Nat} {l : List It} (x : It) (hx : x.name.size ≤ maxLen) (h8 : l.length ≤ 8) (h : Names w m l) :
    (Instr.lookup 51 (.map (some m)) (.string x.name) false).run Try.prog w = .ok (.int .i64 (cnt x.name l : Int)) w ∧
    ∃ w', (Instr.mapUpdate 51 (.map (some m)) (.string x.name) (.int .i64 ((cnt x.name l : Int) + 1))).run Try.prog w = .ok () w' ∧ Names w' m (l ++ [x]) ∧ w.grownBy w' (some m) := by
  obtain ⟨D, hD, hown, hat⟩ := h
  obtain ⟨q, hrun, hq, _⟩ := hown.lookup_int law9 Try.underlying51 Try.underlying3 (zero3 w) (WideMaps.keyOf_string_mk Try.underlying9 hx)
  rw [hat x.name hx] at hq
  obtain rfl : (cnt x.name l : Int) = q := by simpa using hq
  refine ⟨hrun, ?_⟩
  have hle := cnt_le x.name l
  obtain ⟨w', hrun', hown', hg⟩ := hown.update law9 Try.underlying51 (by unfold maxLen; omega) (WideMaps.keyOf_string_mk Try.underlying9 hx)
    (plainElem_int (H := Unit) Try.underlying3 (q := .i64) (a := (cnt x.name l : Int) + 1) (WalkArith.wf_i64 (by omega)))
  refine ⟨w', hrun', ⟨_, hD.put _ _, by simpa using hown', fun s hs => ?_⟩, hg⟩
  rw [cnt_snoc]
  by_cases e : x.name = s
  · subst e
    rw [atKey_put_same hD (by trivial), if_pos rfl]
    simp
  · have hne : (Lit.string s.data.toList) ≠ .string x.name.data.toList := by
      intro h
      have : s.data.toList = x.name.data.toList := by simpa using h
      exact e (ByteArray.ext (Array.ext' this.symm))
    rw [atKey_put_other hne, if_neg e, hat s hs]
    simp

set_option maxRecDepth 100000 in
set_option maxHeartbeats 400000 in
theorem offer_room {B p c m room : Nat} {l : List It} (x : It) (hx : x.name.size ≤ maxLen) (w : World) (H : Pool w B p c m room l) (hroom : l.length < room) :
    Calls Try.prog 11 #[.pointer (some ⟨p, 0, none⟩), x.val] w fun e w' => e = .returned (.int .i64 0) ∧ Pool w' B p c m room (l ++ [x]) ∧ KeptBut [p, c, m] w w' := by
  obtain ⟨s, r, hc⟩ := H.hc
  have hpl : p < w.heap.size := (Array.getElem?_eq_some_iff.1 H.hp).1
  have hcl : c < w.heap.size := (Array.getElem?_eq_some_iff.1 hc).1
  have hml := H.names.lt
  have h0 : w.cell? ⟨p, 0, none⟩ = some (.chan (some c)) := by rw [cell_at H.hp]; rfl
  have hpc : p ≠ c := by intro e; have := H.hp; rw [e, hc] at this; cases this
  have hmc : m ≠ c := by
    obtain ⟨D, _, ⟨es, clock, hb, _⟩, _⟩ := H.names
    intro e; rw [e, hc] at hb; cases hb
  have hpm : p ≠ m := by
    obtain ⟨D, _, ⟨es, clock, hb, _⟩, _⟩ := H.names
    intro e; have := H.hp; rw [e, hb] at this; cases this
  obtain ⟨W2, hW2⟩ : ∃ W2 : World, W2 = (w.alloc (.cells #[.int .i64 x.id, .string x.name, .bool x.pre, .string x.body, .string x.key, .string x.full, .slice x.ca x.cl x.cc, .int .i64 x.time, .int .i64 x.idx] 35)).setChan c room ((l.map It.val).toArray.push x.val) false (s + 1) r false := ⟨_, rfl⟩
  have other : ∀ k, k < w.heap.size → k ≠ c → W2.heap[k]? = w.heap[k]? := fun k hk hne => by
    rw [hW2]; simp only [World.setChan]; rw [Array.getElem?_setIfInBounds_ne (Ne.symm hne)]; exact Below.heap_alloc _ _ _ hk
  have hbox : W2.heap[w.heap.size]? = some (.cells #[.int .i64 x.id, .string x.name, .bool x.pre, .string x.body, .string x.key, .string x.full, .slice x.ca x.cl x.cc, .int .i64 x.time, .int .i64 x.idx] 35) := by
    rw [hW2]; simp only [World.setChan]; rw [Array.getElem?_setIfInBounds_ne (by omega)]; exact heap_alloc_new _ _
  have hchan : W2.heap[c]? = some (.chan room ((l ++ [x]).map It.val).toArray false (s + 1) r false) := by
    rw [hW2, heap_setChan _ _ _ _ _ _ _ _ (by simp; omega)]; simp
  have hsz : W2.heap.size = w.heap.size + 1 := by rw [hW2, size_setChan]; simp
  have hkept : KeptBut [p, c, m] w W2 := by rw [hW2]; exact ((KeptBut.refl _ _).alloc _).setChan (by simp) _ _ _ _ _ _
  have hnames : Names W2.drew m l := H.names.kept (other m hml hmc)
  obtain ⟨hlook, W3, hupd, hnames3, hg3⟩ := names_add x hx (Nat.le_trans H.fits H.small) hnames
  have hp1 : W2.cell? ⟨p, 1, none⟩ = some (.map (some m)) := by rw [cell_at ((other p hpl hpc).trans H.hp)]; rfl
  have hb1 : W2.cell? ⟨w.heap.size, 1, none⟩ = some (.string x.name) := by rw [cell_at hbox]; rfl
  have hcn : cnt x.name l ≤ 8 := Nat.le_trans (cnt_le _ _) (Nat.le_trans H.fits H.small)
  have hfin : Pool W3 B p c m room (l ++ [x]) := by
    have e : ∀ k, k < W2.heap.size → k ≠ m → W3.heap[k]? = W2.heap[k]? := fun k hk hne => hg3.block k hk (by simpa using hne)
    refine ⟨H.bp, H.bc, H.bm, ?_, ⟨s + 1, r, ?_⟩, by simp; omega, H.small, hnames3⟩
    · rw [e p (by omega) hpm, other p hpl hpc]; exact H.hp
    · rw [e c (by omega) (Ne.symm hmc)]; exact hchan
  have hkfin : KeptBut [p, c, m] w W3 := hkept.trans ((KeptBut.drew (KeptBut.refl _ _)).trans (KeptBut.of_grown hg3 (fun k hk => by simp at hk; subst hk; simp)))
  have HC := Lib.hid hc; clear hc
  have HF := Lib.hid hfin; clear hfin
  have HK := Lib.hid hkfin; clear hkfin
  have HW := Lib.hid hW2; clear hW2
  clear hnames hnames3 hg3 hkept hchan hbox other H hsz
  unfold It.val
  refine calls_of_wpN Try.func11 rfl ?_
  simp only [Try.ntmps11, List.size_toArray, List.length_cons, List.length_nil, Nat.reduceAdd, Nat.reduceSub, Array.replicate_succ,
     Array.replicate_zero, List.push_toArray, List.append_toArray, List.nil_append, List.cons_append]
  refine WpN.seq_k (fun K1 hK1 => ?_)
  go_wp2
  refine WpN.seq_k (fun K1 hK1 => ?_)
  go_wp2
  refine WpN.seq_n (fun K1 hK1 => ?_)
  refine WpN.region_comm (cases := #[scase c x.val z35]) (blocking := false) (shape := .select) (v := .tuple #[goInt 0, .bool false]) (w' := W2) rfl ?_ (fun fr cs es h => by rw [HW.out]; exact step_lone_select_send_room h ((Below.heap_alloc _ _ _ hcl).trans HC.out) (by simpa using hroom)) ?_
  · simp [go_sem, execOp, scase, Act.eval, It.val, z35]
  go_wp2
  refine WpN.of_wp ?_
  go_wp2
  go_region
  go_wp2
  go_ret
  exact ⟨rfl, HF.out, HK.out⟩
end Go.Proofs.Ytppagjglfpnfbaa
