/- The reference's New. -/
import Derived.Test.YtcgcacegkbbmiaaRCodes
import Derived.Laws.ResultCell
namespace Go.Proofs.Ytcgcacegkbbmiaa
open Go.RowKit

theorem nz_zero {l : List Nat} (h : nz l = 0) : l.sum = 0 ∧ room l = 0 := by
  induction l with
  | nil => exact ⟨rfl, rfl⟩
  | cons x l ih =>
    unfold nz at h
    by_cases hx : x = 0
    · subst hx
      have := ih (by unfold nz; simpa using h)
      simp [room, this]
    · rw [List.filter_cons_of_pos (by simpa using hx)] at h
      simp at h
theorem sum_zero {l : List Nat} (h : l.sum = 0) : nz l = 0 := by
  induction l with
  | nil => rfl
  | cons x l ih =>
    rw [List.sum_cons] at h
    obtain rfl : x = 0 := by omega
    have := ih (by omega)
    unfold nz at this ⊢
    simpa using this
theorem single_iff {l : List Nat} (h15 : ∀ x ∈ l, x ≤ 15) : l.sum = 1 ↔ nz l = 1 ∧ room l = 16384 := by
  induction l with
  | nil => simp [nz]
  | cons x l ih =>
    have h := ih (fun y hy => h15 y (List.mem_cons_of_mem _ hy))
    have hx := h15 x List.mem_cons_self
    have hr : room (x :: l) = (if x = 0 then 0 else 2 ^ (15 - x)) + room l := rfl
    rw [List.sum_cons, hr]
    by_cases h0 : x = 0
    · subst h0
      rw [if_pos rfl, Nat.zero_add, Nat.zero_add, show nz (0 :: l) = nz l from by simp [nz]]
      exact h
    · have hn : nz (x :: l) = nz l + 1 := by unfold nz; rw [List.filter_cons_of_pos (by simpa using h0)]; rfl
      rw [if_neg h0, hn]
      constructor
      · intro hs
        obtain rfl : x = 1 := by omega
        have hz := sum_zero (show l.sum = 0 by omega)
        have := nz_zero hz
        exact ⟨by omega, by rw [this.2]⟩
      · rintro ⟨h1, h2⟩
        have hz := nz_zero (show nz l = 0 by omega)
        rw [hz.2, Nat.add_zero] at h2
        have : x = 1 := by
          have hb : ∀ y : Fin 16, 2 ^ (15 - y.val) = 16384 → y.val = 1 := by decide
          exact hb ⟨x, by omega⟩ h2
        rw [hz.1, this]
theorem good_iff {L : List Nat} (h15 : ∀ x ∈ L, x ≤ 15) : good L = true ↔ room L ≤ 32768 ∧ (room L = 32768 ∨ room L = 0 ∨ L.sum = 1) := by
  rw [single_iff h15]
  unfold good
  simp only [Bool.or_eq_true, Bool.and_eq_true, beq_iff_eq]
  omega

theorem results_row_tmp {P : Program} {fn : Func} {p u : Tmp} {ty : TypeId} (h : fn.results = #[.cell p ty, .tmp u]) (tmps : Array Value) (w : World) (g : Nat) (t : TypeId) (cs : Array Value) (fr : Nat × Nat) (d : TypeDesc)
    (hp : tmps.getD p undef = .pointer (some ⟨g, 0, none⟩)) (hg : w.heap[g]? = some (.cells cs t fr))
    (hu : P.underlying ty = some d) (hd : (match d with | .struct _ | .array _ _ => true | _ => false) = true) (hi : (P.info? ty).map (·.size) = some cs.size) :
    (results fn tmps).run P w = .ok (.tuple #[.agg cs, tmps.getD u undef]) w := by
  rw [results_cell_tmp h, hp]
  simp [asAddr, run_loadVar_row w g t ty cs fr d hg hu hd hi, Result.andThen]
theorem vals_off {w : World} {g off : Nat} {L : List Nat} (h : At w g off L) (j : Nat) (u : Value) (hu : (vals L)[j]? = some u) : w.cell? ((⟨g, off, none⟩ : Addr).add j) = some u := by
  unfold vals at hu
  rw [List.getElem?_map] at hu
  cases hx : L[j]? with
  | none => rw [hx] at hu; cases hu
  | some x =>
    rw [hx] at hu
    simp at hu
    subst hu
    have hadd : (⟨g, off, none⟩ : Addr).add j = ⟨g, off + j, none⟩ := by unfold Addr.add; split <;> simp_all
    rw [hadd]
    exact h j x hx
theorem setRow_size (w : World) (g : Nat) (cs : Array Value) : (w.setRow g cs).heap.size = w.heap.size := by simp [World.setRow]
theorem setRow_other (w : World) (g : Nat) (cs : Array Value) {k : Nat} (h : k ≠ g) : (w.setRow g cs).heap[k]? = w.heap[k]? := by
  simp only [World.setRow, Array.getElem?_modify]
  rw [if_neg (fun e => h e.symm)]
theorem two_one (a b : Option Addr) (n c m d : Nat) : (#[.slice a n c, .slice b m d] : Array Value).all (·.oneCell') = true := by simp [Value.oneCell']
theorem size65 : (Try.prog.info? 65).map (·.size) = some 2 := by kernel_rfl
/-- A code of the reference: its lengths, its codes. -/
def Cd (w : World) (v : Value) (L : List Nat) (lo : Nat) : Prop :=
  ∃ a ca b, v = .agg #[.slice (some ⟨a, 0, none⟩) L.length ca, .slice (some ⟨b, 0, none⟩) L.length L.length] ∧ lo ≤ a ∧ lo ≤ b ∧ a < w.heap.size ∧ b < w.heap.size ∧ At w a 0 L ∧ w.heap[b]? = some (.cells (ints L.length (cod L)) 3)
def noCd : Value := .agg #[.slice none 0 0, .slice none 0 0]
def RNewQ (L : List Nat) (w : World) (e : Ending) (w' : World) : Prop :=
  Below w.heap.size w w' ∧ if good L = true then ∃ v, e = .returned (.tuple #[v, .int .i64 0]) ∧ Cd w' v L w.heap.size else e = .returned (.tuple #[noCd, .int .i64 2])

set_option maxRecDepth 100000 in
set_option maxHeartbeats 2000000 in
theorem rnew_any {g off cap : Nat} (L : List Nat) (hL : L.length ≤ 300) (hL0 : 0 < L.length) (h15 : ∀ x ∈ L, x ≤ 15) (w : World) (hg : g < w.heap.size) (H : At w g off L) :
    Calls Try.prog 45 #[.slice (some ⟨g, off, none⟩) L.length cap] w (RNewQ L w) := by
  obtain ⟨W, hW⟩ : ∃ W, W = w.alloc (.cells #[.slice none 0 0, .slice none 0 0] 65) := ⟨_, rfl⟩
  have bW : Below w.heap.size w W := by rw [hW]; exact (Below.refl _ _).alloc (Nat.le_refl _) _
  obtain ⟨q, hq⟩ : ∃ q, q = w.heap.size := ⟨_, rfl⟩
  have cq : W.heap[q]? = some (.cells #[.slice none 0 0, .slice none 0 0] 65) := by rw [hW, hq]; exact heap_alloc_new _ _
  have hqW : q < W.heap.size := (Array.getElem?_eq_some_iff.1 cq).1
  have HAW : At W g off L := H.kept (bW.block g hg)
  have hcodes := rcodes_any (cap := cap) L hL h15 W (by omega) HAW
  have hgi := good_iff h15
  obtain ⟨R, hR⟩ : ∃ R, R = room L := ⟨_, rfl⟩
  rw [← hR] at hcodes hgi
  have hRl : R ≤ 4915200 := by have := room_le L; omega
  have HR := Lib.hid hR; clear hR
  have HG := Lib.hid hgi; clear hgi
  have HH := Lib.hid H; clear H
  have HW := Lib.hid hW
  have HQ := Lib.hid hq
  have bW := Lib.hid bW
  have HAW := Lib.hid HAW
  rw [hW] at hcodes
  by_cases hr : R ≤ 32768
  · simp only [if_pos hr] at hcodes
    have HC := Lib.hid hcodes; clear hcodes
    clear hW hq
    go_enter Try.func45, Try.ntmps45
    go_wp2_with fail
    rw [← HQ.out]
    refine HC.out.mono ?_
    rintro e w2 ⟨o, rfl, ho, b2, ho2⟩
    rw [← HW.out] at b2 ho
    have A2 : At w2 g off L := HAW.out.kept (b2.block g (by have := HQ.out; omega))
    have c2 : w2.heap[q]? = some (.cells #[.slice none 0 0, .slice none 0 0] 65) := (b2.block q hqW).trans cq
    have hsum := sum_any (g := g) (off := off) (cap := cap) L hL h15 w2 A2
    have hsin := single_any (g := g) (off := off) (cap := cap) L hL h15 w2 A2
    rw [← HR.out] at hsum
    have HSUM := Lib.hid hsum; clear hsum
    obtain ⟨i3, hi3, hz30, hz31, hz32⟩ := info_parts info3
    have HI3 := Lib.hid hi3
    have ho2 := Lib.hid ho2
    have b2 := Lib.hid b2
    have c2 := Lib.hid c2
    have A2 := Lib.hid A2
    go_wp2_with fail
    refine HSUM.out.mono ?_
    rintro e w3 ⟨rfl, rfl⟩
    have hcs : R = 32768 ∨ R = 0 ∨ (R ≠ 32768 ∧ R ≠ 0) := by omega
    have hcs2 : (R = 32768 ∨ R = 0) ∨ (¬ (R = 32768 ∨ R = 0) ∧ L.sum = 1) ∨ (¬ (R = 32768 ∨ R = 0) ∧ L.sum ≠ 1) := by omega
    rcases hcs2 with h1 | ⟨h1, h2⟩ | ⟨h1, h2⟩
    case' inl =>
      have hgood : good L = true := HG.out.2 ⟨hr, by omega⟩
      have HGD := Lib.hid hgood; clear hgood
      rcases h1 with rfl | rfl
      case' inl => skip
      case' inr => skip
    case' inr.inl =>
      have hgood : good L = true := HG.out.2 ⟨hr, by omega⟩
      have HGD := Lib.hid hgood; clear hgood
      have e1 : ((R : Int) != 32768) = true := by simp; omega
      have e2 : ((R : Int) != 0) = true := by simp; omega
      rw [decide_eq_true h2] at hsin
      have HSIN := Lib.hid hsin; clear hsin
      clear h1 h2 hcs
      go_wp2_with fail
      refine HSIN.out.mono ?_
      rintro e w3 ⟨rfl, rfl⟩
    case' inr.inr =>
      have hbad : ¬ good L = true := fun h => by have := HG.out.1 h; omega
      have HGD := Lib.hid hbad; clear hbad
      have e1 : ((R : Int) != 32768) = true := by simp; omega
      have e2 : ((R : Int) != 0) = true := by simp; omega
      rw [decide_eq_false h2] at hsin
      have HSIN := Lib.hid hsin; clear hsin
      clear h1 h2 hcs
      go_wp2_with fail
      refine HSIN.out.mono ?_
      rintro e w3 ⟨rfl, rfl⟩
      go_wp2_with (refine wpList_store_row rfl 65 _ _ rfl q #[.slice none 0 0, .slice none 0 0] rfl rfl 65 #[.slice none 0 0, .slice none 0 0] c2.out size65 rfl (two_one _ _ _ _ _ _) ?_)
      (try simp only [Exit.inBlock, Exit.then])
      refine bodyPost_ret (results_row_tmp rfl _ _ q 65 _ (0, 0) _ rfl (setRow_heap _ _ _ _ _ _ c2.out) Try.underlying65 rfl size65) rfl ?_
      have hq1 := HQ.out
      have hbB : Below w.heap.size w w2 := bW.out.trans (b2.out.mono (by omega))
      refine ⟨below_setRow hbB (by omega) _, ?_⟩
      rw [if_neg HGD.out]
      rfl
    all_goals
      go_wp2_with (first
        | (at_builtin; refine wpList_append_lies _ rfl _ _ 34 rfl w2.heap.size 3 i3 _ 1 8 Try.underlying34 hi3 hz30 hz31 hz32 rfl (by decide) (.slice none 0 0) 0 [] rfl (World.ownsRow_nil _ _ _ _) ⟨g, off, none⟩ L.length cap (vals L) rfl ?c1 ?c2 ?c3 ?c4 ?c5 ?c6 (Nat.le_refl _) w2.heap.size rfl ?c7))
      case c1 => rw [vals_length]; omega
      case c2 => exact vals_off A2.out
      case c3 => exact vals_one
      case c4 => omega
      case c5 => unfold maxLen; omega
      case c6 => omega
      case c7 =>
      intro a3 C3 w3 hown3 hg3 hat3 hlt3
      have k3 : KeptBut [] w2 w3 := KeptBut.of_grown hg3 (fun k hk => by simp [Value.ownBlock] at hk)
      have c3 : w3.heap[q]? = some (.cells #[.slice none 0 0, .slice none 0 0] 65) := (k3.block q (by have := (Array.getElem?_eq_some_iff.1 c2.out).1; omega) (by simp)).trans c2.out
      have ho3 : w3.heap[o]? = some (.cells (ints L.length (cod L)) 3) := (k3.block o (Array.getElem?_eq_some_iff.1 ho2.out).1 (by simp)).trans ho2.out
      have hA3 : At w3 a3 0 L := own_at hown3
      have ha3 : w2.heap.size ≤ a3 := (row_block hown3 (k := a3) (by simp [blk])).1
      have c3 := Lib.hid c3
      have ho3 := Lib.hid ho3
      have hA3 := Lib.hid hA3
      have k3 := Lib.hid k3
      clear hown3 hg3 hat3
      go_wp2_with (refine wpList_store_row rfl 65 _ _ rfl q _ rfl rfl 65 #[.slice none 0 0, .slice none 0 0] c3.out size65 rfl (two_one _ _ _ _ _ _) ?_)
      (try simp only [Exit.inBlock, Exit.then])
      refine bodyPost_ret (results_row_tmp rfl _ _ q 65 _ (0, 0) _ rfl (setRow_heap _ _ _ _ _ _ c3.out) Try.underlying65 rfl size65) rfl ?_
      have hq1 := HQ.out
      have hbB : Below w.heap.size w w3 := bW.out.trans ((b2.out.mono (by omega)).trans (k3.out.below (by simp) (by have := b2.out.size; omega)))
      refine ⟨below_setRow hbB (by omega) _, ?_⟩
      rw [if_pos HGD.out]
      have hao : a3 ≠ q := by have := (Array.getElem?_eq_some_iff.1 c2.out).1; omega
      have hoq : o ≠ q := by omega
      exact ⟨_, rfl, a3, C3, o, rfl, by have := b2.out.size; omega, by omega, by rw [setRow_size]; exact hlt3, by rw [setRow_size]; exact (Array.getElem?_eq_some_iff.1 ho3.out).1, hA3.out.kept (setRow_other _ _ _ hao), (setRow_other _ _ _ hoq).trans ho3.out⟩
  · simp only [if_neg hr] at hcodes
    have hgf : ¬ good L = true := fun h => hr (HG.out.1 h).1
    have HC := Lib.hid hcodes; clear hcodes
    clear hW hq
    go_enter Try.func45, Try.ntmps45
    go_wp2_with fail
    rw [← HQ.out]
    refine HC.out.mono ?_
    rintro e w2 ⟨rfl, rfl⟩
    rw [← HW.out]
    go_wp2_with (refine wpList_store_row rfl 65 _ _ rfl q #[.slice none 0 0, .slice none 0 0] rfl rfl 65 #[.slice none 0 0, .slice none 0 0] cq size65 rfl (two_one _ _ _ _ _ _) ?_)
    (try simp only [Exit.inBlock, Exit.then])
    refine bodyPost_ret (results_row_tmp rfl _ _ q 65 _ (0, 0) _ rfl (setRow_heap _ _ _ _ _ _ cq) Try.underlying65 rfl size65) rfl ?_
    have hq1 := HQ.out
    refine ⟨below_setRow bW.out (by omega) _, ?_⟩
    rw [if_neg hgf]
    rfl
end Go.Proofs.Ytcgcacegkbbmiaa
