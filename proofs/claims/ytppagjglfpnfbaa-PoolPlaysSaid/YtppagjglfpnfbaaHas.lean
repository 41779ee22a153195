/- What Has of the reference of chapter 22, and Same of the reference of chapter 15 (at two equal entries), do. -/
import Derived.Test.YtppagjglfpnfbaaRef
import Derived.Test.YtppagjglfpnfbaaTakes
namespace Go.Proofs.Ytppagjglfpnfbaa
open Go.RowKit Go.Conc Go.Maps

theorem str_eq (a b : ByteArray) : (a.toList == b.toList) = decide (a = b) := by
  rw [ByteArray.toList_eq, ByteArray.toList_eq]
  by_cases h : a = b
  · subst h; simp
  · rw [decide_eq_false h, beq_eq_false_iff_ne]
    exact fun e => h (WideShapes.bytes_inj e)

theorem rp_cells {w : World} {B : Nat} {l : List It} {va : Option Addr} {vc : Nat} (H : w.ownsRow B 55 9 (.slice va l.length vc) l.length (flat l)) (hn : 0 < l.length) :
    ∃ g, va = some ⟨g, 0, none⟩ ∧ B ≤ g ∧ g < w.heap.size ∧ l.length ≤ vc ∧ ∀ i y, l[i]? = some y → ∀ j u, y.cells[j]? = some u → w.cell? ⟨g, i * 9 + j, none⟩ = some u := by
  rcases H.2 with ⟨_, h0⟩ | ⟨g, cap, cur, hv, hb, hg, hc, _⟩
  · omega
  · simp at hv
    obtain ⟨rfl, rfl⟩ := hv
    refine ⟨g, rfl, hb, (Array.getElem?_eq_some_iff.1 hg).1, hc, fun i y hy j u hu => ?_⟩
    have := H.cells (g := g) rfl (i * 9 + j) u (flat_at l i y hy j u hu)
    have hadd : (⟨g, 0, none⟩ : Addr).add (i * 9 + j) = ⟨g, i * 9 + j, none⟩ := by unfold Addr.add; split <;> simp_all
    rwa [hadd] at this

set_option maxRecDepth 100000 in
set_option maxHeartbeats 1000000 in
theorem rhas_any {B x room : Nat} {l : List It} {va : Option Addr} {vc : Nat} (nm : ByteArray) (w : World) (H : RP w B x room l va vc) :
    Calls Try.prog 17 #[.pointer (some ⟨x, 0, none⟩), .string nm] w fun e w' => e = .returned (.bool (decide (0 < cnt nm l))) ∧ w = w' := by
  have h1 : w.cell? ⟨x, 1, none⟩ = some (.slice va l.length vc) := by rw [cell_at H.hx]; rfl
  have hl8 : l.length ≤ 8 := Nat.le_trans H.fits H.small
  have HC := Lib.hid (rp_cells H.own)
  clear H
  go_enter Try.func17, Try.ntmps17
  go_wp2
  go_loopg [5] l.length (fun g i wr => w = wr ∧ ∃ j : Nat, g = l.length - j ∧ j ≤ l.length ∧ i = .int .i64 (j : Int) ∧ Hid (∀ i y, i < j → l[i]? = some y → y.name ≠ nm))
  case atStart => exact ⟨rfl, 0, rfl, Nat.zero_le _, rfl, Lib.hid (fun i y h => absurd h (by omega))⟩
  case round =>
    obtain ⟨rfl, j, hgj, hj, rfl, hno⟩ := hrel
    have HG := Lib.hid hgj; clear hgj
    by_cases hlt : j < l.length
    · have hd : decide ((j : Int) < (l.length : Int)) = true := by simp; omega
      obtain ⟨g, rfl, _, _, hlc, hcell⟩ := HC.out (by omega)
      obtain ⟨y, hy⟩ : ∃ y, l[j]? = some y := ⟨_, List.getElem?_eq_getElem hlt⟩
      have hcj := hcell j y hy 1 _ rfl
      have HY := Lib.hid hy; clear hy
      have HCC := Lib.hid hcell; clear hcell
      by_cases hn : y.name = nm
      · have hb : (y.name.toList == nm.toList) = true := by rw [str_eq]; simpa using hn
        have hpos : decide (0 < cnt nm l) = true := by
          rw [decide_eq_true_eq]
          unfold cnt
          rw [List.length_pos_iff_exists_mem]
          exact ⟨y, List.mem_filter.2 ⟨List.mem_of_getElem? HY.out, by simpa using hn⟩⟩
        have HP := Lib.hid hpos; clear hpos hn
        go_wp2
        go_ret
        exact ⟨by have h := HP.out; simp at h ⊢; exact h, rfl⟩
      · have hb : (y.name.toList == nm.toList) = false := by rw [str_eq]; simpa using hn
        have HN : Hid (∀ i z, i < j + 1 → l[i]? = some z → z.name ≠ nm) := Lib.hid (fun i z hi hz => by
          by_cases e : i = j
          · subst e; have := HY.out; rw [hz] at this; cases this; exact hn
          · exact hno.out i z (by omega) hz)
        clear hn
        go_wp2
        go_roundg (l.length - (j + 1))
        case measure => have := HG.out; omega
        case rel => exact ⟨rfl, j + 1, rfl, hlt, by go_num, HN⟩
    · have hd : decide ((j : Int) < (l.length : Int)) = false := by simp; omega
      have hneg : decide (0 < cnt nm l) = false := by
        rw [decide_eq_false_iff_not]
        unfold cnt
        rw [List.length_pos_iff_exists_mem]
        rintro ⟨y, hy⟩
        obtain ⟨hm, hn⟩ := List.mem_filter.1 hy
        obtain ⟨i, hi⟩ := List.getElem?_of_mem hm
        have := (List.getElem?_eq_some_iff.1 hi).1
        exact hno.out i y (by omega) hi (of_decide_eq_true hn)
      have HN := Lib.hid hneg; clear hneg
      go_wp2
      go_ret
      exact ⟨by have h := HN.out; simp at h ⊢; exact h, rfl⟩

set_option maxRecDepth 100000 in
set_option maxHeartbeats 1000000 in
theorem same_any (pre : Bool) (body key full : ByteArray) (ca : Option Addr) (cl cc : Nat) (time idx : Int) (ss : Nat → ByteArray) (hcl : cl ≤ maxLen) (w : World) (hch : StrsAt w ca cl ss) :
    Calls Try.prog 16 #[.agg #[.bool pre, .string body, .string key, .string full, .slice ca cl cc, .int .i64 time, .int .i64 idx], .agg #[.bool pre, .string body, .string key, .string full, .slice ca cl cc, .int .i64 time, .int .i64 idx]] w
      fun e w' => e = .returned (.bool true) ∧ Below w.heap.size w w' := by
  unfold maxLen at hcl
  have HC := Lib.hid hch; clear hch
  go_enter Try.func16, Try.ntmps16
  go_wp2
  generalize hW : World.alloc (World.alloc w _) _ = W
  have hb : Below w.heap.size w W := by rw [← hW]; exact ((Below.refl _ _).alloc (Nat.le_refl _) _).alloc (by simp) _
  have c0 : W.cell? ⟨w.heap.size, 4, none⟩ = some (.slice ca cl cc) := by
    rw [← hW, World.cell?_alloc_past _ _ _ (by simp), World.cell?_alloc_at _ _ _ _ rfl]; rfl
  have c1 : W.cell? ⟨w.heap.size + 1, 4, none⟩ = some (.slice ca cl cc) := by
    rw [← hW, World.cell?_alloc_at _ _ _ _ (by simp)]; rfl
  clear hW
  go_loopg [5] cl (fun g i wr => ∃ d j : Nat, wr = W.drewN d ∧ g = cl - j ∧ j ≤ cl ∧ i = .int .i64 (j : Int))
  case atStart => exact ⟨0, 0, rfl, rfl, Nat.zero_le _, rfl⟩
  case round =>
    obtain ⟨d, j, rfl, hgj, hj, rfl⟩ := hrel
    have HG := Lib.hid hgj; clear hgj
    by_cases hlt : j < cl
    · have hd : decide ((j : Int) < (cl : Int)) = true := by simp; omega
      have hjl : (j : Int) < (cl : Int) := by omega
      obtain ⟨b, off, rfl, hbw, hcell⟩ := HC.out (by omega)
      have hcj : W.cell? ⟨b, off + j, none⟩ = some (.string (ss j)) := by rw [hb.cell (p := ⟨b, off + j, none⟩) hbw]; exact (hcell j hlt).1
      have HL := Lib.hid hcell; clear hcell
      go_wp2
      go_quiet (fail)
      go_wp2
      go_roundg (cl - (j + 1))
      case measure => have := HG.out; omega
      case rel => exact ⟨_, j + 1, rfl, rfl, hlt, by go_num⟩
    · have hd : decide ((j : Int) < (cl : Int)) = false := by simp; omega
      go_wp2
      go_ret
      exact ⟨rfl, hb.trans (below_drewN _ _ _)⟩
end Go.Proofs.Ytppagjglfpnfbaa
