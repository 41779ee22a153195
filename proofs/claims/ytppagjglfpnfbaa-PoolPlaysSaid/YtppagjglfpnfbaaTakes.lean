/- The walk of the law PoolTakes: it returns true. -/
import Derived.Test.YtppagjglfpnfbaaRooms
import Derived.RegionTactic
import Derived.BigRegion
import Derived.BigQuiet
namespace Go.Proofs.Ytppagjglfpnfbaa
open Go.RowKit Go.Conc Go.Maps

theorem info9 : (Try.prog.info? 9).map (fun i => (i.zero, i.size, i.bytes)) = some (some (.string .empty), 1, 16) := by kernel_rfl

/-- A slice of strings that came in: what its cells hold. -/
def StrsAt (w : World) (a : Option Addr) (len : Nat) (ss : Nat → ByteArray) : Prop :=
  0 < len → ∃ b off, a = some ⟨b, off, none⟩ ∧ b < w.heap.size ∧ ∀ i, i < len → w.cell? ⟨b, off + i, none⟩ = some (.string (ss i)) ∧ (ss i).size ≤ maxLen

/-- A row of the call's own stays what it is while other blocks turn. -/
theorem own_kept {w w' : World} {base : Nat} {e : TypeId} {size : Nat} {v : Value} {n : Nat} {xs : List Value} {S : List Nat} (h : w.ownsRow base e size v n xs) (hk : KeptBut S w w') (hS : ∀ k, v.ownBlock = some k → k ∉ S) : w'.ownsRow base e size v n xs := by
  refine ⟨h.1, ?_⟩
  rcases h.2 with hn | ⟨g, cap, cur, rfl, hb, hg, r⟩
  · exact .inl hn
  · refine .inr ⟨g, cap, cur, rfl, hb, ?_, r⟩
    rw [hk.block g (Array.getElem?_eq_some_iff.1 hg).1 (hS g rfl)]
    exact hg

theorem strs_cell {w wr : World} {B : Nat} {a : Option Addr} {len : Nat} {ss : Nat → ByteArray} (h : StrsAt w a len ss) (hb : Below B w wr) (hB : w.heap.size ≤ B) : StrsAt wr a len ss := by
  intro hl
  obtain ⟨b, off, rfl, hlt, hc⟩ := h hl
  exact ⟨b, off, rfl, Nat.lt_of_lt_of_le hlt hb.size, fun i hi => ⟨by rw [hb.cell (p := ⟨b, off + i, none⟩) (by show b < B; omega)]; exact (hc i hi).1, (hc i hi).2⟩⟩

theorem keptBut_drewN (S : List Nat) (w : World) (n : Nat) : KeptBut S w (w.drewN n) := ⟨rfl, rfl, rfl, Nat.le_refl _, fun _ _ _ => rfl⟩
theorem below_drewN (B : Nat) (w : World) (n : Nat) : Below B w (w.drewN n) := ⟨rfl, rfl, rfl, Nat.le_refl _, fun _ _ => rfl⟩

/-- The cells of a row of strings of the call's own. -/
theorem own_cells {w : World} {B n : Nat} {va : Option Addr} {vc : Nat} {l : List It} (h : w.ownsRow B 9 1 (.slice va n vc) n (l.map fun x => .string x.name)) (hn : 0 < n) :
    ∃ g, va = some ⟨g, 0, none⟩ ∧ B ≤ g ∧ g < w.heap.size ∧ n ≤ vc ∧ ∀ i x, l[i]? = some x → w.cell? ⟨g, i, none⟩ = some (.string x.name) := by
  rcases h.2 with ⟨_, h0⟩ | ⟨g, cap, cur, hv, hb, hg, hc, _⟩
  · omega
  · simp at hv
    obtain ⟨rfl, rfl⟩ := hv
    refine ⟨g, rfl, hb, (Array.getElem?_eq_some_iff.1 hg).1, hc, fun i x hx => ?_⟩
    have := h.cells (g := g) rfl i (.string x.name) (by rw [List.getElem?_map, hx]; rfl)
    have hadd : (⟨g, 0, none⟩ : Addr).add i = ⟨g, i, none⟩ := by unfold Addr.add; split <;> simp_all
    rwa [hadd] at this

/-- The pool's map is no row of the call's own. -/
theorem own_ne_map {w : World} {B B' p c m room n : Nat} {va : Option Addr} {vc : Nat} {l : List It} {xs : List Value} (H : Pool w B p c m room l) (h : w.ownsRow B' 9 1 (.slice va n vc) n xs) (hp : p < B') (hc : c < B') :
    ∀ k, (Value.slice va n vc).ownBlock = some k → k ∉ [p, c, m] := by
  intro k hk
  have h1 := (h.lt k hk).1
  rcases h.2 with ⟨hv, _⟩ | ⟨g, cap, cur, hv, hb, hg, _⟩
  · rw [hv] at hk; cases hk
  · rw [hv] at hk
    obtain rfl : g = k := by simpa [Value.ownBlock] using hk
    obtain ⟨D, _, ⟨es, clock, hm, _⟩, _⟩ := H.names
    have : g ≠ m := by intro e; rw [e, hm] at hg; cases hg
    simp; omega

set_option maxRecDepth 100000 in
set_option maxHeartbeats 2000000 in
theorem takes_any (r0 : Nat) (hr0 : r0 < 256) (a : Option Addr) (len cap : Nat) (ss : Nat → ByteArray) (st : Nat) (hst : st < 256) (hlen : len ≤ maxLen) (w : World) (hS : StrsAt w a len ss) :
    Calls Try.prog 4 #[.int .u8 (r0 : Int), .slice a len cap, .int .u8 (st : Int)] w fun e w' => e = .returned (.bool true) ∧ Below w.heap.size w w' := by
  unfold maxLen at hlen
  have HS := Lib.hid hS; clear hS
  obtain ⟨room, hroom⟩ : ∃ room : Nat, room = 1 + r0 % 8 := ⟨_, rfl⟩
  have h1 : 1 ≤ room := by omega
  have h8 : room ≤ 8 := by omega
  have hre : (1 : Int) + (r0 : Int) % 8 = (room : Int) := by omega
  obtain ⟨each, heach⟩ : ∃ each : Nat, each = 1 + st % 10 := ⟨_, rfl⟩
  have he1 : 1 ≤ each := by omega
  have he10 : each ≤ 10 := by omega
  have hee : (1 : Int) + (st : Int) % 10 = (each : Int) := by omega
  clear hroom heach
  go_enter Try.func4, Try.ntmps4
  go_wp2_with fail
  refine (examples_any _).mono ?_
  rintro e w1 ⟨rfl, hb⟩
  go_wp2_with fail
  refine (new_any room _ h1 h8).mono ?_
  rintro e w2 ⟨rfl, hb2, hs2, H2⟩
  clear hre
  obtain ⟨p, hp⟩ : ∃ p, p = w1.heap.size + 2 := ⟨_, rfl⟩
  rw [← hp] at H2 ⊢
  obtain ⟨B, hB⟩ : ∃ B, B = w1.heap.size := ⟨_, rfl⟩
  rw [← hB] at H2
  have HB := Lib.hid hB; clear hB
  have HP := Lib.hid hp; clear hp
  have HH := Lib.hid H2; clear H2
  have hs2 := Lib.hid hs2
  go_wp2_with fail
  clear hee
  have hwB : w.heap.size ≤ w1.heap.size := hb.size
  have hlp : p < w1.heap.size + 3 := by have := HP.out; omega
  have hlB : B < w1.heap.size + 3 := by have := HB.out; omega
  go_loopg [11, 13] 30 (fun g v i wr => ∃ (k : Nat) (l : List It) (m : Nat) (va : Option Addr) (vc : Nat), g = 30 - k ∧ k ≤ 30 ∧ k ≤ len ∧ i = .int .i64 (k : Int) ∧ v = .slice va l.length vc ∧ Hid (Pool wr B p B m room l) ∧
    Hid (wr.ownsRow (w1.heap.size + 3) 9 1 (.slice va l.length vc) l.length (l.map fun x => .string x.name)) ∧ Hid (Below w1.heap.size w1 wr) ∧ w1.heap.size + 3 ≤ wr.heap.size)
  case atStart => exact ⟨0, [], B + 1, none, 0, rfl, by omega, Nat.zero_le _, rfl, rfl, HH, Lib.hid (World.ownsRow_nil _ _ _ _), Lib.hid hb2, by have := hs2.out; omega⟩
  case round =>
    obtain ⟨k, l, m, va, vc, hgk, hk30, hkl, rfl, rfl, H, HO, HBl, hwr⟩ := hrel
    by_cases hlt : k < len
    · have hd : decide ((k : Int) < (len : Int)) = true := by simp; omega
      by_cases hlt30 : k < 30
      · have hd30 : decide ((k : Int) < 30) = true := by simp; omega
        obtain ⟨b, off, rfl, hbw, hcell⟩ := HS.out (by omega)
        obtain ⟨hck0, hnm⟩ := hcell k hlt
        have hck : wr.cell? ⟨b, off + k, none⟩ = some (.string (ss k)) := by rw [(hb.trans (HBl.out.mono hwB)).cell (p := ⟨b, off + k, none⟩) hbw]; exact hck0
        clear hck0
        have HGK := Lib.hid hgk; clear hgk
        obtain ⟨nm, hnme⟩ : ∃ nm, nm = ss k := ⟨_, rfl⟩
        rw [← hnme] at hck hnm
        clear hnme
        have hkl' : (k : Int) < (len : Int) := by omega
        clear hcell
        by_cases hro : l.length < room
        · have hdr : decide (l.length < room) = true := by simp; omega
          go_wp2_with fail
          refine (offer_room0 (k : Int) nm hnm _ H.out hro).mono ?_
          rintro e w3 ⟨rfl, H3, k3⟩
          have H3 := Lib.hid H3
          have K3 := Lib.hid k3; clear k3
          have hs3 : wr.heap.size ≤ w3.heap.size := K3.out.size
          have hck3 : w3.cell? ⟨b, off + k, none⟩ = some (.string nm) := by
            rw [← hck]; exact World.cell?_of_block (K3.out.block b (by omega) (by
              have h1 := HB.out; have h2 := HP.out
              obtain ⟨D, _, ⟨es, clock, hm, _⟩, _⟩ := H.out.names
              have h3 : b ≠ m := by intro e; simp [World.cell?, e, hm] at hck
              simp; omega))
          have hO3 : w3.ownsRow (w1.heap.size + 3) 9 1 (.slice va l.length vc) l.length (l.map fun x => .string x.name) := own_kept HO.out K3.out (own_ne_map H.out HO.out hlp hlB)
          have HO3 := Lib.hid hO3; clear hO3
          obtain ⟨i9, hi, hz0, hz1, hz2⟩ := info_parts info9
          go_wp2_with (at_builtin; refine wpList_append_lies _ rfl _ _ 31 rfl (w1.heap.size + 3) 9 i9 _ 1 16 Try.underlying31 hi hz0 hz1 hz2 rfl (by decide) (.slice va l.length vc) l.length _ rfl (HO3.out.alloc _) ⟨w3.heap.size, 0, none⟩ 1 1 [.string nm] rfl rfl ?c1 ?c2 (by decide) ?c3 ?c4 ?c5 (w3.heap.size + 1) (by simp) ?c6)
          case c1 => exact World.news_of_block (heap_alloc_new _ _)
          case c2 => intro u hu; simp at hu; subst hu; rfl
          case c3 => unfold maxLen; omega
          case c4 => omega
          case c5 => simp; omega
          case c6 =>
          intro gv vc4 w4 hown4 hg4 hat4 hlt4
          obtain ⟨l4, hl4⟩ : ∃ l4, l4 = l ++ [it0 (k : Int) nm] := ⟨_, rfl⟩
          obtain ⟨nq, hnq0⟩ : ∃ nq, l.length + 1 = nq := ⟨_, rfl⟩
          have HQ : Hid (l4.length = nq) := Lib.hid (by rw [hl4, ← hnq0]; simp)
          have hne4 := own_ne_map H3.out HO3.out hlp hlB
          have hk4 : KeptBut (Value.slice va l.length vc).ownBlock.toList w3 w4 := ((KeptBut.refl _ _).alloc _).trans (KeptBut.of_grown hg4 (fun j hj => by rw [hj]; simp))
          have hout : ∀ j, j ∈ (Value.slice va l.length vc).ownBlock.toList → j ∉ [p, B, m] := fun j hj => hne4 j (by simpa using hj)
          have hfar : ∀ j, j ∈ (Value.slice va l.length vc).ownBlock.toList → w1.heap.size + 3 ≤ j := fun j hj => (HO3.out.lt j (by simpa using hj)).1
          have H4 : Pool w4 B p B m room l4 := by
            rw [hl4]
            exact H3.out.kept hk4 (fun h => hout _ h (by simp)) (fun h => hout _ h (by simp)) (fun h => hout _ h (by simp))
          have HO4 : w4.ownsRow (w1.heap.size + 3) 9 1 (.slice (some ⟨gv, 0, none⟩) nq vc4) nq (l4.map fun x => .string x.name) := by
            rw [hl4, ← hnq0, List.map_append]; exact hown4
          have HB4 : Below w1.heap.size w1 w4 := HBl.out.trans ((K3.out.below (by have := HB.out; have := HP.out; have := H.out.bm; simp; omega) (by omega)).trans (hk4.below (fun j hj => by have := hfar j hj; omega) (by omega)))
          have hck4 : w4.cell? ⟨b, off + k, none⟩ = some (.string nm) := by
            rw [← hck3]; exact World.cell?_of_block (hk4.block b (by omega) (fun h => by have := hfar b h; omega))
          have hwr4 : w1.heap.size + 3 ≤ w4.heap.size := by have := hk4.size; omega
          have Hhas : decide (0 < cnt nm l4) = true := by
            rw [hl4, cnt_snoc]; simp [it0]
          have H4 := Lib.hid H4
          have HO4 := Lib.hid HO4
          have HB4 := Lib.hid HB4
          have Hhas := Lib.hid Hhas
          have HL4 := Lib.hid hl4; clear hl4
          have HN0 := Lib.hid hnq0
          clear hown4 hg4 hat4 hk4 hout hfar hne4 hck3 hck hlt4
          obtain ⟨va4, hva4⟩ : ∃ va4 : Option Addr, some ⟨gv, 0, none⟩ = va4 := ⟨_, rfl⟩
          rw [hva4] at HO4 ⊢
          rw [hnq0]
          clear hva4 hnq0
          have hB4 : B ≤ w4.heap.size := by have := HB.out; omega
          by_cases hm : k % each = each - 1
          · have hdm : ((k : Int) % (each : Int) == (each : Int) - 1) = true := by rw [beq_iff_eq]; omega
            go_wp2_with fail
            refine (len_any _ H4.out).mono ?_
            rintro e w5 ⟨rfl, rfl⟩
            rw [HQ.out]
            go_wp2_with fail
            refine (has_any nm hnm _ H4.out).mono ?_
            rintro e w5 ⟨rfl, rfl⟩
            rw [Hhas.out]
            go_wp2_with fail
            refine (take_any w4 hB4 H4.out).mono ?_
            rintro e w5 ⟨v5, m5, rfl, hown5, hm5, H5, k5⟩
            obtain ⟨a5, c5, rfl, hc5, hA5⟩ := taken_cells hown5
            rw [HQ.out] at hc5 ⊢
            have hs5 : w4.heap.size ≤ w5.heap.size := k5.size
            have hO5 : w5.ownsRow (w1.heap.size + 3) 9 1 (.slice va4 nq vc4) nq (l4.map fun x => .string x.name) :=
              own_kept HO4.out k5 (fun j hj hm => own_ne_map H4.out HO4.out hlp hlB j hj (by simp at hm ⊢; omega))
            have hck5 : w5.cell? ⟨b, off + k, none⟩ = some (.string nm) := by
              rw [← hck4]; exact World.cell?_of_block (k5.block b (by omega) (by have := HB.out; have := HP.out; simp; omega))
            have HB5 : Below w1.heap.size w1 w5 := HB4.out.trans (k5.below (by have := HB.out; have := HP.out; simp; omega) (by omega))
            have HC5 : ∀ j, j < nq → ∃ g5 gv, a5 = some ⟨g5, 0, none⟩ ∧ va4 = some ⟨gv, 0, none⟩ ∧ nq ≤ vc4 ∧ ∃ s, w5.cell? ⟨g5, j * 9 + 1, none⟩ = some (.string s) ∧ w5.cell? ⟨gv, j, none⟩ = some (.string s) := by
              intro j hj
              have hjl : j < l4.length := by rw [HQ.out]; exact hj
              obtain ⟨x, hx⟩ : ∃ x, l4[j]? = some x := ⟨_, List.getElem?_eq_getElem hjl⟩
              obtain ⟨g5, e5, _, _, hcc⟩ := hA5 (by omega)
              obtain ⟨gv, ev, _, _, hvc, hvv⟩ := own_cells hO5 (by omega)
              exact ⟨g5, gv, e5, ev, hvc, x.name, hcc j x hx 1 _ rfl, hvv j x hx⟩
            have HC5 := Lib.hid HC5
            have H5 := Lib.hid H5
            have HB5 := Lib.hid HB5
            have hnq : nq ≤ 8 := by rw [← HQ.out]; exact Nat.le_trans H4.out.fits H4.out.small
            clear hA5 hown5 hO5 k5
            go_wp2_with fail
            refine (len_any _ H5.out).mono ?_
            rintro e w6 ⟨rfl, rfl⟩
            simp only [List.length_nil]
            go_wp2_with fail
            refine (has_any nm hnm _ H5.out).mono ?_
            rintro e w6 ⟨rfl, rfl⟩
            rw [show decide (0 < cnt nm []) = false from rfl]
            go_wp2_with fail
            go_loopg [16] 9 (fun g i wx => ∃ d j : Nat, wx = w5.drewN d ∧ g = 9 - j ∧ j ≤ nq ∧ i = .int .i64 (j : Int))
            case atStart => exact ⟨0, 0, rfl, rfl, Nat.zero_le _, rfl⟩
            case round =>
              obtain ⟨d, j, rfl, hgj, hj, rfl⟩ := hrel
              have HGJ := Lib.hid hgj; clear hgj
              by_cases hjq : j < nq
              · have hdj : decide ((j : Int) < (nq : Int)) = true := by simp; omega
                have hjq' : (j : Int) < (nq : Int) := by omega
                obtain ⟨g5, gv, rfl, rfl, hvc, sj, hcj, hvj⟩ := HC5.out j hjq
                go_wp2
                go_quiet (fail)
                go_wp2
                go_roundg (9 - (j + 1))
                case measure => have := HGJ.out; omega
                case rel => exact ⟨_, j + 1, rfl, rfl, hjq, by go_num⟩
              · have hdj : decide ((j : Int) < (nq : Int)) = false := by simp; omega
                go_wp2
                go_roundg (30 - (k + 1))
                case measure => have := HGK.out; omega
                case rel => exact ⟨k + 1, [], m5, none, 0, rfl, by omega, hlt, by go_num, rfl, Lib.hid (H5.out.kept (keptBut_drewN [] _ _) (by simp) (by simp) (by simp)), Lib.hid (World.ownsRow_nil _ _ _ _), Lib.hid (HB5.out.trans (below_drewN _ _ _)), by simp; omega⟩
          · have hdm : ((k : Int) % (each : Int) == (each : Int) - 1) = false := by rw [beq_eq_false_iff_ne]; omega
            go_wp2_with fail
            refine (len_any _ H4.out).mono ?_
            rintro e w5 ⟨rfl, rfl⟩
            rw [HQ.out]
            go_wp2_with fail
            refine (has_any nm hnm _ H4.out).mono ?_
            rintro e w5 ⟨rfl, rfl⟩
            rw [Hhas.out]
            go_wp2
            go_roundg (30 - (k + 1))
            case measure => have := HGK.out; omega
            case rel => exact ⟨k + 1, l4, m, va4, vc4, rfl, by omega, hlt, by go_num, by rw [HQ.out], H4, by rw [HQ.out]; exact HO4, HB4, hwr4⟩
        · have hdr : decide (l.length < room) = false := by simp; omega
          go_wp2_with fail
          refine (offer_full0 (k : Int) nm _ H.out (by omega)).mono ?_
          rintro e w4 ⟨rfl, b4⟩
          obtain ⟨nq, hnq0⟩ : ∃ nq, l.length = nq := ⟨_, rfl⟩
          obtain ⟨l4, hl4⟩ : ∃ l4, l4 = l := ⟨_, rfl⟩
          have HQ : Hid (l4.length = nq) := Lib.hid (by rw [hl4]; exact hnq0)
          have hk4 : KeptBut [] wr w4 := KeptBut.of_below b4
          have H4 : Hid (Pool w4 B p B m room l4) := Lib.hid (by rw [hl4]; exact H.out.kept hk4 (by simp) (by simp) (by simp))
          have HO4 : Hid (w4.ownsRow (w1.heap.size + 3) 9 1 (.slice va nq vc) nq (l4.map fun x => .string x.name)) := Lib.hid (by
            rw [hl4, ← hnq0]; exact own_kept HO.out hk4 (by simp))
          have HB4 : Hid (Below w1.heap.size w1 w4) := Lib.hid (HBl.out.trans (b4.mono (by omega)))
          have hck4 : w4.cell? ⟨b, off + k, none⟩ = some (.string nm) := by
            rw [b4.cell (p := ⟨b, off + k, none⟩) (by show b < wr.heap.size; omega)]; exact hck
          have hwr4 : w1.heap.size + 3 ≤ w4.heap.size := by have := b4.size; omega
          have HL4 := Lib.hid hl4; clear hl4
          obtain ⟨va4, hva4⟩ : ∃ va4, va4 = va := ⟨_, rfl⟩
          obtain ⟨vc4, hvc4⟩ : ∃ vc4, vc4 = vc := ⟨_, rfl⟩
          rw [← hva4, ← hvc4] at HO4 ⊢
          clear hva4 hvc4 hck b4 hk4
          rw [hnq0] at hdr ⊢
          clear hnq0
          have hB4 : B ≤ w4.heap.size := by have := HB.out; omega
          by_cases hm : k % each = each - 1
          · have hdm : ((k : Int) % (each : Int) == (each : Int) - 1) = true := by rw [beq_iff_eq]; omega
            go_wp2_with fail
            refine (len_any _ H4.out).mono ?_
            rintro e w5 ⟨rfl, rfl⟩
            rw [HQ.out]
            go_wp2_with fail
            refine (take_any w4 hB4 H4.out).mono ?_
            rintro e w5 ⟨v5, m5, rfl, hown5, hm5, H5, k5⟩
            obtain ⟨a5, c5, rfl, hc5, hA5⟩ := taken_cells hown5
            rw [HQ.out] at hc5 ⊢
            have hs5 : w4.heap.size ≤ w5.heap.size := k5.size
            have hO5 : w5.ownsRow (w1.heap.size + 3) 9 1 (.slice va4 nq vc4) nq (l4.map fun x => .string x.name) :=
              own_kept HO4.out k5 (fun j hj hm => own_ne_map H4.out HO4.out hlp hlB j hj (by simp at hm ⊢; omega))
            have hck5 : w5.cell? ⟨b, off + k, none⟩ = some (.string nm) := by
              rw [← hck4]; exact World.cell?_of_block (k5.block b (by omega) (by have := HB.out; have := HP.out; simp; omega))
            have HB5 : Below w1.heap.size w1 w5 := HB4.out.trans (k5.below (by have := HB.out; have := HP.out; simp; omega) (by omega))
            have HC5 : ∀ j, j < nq → ∃ g5 gv, a5 = some ⟨g5, 0, none⟩ ∧ va4 = some ⟨gv, 0, none⟩ ∧ nq ≤ vc4 ∧ ∃ s, w5.cell? ⟨g5, j * 9 + 1, none⟩ = some (.string s) ∧ w5.cell? ⟨gv, j, none⟩ = some (.string s) := by
              intro j hj
              have hjl : j < l4.length := by rw [HQ.out]; exact hj
              obtain ⟨x, hx⟩ : ∃ x, l4[j]? = some x := ⟨_, List.getElem?_eq_getElem hjl⟩
              obtain ⟨g5, e5, _, _, hcc⟩ := hA5 (by omega)
              obtain ⟨gv, ev, _, _, hvc, hvv⟩ := own_cells hO5 (by omega)
              exact ⟨g5, gv, e5, ev, hvc, x.name, hcc j x hx 1 _ rfl, hvv j x hx⟩
            have HC5 := Lib.hid HC5
            have H5 := Lib.hid H5
            have HB5 := Lib.hid HB5
            have hnq : nq ≤ 8 := by rw [← HQ.out]; exact Nat.le_trans H4.out.fits H4.out.small
            clear hA5 hown5 hO5 k5
            go_wp2_with fail
            refine (len_any _ H5.out).mono ?_
            rintro e w6 ⟨rfl, rfl⟩
            simp only [List.length_nil]
            go_wp2_with fail
            refine (has_any nm hnm _ H5.out).mono ?_
            rintro e w6 ⟨rfl, rfl⟩
            rw [show decide (0 < cnt nm []) = false from rfl]
            go_wp2_with fail
            go_loopg [16] 9 (fun g i wx => ∃ d j : Nat, wx = w5.drewN d ∧ g = 9 - j ∧ j ≤ nq ∧ i = .int .i64 (j : Int))
            case atStart => exact ⟨0, 0, rfl, rfl, Nat.zero_le _, rfl⟩
            case round =>
              obtain ⟨d, j, rfl, hgj, hj, rfl⟩ := hrel
              have HGJ := Lib.hid hgj; clear hgj
              by_cases hjq : j < nq
              · have hdj : decide ((j : Int) < (nq : Int)) = true := by simp; omega
                have hjq' : (j : Int) < (nq : Int) := by omega
                obtain ⟨g5, gv, rfl, rfl, hvc, sj, hcj, hvj⟩ := HC5.out j hjq
                go_wp2
                go_quiet (fail)
                go_wp2
                go_roundg (9 - (j + 1))
                case measure => have := HGJ.out; omega
                case rel => exact ⟨_, j + 1, rfl, rfl, hjq, by go_num⟩
              · have hdj : decide ((j : Int) < (nq : Int)) = false := by simp; omega
                go_wp2
                go_roundg (30 - (k + 1))
                case measure => have := HGK.out; omega
                case rel => exact ⟨k + 1, [], m5, none, 0, rfl, by omega, hlt, by go_num, rfl, Lib.hid (H5.out.kept (keptBut_drewN [] _ _) (by simp) (by simp) (by simp)), Lib.hid (World.ownsRow_nil _ _ _ _), Lib.hid (HB5.out.trans (below_drewN _ _ _)), by simp; omega⟩
          · have hdm : ((k : Int) % (each : Int) == (each : Int) - 1) = false := by rw [beq_eq_false_iff_ne]; omega
            go_wp2_with fail
            refine (len_any _ H4.out).mono ?_
            rintro e w5 ⟨rfl, rfl⟩
            rw [HQ.out]
            go_wp2
            go_roundg (30 - (k + 1))
            case measure => have := HGK.out; omega
            case rel => exact ⟨k + 1, l4, m, va4, vc4, rfl, by omega, hlt, by go_num, by rw [HQ.out], H4, by rw [HQ.out]; exact HO4, HB4, hwr4⟩
      · have hd30 : decide ((k : Int) < 30) = false := by simp; omega
        go_wp2
        go_ret
        exact ⟨rfl, hb.trans (HBl.out.mono hwB)⟩
    · have hd : decide ((k : Int) < (len : Int)) = false := by simp; omega
      go_wp2
      go_ret
      exact ⟨rfl, hb.trans (HBl.out.mono hwB)⟩
end Go.Proofs.Ytppagjglfpnfbaa
