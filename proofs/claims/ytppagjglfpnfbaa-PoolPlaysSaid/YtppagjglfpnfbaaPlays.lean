/- The walk of the law PoolPlays: it returns true. -/
import Derived.Test.YtppagjglfpnfbaaDoes
namespace Go.Proofs.Ytppagjglfpnfbaa
open Go.RowKit Go.Conc Go.Maps

theorem does_any {B p c m x room : Nat} {l : List It} {va : Option Addr} {vc : Nat} (k : Int) (hk : (Lit.int .i64 k).wf = true) (it : It) (dn : ByteArray) (w : World) (hB : B ≤ w.heap.size) (H : Pool w B p c m room l) (R : RP w B x room l va vc)
    (hn : it.name.size ≤ maxLen) (hdn : dn.size ≤ maxLen) (w0 : World) (hw0 : w0.heap.size ≤ B) (hch : ∀ y ∈ l, y.cl ≤ maxLen ∧ ∃ ss, StrsAt w0 y.ca y.cl ss) (hb0 : Below B w0 w) :
    Calls Try.prog 9 #[.pointer (some ⟨p, 0, none⟩), .pointer (some ⟨x, 0, none⟩), .agg #[.int .i64 k, .int .i64 it.id, .string it.name, .bool it.pre, .string it.body, .string it.key, .string it.full, .slice it.ca it.cl it.cc, .int .i64 it.time, .int .i64 it.idx, .string dn]] w (Does w B p c x room l it) := by
  by_cases h : 0 ≤ k
  · exact does_pos k hk it dn w hB H R hn hdn w0 hw0 hch hb0 h
  · exact does_neg k hk it dn w hB H R hn hdn w0 hw0 hch hb0 (by omega)

/-- A deed's cells. -/
def dcells (k : Int) (it : It) (dn : ByteArray) : List Value := [.int .i64 k, .int .i64 it.id, .string it.name, .bool it.pre, .string it.body, .string it.key, .string it.full, .slice it.ca it.cl it.cc, .int .i64 it.time, .int .i64 it.idx, .string dn]

/-- A slice of deeds that came in: what its cells hold. -/
def DeedsAt (w : World) (a : Option Addr) (len : Nat) : Prop :=
  0 < len → ∃ b off, a = some ⟨b, off, none⟩ ∧ b < w.heap.size ∧ ∀ i, i < len → ∃ (k : Int) (it : It) (dn : ByteArray),
    (∀ t u, (dcells k it dn)[t]? = some u → w.cell? ⟨b, off + i * 11 + t, none⟩ = some u) ∧ (Lit.int .i64 k).wf = true ∧ it.name.size ≤ maxLen ∧ dn.size ≤ maxLen ∧ it.cl ≤ maxLen ∧ ∃ ss, StrsAt w it.ca it.cl ss

set_option maxRecDepth 100000 in
set_option maxHeartbeats 400000 in
theorem plays_bad (room : Int) (a : Option Addr) (len cap : Nat) (w : World) (h : room < 1 ∨ 8 < room) :
    Calls Try.prog 3 #[.int .i64 room, .slice a len cap] w fun e w' => e = .returned (.bool true) ∧ Below w.heap.size w w' := by
  go_enter Try.func3, Try.ntmps3
  go_wp2_with fail
  refine (examples_any _).mono ?_
  rintro e w1 ⟨rfl, hb⟩
  go_wp2_with fail
  refine (new_bad room _ h).mono ?_
  rintro e w2 ⟨rfl, rfl⟩
  go_wp2_with fail
  refine (rnew_bad room _ h).mono ?_
  rintro e w2 ⟨rfl, rfl⟩
  go_wp2
  go_ret
  exact ⟨rfl, hb⟩

set_option maxRecDepth 100000 in
set_option maxHeartbeats 2000000 in
theorem plays_good (room : Nat) (h1 : 1 ≤ room) (h8 : room ≤ 8) (a : Option Addr) (len cap : Nat) (hlen : len ≤ maxLen) (w : World) (hD : DeedsAt w a len) :
    Calls Try.prog 3 #[.int .i64 (room : Int), .slice a len cap] w fun e w' => e = .returned (.bool true) ∧ Below w.heap.size w w' := by
  unfold maxLen at hlen
  have HD := Lib.hid hD; clear hD
  go_enter Try.func3, Try.ntmps3
  go_wp2_with fail
  refine (examples_any _).mono ?_
  rintro e w1 ⟨rfl, hb⟩
  go_wp2_with fail
  refine (new_any room _ h1 h8).mono ?_
  rintro e w2 ⟨rfl, hb2, hs2, H2⟩
  obtain ⟨p, hp⟩ : ∃ p, p = w1.heap.size + 2 := ⟨_, rfl⟩
  rw [← hp] at H2 ⊢
  obtain ⟨B, hB⟩ : ∃ B, B = w1.heap.size := ⟨_, rfl⟩
  rw [← hB] at H2
  have hB' : B ≤ w2.heap.size := by omega
  have HB := Lib.hid hB; clear hB
  have HP := Lib.hid hp; clear hp
  have HH := Lib.hid H2; clear H2
  have HS := Lib.hid hs2; clear hs2
  go_wp2_with fail
  refine (rnew_any room _ h1 h8).mono ?_
  rintro e w3 ⟨rfl, hb3, hs3, R3⟩
  obtain ⟨x, hx⟩ : ∃ x, x = w2.heap.size := ⟨_, rfl⟩
  rw [← hx] at R3 ⊢
  have R3 : RP w3 B x room [] none 0 := ⟨by omega, R3.hx, World.ownsRow_nil _ _ _ _, Nat.zero_le _, h8⟩
  have H3 := HH.out.kept (S := []) (KeptBut.of_below hb3) (by simp) (by simp) (by simp)
  have hb13 : Below B w1 w3 := by have h := HB.out; rw [h]; exact hb2.trans (hb3.mono (by omega))
  have HX := Lib.hid hx; clear hx
  have HS3 := Lib.hid hs3; clear hs3
  have H3 := Lib.hid H3
  have R3 := Lib.hid R3
  have hb13 := Lib.hid hb13
  have hwB : w.heap.size ≤ B := by have h := HB.out; have := hb.size; omega
  go_wp2_with fail
  go_loopg [9] 60 (fun g i wr => ∃ (k : Nat) (l : List It) (m : Nat) (va : Option Addr) (vc : Nat), g = 60 - k ∧ k ≤ 60 ∧ k ≤ len ∧ i = .int .i64 (k : Int) ∧ Hid (Pool wr B p B m room l) ∧ Hid (RP wr B x room l va vc) ∧ Hid (Below B w1 wr) ∧ B ≤ wr.heap.size ∧
    Hid (∀ y ∈ l, y.cl ≤ maxLen ∧ ∃ ss, StrsAt w1 y.ca y.cl ss))
  case atStart => exact ⟨0, [], B + 1, none, 0, rfl, by omega, Nat.zero_le _, rfl, by have h := HB.out; rw [h] at H3 ⊢; exact H3, R3, hb13, by have := HS3.out; omega, Lib.hid (fun y hy => by simp at hy)⟩
  case round =>
    obtain ⟨k, l, m, va, vc, hgk, hk60, hkl, rfl, H, R, HBl, hwr, HCH⟩ := hrel
    have HG := Lib.hid hgk; clear hgk
    by_cases hlt : k < len
    · have hd : decide ((k : Int) < (len : Int)) = true := by simp; omega
      by_cases hlt60 : k < 60
      · have hd60 : decide ((k : Int) < 60) = true := by simp; omega
        have hkl' : (k : Int) < (len : Int) := by omega
        obtain ⟨b, off, rfl, hbw, hcell⟩ := HD.out (by omega)
        obtain ⟨kd, it, dn, hc, hkd, hnm, hdn, hcl, ss, hss⟩ := hcell k hlt
        have hcr : ∀ t u, (dcells kd it dn)[t]? = some u → wr.cell? ⟨b, off + k * 11 + t, none⟩ = some u := fun t u hu => by
          rw [(hb.trans (HBl.out.mono hwB)).cell (p := ⟨b, off + k * 11 + t, none⟩) hbw]; exact hc t u hu
        have c0 : wr.cell? ⟨b, off + k * 11, none⟩ = some (.int .i64 kd) := hcr 0 _ rfl
        have c1 := hcr 1 _ rfl
        have c2 := hcr 2 _ rfl
        have c3 := hcr 3 _ rfl
        have c4 := hcr 4 _ rfl
        have c5 := hcr 5 _ rfl
        have c6 := hcr 6 _ rfl
        have c7 := hcr 7 _ rfl
        have c8 := hcr 8 _ rfl
        have c9 := hcr 9 _ rfl
        have c10 := hcr 10 _ rfl
        have hss1 : StrsAt w1 it.ca it.cl ss := strs_cell hss hb (Nat.le_refl _)
        have HSS := Lib.hid hss1; clear hss1 hss
        have HKD := Lib.hid hkd; clear hkd
        clear hcr hc hcell
        go_wp2_with fail
        refine (does_any kd HKD.out it dn wr hwr H.out R.out hnm hdn w1 (by have := HB.out; omega) HCH.out HBl.out).mono ?_
        rintro e w4 ⟨rfl, hb4, l', m', va', vc', H4, R4, hsub⟩
        have hwr4 : B ≤ w4.heap.size := Nat.le_trans hwr hb4.size
        have H4d : ∀ n, Pool (w4.drewN n) B p B m' room l' := fun n => H4.kept (keptBut_drewN [] w4 n) (by simp) (by simp) (by simp)
        have R4d : ∀ n, RP (w4.drewN n) B x room l' va' vc' := fun n => rp_kept R4 (keptBut_drewN [] w4 n) (by simp)
        have r1 : w4.cell? ⟨x, 1, none⟩ = some (.slice va' l'.length vc') := by rw [cell_at R4.hx]; rfl
        have H4d := Lib.hid H4d
        have R4d := Lib.hid R4d
        have HB4 : Hid (Below B w1 w4) := Lib.hid (HBl.out.trans hb4)
        have HC4 : Hid (∀ y ∈ l', y.cl ≤ maxLen ∧ ∃ ss, StrsAt w1 y.ca y.cl ss) := Lib.hid (fun y hy => by
          rcases hsub y hy with h | rfl
          · exact HCH.out y h
          · exact ⟨hcl, ss, HSS.out⟩)
        clear H4 R4 hsub hb4 c0 c1 c2 c3 c4 c5 c6 c7 c8 c9 c10
        go_wp2_with fail
        go_quiet (first | (go_at_call 10; exact Calls.quiet_of_same ((len_any _ (H4d.out _)).mono (fun e w' h => ⟨h.1, h.2.symm⟩))))
        go_wp2
        go_roundg (60 - (k + 1))
        case measure => have := HG.out; omega
        case rel => exact ⟨k + 1, l', m', va', vc', rfl, by omega, hlt, by go_num, Lib.hid (H4d.out _), Lib.hid (R4d.out _), Lib.hid (HB4.out.trans (below_drewN _ _ _)), by simpa using hwr4, HC4⟩
      · have hd60 : decide ((k : Int) < 60) = false := by simp; omega
        go_wp2
        go_ret
        exact ⟨rfl, hb.trans (HBl.out.mono hwB)⟩
    · have hd : decide ((k : Int) < (len : Int)) = false := by simp; omega
      go_wp2
      go_ret
      exact ⟨rfl, hb.trans (HBl.out.mono hwB)⟩
end Go.Proofs.Ytppagjglfpnfbaa
