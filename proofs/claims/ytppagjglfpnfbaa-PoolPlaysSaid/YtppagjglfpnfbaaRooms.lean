/- The walk of the law PoolRooms: it returns true. -/
import Derived.Test.YtppagjglfpnfbaaEx
import Derived.Deep.LoopGhost
import Derived.Laws.BytesArg
namespace Go.Proofs.Ytppagjglfpnfbaa
open Go.RowKit Go.Conc Go.Maps

def nameOf (j : Nat) : ByteArray := ⟨#[UInt8.ofNat j]⟩
theorem name_size (j : Nat) : (nameOf j).size ≤ maxLen := by show 1 ≤ maxLen; decide
def roomList (room k : Nat) : List It := (List.range (min k room)).map fun (j : Nat) => it0 (j : Int) (nameOf j)

theorem roomList_length (room k : Nat) : (roomList room k).length = min k room := by simp [roomList]
theorem nameOf_inj {i j : Nat} (hi : i < 13) (hj : j < 13) (h : nameOf i = nameOf j) : i = j := by
  unfold nameOf at h
  have h1 : UInt8.ofNat i = UInt8.ofNat j := by simpa using h
  have h2 := congrArg UInt8.toNat h1
  simp at h2
  omega
theorem roomList_add (room k : Nat) (h : k < room) : roomList room (k + 1) = roomList room k ++ [it0 k (nameOf k)] := by
  unfold roomList
  rw [show min (k + 1) room = k + 1 from by omega, show min k room = k from by omega, List.range_succ, List.map_append]
  rfl
theorem roomList_full (room k : Nat) (h : room ≤ k) : roomList room (k + 1) = roomList room k := by
  unfold roomList
  rw [show min (k + 1) room = room from by omega, show min k room = room from by omega]
theorem roomList_has (room k i : Nat) (hi : i < 13) (hk : k ≤ 13) : 0 < cnt (nameOf i) (roomList room k) ↔ i < min k room := by
  unfold cnt roomList
  rw [List.length_pos_iff_exists_mem]
  constructor
  · rintro ⟨x, hx⟩
    obtain ⟨hm, hn⟩ := List.mem_filter.1 hx
    obtain ⟨j, hj, rfl⟩ := List.mem_map.1 hm
    have hj' := List.mem_range.1 hj
    have := nameOf_inj (i := j) (j := i) (by omega) hi (by simpa [it0] using of_decide_eq_true hn)
    omega
  · intro h
    exact ⟨it0 i (nameOf i), List.mem_filter.2 ⟨List.mem_map.2 ⟨i, List.mem_range.2 h, rfl⟩, by simp [it0]⟩⟩

theorem byte_string (k : Nat) (W : World) : (convert 48 9 (.slice (some ⟨W.heap.size, 0, none⟩) 1 1)).run Try.prog (W.alloc (.cells #[.int .u8 (k : Int)] 5)) = .ok (.string (nameOf k)) (W.alloc (.cells #[.int .u8 (k : Int)] 5)) := by
  have := run_convert_bytes_arg (P := Try.prog) (W.alloc (.cells #[.int .u8 (k : Int)] 5)) 48 5 Try.underlying48 Try.underlying5 W.heap.size 0 1 1 [(k : Int)] rfl (fun i hi => by
    obtain rfl : i = 0 := by omega
    rw [World.cell?_alloc_at _ _ _ _ rfl]; rfl) 9 Try.underlying9
  rw [this]
  rfl

theorem flat_at (l : List It) (i : Nat) (x : It) (hx : l[i]? = some x) (j : Nat) (u : Value) (hu : x.cells[j]? = some u) : (flat l)[i * 9 + j]? = some u := by
  induction l generalizing i with
  | nil => simp at hx
  | cons y l ih =>
    show (y.cells ++ flat l)[i * 9 + j]? = some u
    cases i with
    | zero =>
      obtain rfl : y = x := by simpa using hx
      rw [List.getElem?_append_left (by have := (List.getElem?_eq_some_iff.1 hu).1; omega), Nat.zero_mul, Nat.zero_add]; exact hu
    | succ i =>
      have e9 : y.cells.length = 9 := rfl
      rw [List.getElem?_append_right (by rw [e9]; omega), e9, show (i + 1) * 9 + j - 9 = i * 9 + j from by omega]
      exact ih i (by simpa using hx)

/-- The slice that Take hands back: its cells, element by element. -/
theorem taken_cells {w : World} {B : Nat} {v : Value} {l : List It} (h : w.ownsRow B 35 9 v l.length (flat l)) :
    ∃ a cap, v = .slice a l.length cap ∧ l.length ≤ cap ∧ (0 < l.length → ∃ g, a = some ⟨g, 0, none⟩ ∧ B ≤ g ∧ g < w.heap.size ∧
      ∀ i x, l[i]? = some x → ∀ j u, x.cells[j]? = some u → w.cell? ⟨g, i * 9 + j, none⟩ = some u) := by
  rcases row_form h with ⟨rfl, hn⟩ | ⟨g, cap, rfl, hb, hg, hc, hcells⟩
  · exact ⟨none, 0, by rw [hn], by omega, fun h => by omega⟩
  · refine ⟨_, cap, rfl, hc, fun _ => ⟨g, rfl, hb, hg, fun i x hx j u hu => hcells _ _ ?_⟩⟩
    exact flat_at l i x hx j u hu

set_option maxRecDepth 100000 in
set_option maxHeartbeats 400000 in
theorem rooms_bad (room : Int) (n : Nat) (h : room < 1 ∨ 8 < room) (w : World) :
    Calls Try.prog 5 #[.int .i64 room, .int .u8 (n : Int)] w fun e w' => e = .returned (.bool true) ∧ Below w.heap.size w w' := by
  rcases h with h | h
  · have hd : decide (1 ≤ room) = false := by simp; omega
    go_enter Try.func5, Try.ntmps5
    go_wp2_with fail
    refine (examples_any _).mono ?_
    rintro e w1 ⟨rfl, hb⟩
    go_wp2_with fail
    refine (new_bad room _ (by omega)).mono ?_
    rintro e w2 ⟨rfl, rfl⟩
    go_wp2
    go_ret
    exact ⟨rfl, hb⟩
  · have hd : decide (room ≤ 8) = false := by simp; omega
    have hd1 : decide (1 ≤ room) = true := by simp; omega
    go_enter Try.func5, Try.ntmps5
    go_wp2_with fail
    refine (examples_any _).mono ?_
    rintro e w1 ⟨rfl, hb⟩
    go_wp2_with fail
    refine (new_bad room _ (by omega)).mono ?_
    rintro e w2 ⟨rfl, rfl⟩
    go_wp2
    go_ret
    exact ⟨rfl, hb⟩

set_option maxRecDepth 100000 in
set_option maxHeartbeats 1000000 in
theorem rooms_good (room : Nat) (n : Nat) (h1 : 1 ≤ room) (h8 : room ≤ 8) (hn : n < 256) (w : World) :
    Calls Try.prog 5 #[.int .i64 (room : Int), .int .u8 (n : Int)] w fun e w' => e = .returned (.bool true) ∧ Below w.heap.size w w' := by
  go_enter Try.func5, Try.ntmps5
  go_wp2_with fail
  refine (examples_any _).mono ?_
  rintro e w1 ⟨rfl, hb⟩
  go_wp2_with fail
  refine (new_any room _ h1 h8).mono ?_
  rintro e w2 ⟨rfl, hb2, hs2, H2⟩
  obtain ⟨p, hp⟩ : ∃ p, p = w1.heap.size + 2 := ⟨_, rfl⟩
  rw [← hp] at H2 ⊢
  obtain ⟨B, hB⟩ : ∃ B, B = w1.heap.size := ⟨_, rfl⟩
  obtain ⟨m, hm⟩ : ∃ m, m = w1.heap.size + 1 := ⟨_, rfl⟩
  rw [← hm, ← hB] at H2
  have HB := Lib.hid hB; clear hB
  have HP := Lib.hid hp; clear hp
  have HM := Lib.hid hm; clear hm
  have HH := Lib.hid H2; clear H2
  have HS := Lib.hid hs2; clear hs2
  go_wp2_with fail
  have hwB : w.heap.size ≤ w1.heap.size := hb.size
  go_loopg [8] 13 (fun g i wr => ∃ k : Nat, g = 13 - k ∧ k ≤ n % 13 ∧ i = .int .i64 (k : Int) ∧ Hid (Pool wr B p B m room (roomList room k)) ∧ Hid (Below w1.heap.size w1 wr))
  case atStart => exact ⟨0, rfl, Nat.zero_le _, rfl, by simpa [roomList] using HH, Lib.hid hb2⟩
  case round =>
    obtain ⟨k, hgk, hk, rfl, H, HBl⟩ := hrel
    have hbs := byte_string k
    have hwr : w1.heap.size ≤ wr.heap.size := HBl.out.size
    by_cases hlt : k < n % 13
    · have hd : decide ((k : Int) < (n : Int) % 13) = true := by simp; omega
      by_cases hroom : k < room
      · have hdr : decide ((k : Int) < (room : Int)) = true := by simp; omega
        have hmn : ¬ ((room : Int) < (k : Int) + 1) := by omega
        go_wp2_with fail
        refine (offer_room0 (k : Int) (nameOf k) (name_size k) _ (H.out.kept (S := []) (KeptBut.of_below ((Below.refl _ _).alloc (Nat.le_refl _) _)) (by simp) (by simp) (by simp)) (by rw [roomList_length]; omega)).mono ?_
        rintro e w3 ⟨rfl, H3, k3⟩
        rw [← roomList_add room k hroom] at H3
        have H3 := Lib.hid H3
        have K3 := Lib.hid k3; clear k3
        go_wp2_with fail
        refine (has_any (nameOf k) (name_size k) _ (H3.out.kept (S := []) (KeptBut.of_below ((Below.refl _ _).alloc (Nat.le_refl _) _)) (by simp) (by simp) (by simp))).mono ?_
        rintro e w4 ⟨rfl, rfl⟩
        rw [show decide (0 < cnt (nameOf k) (roomList room (k + 1))) = true from by rw [decide_eq_true_eq, roomList_has room (k + 1) k (by omega) (by omega)]; omega]
        go_wp2_with fail
        refine (len_any _ (H3.out.kept (S := []) (KeptBut.of_below ((Below.refl _ _).alloc (Nat.le_refl _) _)) (by simp) (by simp) (by simp))).mono ?_
        rintro e w4 ⟨rfl, rfl⟩
        rw [roomList_length, show min (k + 1) room = k + 1 from by omega]
        rw [show ((k + 1 : Nat) : Int) = (k : Int) + 1 from by omega]
        go_wp2
        go_roundg (13 - (k + 1))
        case measure => omega
        case rel => exact ⟨k + 1, rfl, hlt, by go_num, Lib.hid (H3.out.kept (S := []) (KeptBut.of_below ((Below.refl _ _).alloc (Nat.le_refl _) _)) (by simp) (by simp) (by simp)), Lib.hid (by
          have e1 : Below w1.heap.size w1 (wr.alloc (.cells #[.int .u8 (k : Int)] 5)) := HBl.out.alloc hwr _
          have e2 : Below w1.heap.size (wr.alloc (.cells #[.int .u8 (k : Int)] 5)) w3 := K3.out.below (by have := HB.out; have := HP.out; have := HM.out; simp; omega) (by simp; omega)
          exact (e1.trans e2).alloc (Nat.le_trans hwr (by have := K3.out.size; simp at this; omega)) _)⟩
      · have hdr : decide ((k : Int) < (room : Int)) = false := by simp; omega
        have hmn : (room : Int) < (k : Int) + 1 := by omega
        go_wp2_with fail
        refine (offer_full0 (k : Int) (nameOf k) _ (H.out.kept (S := []) (KeptBut.of_below ((Below.refl _ _).alloc (Nat.le_refl _) _)) (by simp) (by simp) (by simp)) (by rw [roomList_length]; omega)).mono ?_
        rintro e w3 ⟨rfl, b3⟩
        have H3 : Pool w3 B p B m room (roomList room (k + 1)) := by
          rw [roomList_full room k (by omega)]
          exact H.out.kept (S := []) (KeptBut.of_below (((Below.refl _ _).alloc (Nat.le_refl _) _).trans (b3.mono (by simp)))) (by simp) (by simp) (by simp)
        have H3 := Lib.hid H3
        have K3 := Lib.hid b3; clear b3
        go_wp2_with fail
        refine (has_any (nameOf k) (name_size k) _ (H3.out.kept (S := []) (KeptBut.of_below ((Below.refl _ _).alloc (Nat.le_refl _) _)) (by simp) (by simp) (by simp))).mono ?_
        rintro e w4 ⟨rfl, rfl⟩
        rw [show decide (0 < cnt (nameOf k) (roomList room (k + 1))) = false from by rw [decide_eq_false_iff_not, roomList_has room (k + 1) k (by omega) (by omega)]; omega]
        go_wp2_with fail
        refine (len_any _ (H3.out.kept (S := []) (KeptBut.of_below ((Below.refl _ _).alloc (Nat.le_refl _) _)) (by simp) (by simp) (by simp))).mono ?_
        rintro e w4 ⟨rfl, rfl⟩
        rw [roomList_length, show min (k + 1) room = room from by omega]
        go_wp2
        go_roundg (13 - (k + 1))
        case measure => omega
        case rel => exact ⟨k + 1, rfl, hlt, by go_num, Lib.hid (H3.out.kept (S := []) (KeptBut.of_below ((Below.refl _ _).alloc (Nat.le_refl _) _)) (by simp) (by simp) (by simp)), Lib.hid (by
          have e1 : Below w1.heap.size w1 (wr.alloc (.cells #[.int .u8 (k : Int)] 5)) := HBl.out.alloc hwr _
          have e2 : Below w1.heap.size (wr.alloc (.cells #[.int .u8 (k : Int)] 5)) w3 := K3.out.mono (by simp; omega)
          exact (e1.trans e2).alloc (Nat.le_trans hwr (by have := K3.out.size; simp at this; omega)) _)⟩
    · obtain rfl : k = n % 13 := by omega
      have hd : decide (((n % 13 : Nat) : Int) < (n : Int) % 13) = false := by simp
      go_wp2_with fail
      refine (take_any wr (by have := HB.out; omega) H.out).mono ?_
      rintro e w3 ⟨v, m3, rfl, hown, hm3, H3, k3⟩
      have H3 := Lib.hid H3
      have K3 := Lib.hid k3; clear k3
      obtain ⟨a, cap, rfl, hcap, hA⟩ := taken_cells hown
      rw [roomList_length] at hcap hA ⊢
      obtain ⟨q, hq⟩ : ∃ q, q = min (n % 13) room := ⟨_, rfl⟩
      have hA : 0 < q → ∃ g, a = some ⟨g, 0, none⟩ ∧ ∀ i, i < q → w3.cell? ⟨g, i * 9, none⟩ = some (.int .i64 (i : Int)) := by
        intro h
        obtain ⟨g, e, _, _, hc⟩ := hA (by omega)
        refine ⟨g, e, fun i hi => hc i (it0 (i : Int) (nameOf i)) ?_ 0 _ rfl⟩
        unfold roomList
        rw [List.getElem?_map, List.getElem?_range (by omega)]
        rfl
      rw [← hq] at hcap ⊢
      have HA := Lib.hid hA; clear hA hown
      have HQ := Lib.hid hq; clear hq
      have hq13 : q ≤ 13 := by have := HQ.out; omega
      go_wp2_with fail
      go_loopg [11] 13 (fun g i wx => w3 = wx ∧ ∃ j : Nat, g = 13 - j ∧ j ≤ q ∧ i = .int .i64 (j : Int))
      case atStart => exact ⟨rfl, 0, rfl, Nat.zero_le _, rfl⟩
      case round =>
        obtain ⟨rfl, j, hgj, hj, rfl⟩ := hrel
        by_cases hjq : j < q
        · have hdj : decide ((j : Int) < (q : Int)) = true := by simp; omega
          obtain ⟨g, rfl, hcell⟩ := HA.out (by omega)
          have hcj := hcell j hjq
          have HA2 := Lib.hid hcell; clear hcell
          go_wp2
          go_roundg (13 - (j + 1))
          case measure => omega
          case rel => exact ⟨rfl, j + 1, rfl, hjq, by go_num⟩
        · have hdj : decide ((j : Int) < (q : Int)) = false := by simp; omega
          have hB3 : B ≤ w3.heap.size := by have h1 := HB.out; have h2 := K3.out.size; omega
          by_cases hmn : room < n % 13
          · have hqr : q = room := by have := HQ.out; omega
            subst hqr
            have hmi : (q : Int) < (n : Int) % 13 := by omega
            go_wp2_with fail
            refine (take_any w3 hB3 H3.out).mono ?_
            rintro e w4 ⟨v4, m4, rfl, hown4, hm4, H4, k4⟩
            obtain ⟨a4, cap4, rfl, _, _⟩ := taken_cells hown4
            clear hown4
            simp only [List.length_nil]
            go_wp2
            go_ret
            refine ⟨rfl, hb.trans ((HBl.out.mono hwB).trans ((K3.out.below ?_ ?_).trans (k4.below ?_ ?_)))⟩
            all_goals (have := HB.out; have := HP.out; have := K3.out.size; simp; omega)
          · have hmi : ¬ (q : Int) < 0 := by omega
            have hqe : ((q : Int) == (n : Int) % 13) = true := by rw [beq_iff_eq]; have := HQ.out; omega
            have hmn' : ¬ ((room : Int) < (n : Int) % 13) := by omega
            go_wp2_with fail
            refine (take_any w3 hB3 H3.out).mono ?_
            rintro e w4 ⟨v4, m4, rfl, hown4, hm4, H4, k4⟩
            obtain ⟨a4, cap4, rfl, _, _⟩ := taken_cells hown4
            clear hown4
            simp only [List.length_nil]
            go_wp2
            go_ret
            refine ⟨rfl, hb.trans ((HBl.out.mono hwB).trans ((K3.out.below ?_ ?_).trans (k4.below ?_ ?_)))⟩
            all_goals (have := HB.out; have := HP.out; have := K3.out.size; simp; omega)
end Go.Proofs.Ytppagjglfpnfbaa
