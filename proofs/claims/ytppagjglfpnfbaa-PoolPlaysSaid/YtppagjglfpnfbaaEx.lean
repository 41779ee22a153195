/- The walk of examples of package engrosserlaw22: it returns true. -/
import Derived.Test.YtppagjglfpnfbaaTake
namespace Go.Proofs.Ytppagjglfpnfbaa
open Go.RowKit Go.Conc Go.Maps

/-- An item of a number and a name. -/
def it0 (id : Int) (nm : ByteArray) : It := ⟨id, nm, false, ⟨#[]⟩, ⟨#[]⟩, ⟨#[]⟩, none, 0, 0, 0, 0⟩

theorem offer_room0 {B p c m room : Nat} {l : List It} (id : Int) (nm : ByteArray) (hx : nm.size ≤ maxLen) (w : World) (H : Pool w B p c m room l) (hroom : l.length < room) :
    Calls Try.prog 11 #[.pointer (some ⟨p, 0, none⟩), .agg #[.int .i64 id, .string nm, .bool false, .string ⟨#[]⟩, .string ⟨#[]⟩, .string ⟨#[]⟩, .slice none 0 0, .int .i64 0, .int .i64 0]] w fun e w' => e = .returned (.int .i64 0) ∧ Pool w' B p c m room (l ++ [it0 id nm]) ∧ KeptBut [p, c, m] w w' :=
  offer_room (it0 id nm) hx w H hroom
theorem offer_full0 {B p c m room : Nat} {l : List It} (id : Int) (nm : ByteArray) (w : World) (H : Pool w B p c m room l) (hfull : room ≤ l.length) :
    Calls Try.prog 11 #[.pointer (some ⟨p, 0, none⟩), .agg #[.int .i64 id, .string nm, .bool false, .string ⟨#[]⟩, .string ⟨#[]⟩, .string ⟨#[]⟩, .slice none 0 0, .int .i64 0, .int .i64 0]] w fun e w' => e = .returned (.int .i64 4) ∧ Below w.heap.size w w' :=
  offer_full (it0 id nm) w H hfull

/-- The slice that Take hands back, by its form. -/
theorem row_form {w : World} {B n : Nat} {v : Value} {xs : List Value} (h : w.ownsRow B 35 9 v n xs) :
    (v = .slice none 0 0 ∧ n = 0) ∨ ∃ g cap, v = .slice (some ⟨g, 0, none⟩) n cap ∧ B ≤ g ∧ g < w.heap.size ∧ n ≤ cap ∧ ∀ j u, xs[j]? = some u → w.cell? ⟨g, j, none⟩ = some u := by
  rcases h.2 with ⟨rfl, hn⟩ | ⟨g, cap, cur, rfl, hb, hg, hc, hr⟩
  · exact .inl ⟨rfl, hn⟩
  · refine .inr ⟨g, cap, rfl, hb, (Array.getElem?_eq_some_iff.1 hg).1, hc, fun j u hu => ?_⟩
    have := h.cells (g := g) rfl j u hu
    have hadd : (⟨g, 0, none⟩ : Addr).add j = ⟨g, j, none⟩ := by unfold Addr.add; split <;> simp_all
    rwa [hadd] at this

set_option maxRecDepth 100000 in
set_option maxHeartbeats 400000 in
theorem examples_any (w : World) :
    Calls Try.prog 6 #[] w fun e w' => e = .returned (.bool true) ∧ Below w.heap.size w w' := by
  have n1 := new_any 1 w (by omega) (by omega)
  rw [show ((1 : Nat) : Int) = 1 from rfl] at n1
  have N1 := Lib.hid n1; clear n1
  go_enter Try.func6, Try.ntmps6
  go_wp2_with fail
  refine N1.out.mono ?_
  rintro e w1 ⟨rfl, hb1, hs1, H1⟩
  have H1 := Lib.hid H1
  have hs1 := Lib.hid hs1
  go_wp2_with fail
  refine (new_bad 0 _ (by omega)).mono ?_
  rintro e w2 ⟨rfl, rfl⟩
  go_wp2_with fail
  refine (offer_room0 5 ⟨#[110]⟩ (by decide) _ H1.out (by simp)).mono ?_
  rintro e w2 ⟨rfl, H2, k2⟩
  have H2 := Lib.hid H2
  go_wp2_with fail
  refine (offer_full0 6 ⟨#[]⟩ _ H2.out (by simp)).mono ?_
  rintro e w3 ⟨rfl, b3⟩
  have hs2 : w.heap.size ≤ w2.heap.size := by have := k2.size; have := hs1.out; omega
  have H3 : Pool w3 _ _ _ _ _ _ := H2.out.kept (S := []) (KeptBut.of_below b3) (by simp) (by simp) (by simp)
  have H3 := Lib.hid H3
  have hs3 : w.heap.size ≤ w3.heap.size := Nat.le_trans hs2 b3.size
  go_wp2_with fail
  refine (take_any w3 hs3 H3.out).mono ?_
  rintro e w4 ⟨v, m4, rfl, hown, hm4, H4, k4⟩
  rcases row_form hown with ⟨_, hn⟩ | ⟨g, cap, rfl, hbg, hgl, hcap, hcells⟩
  · simp at hn
  have hc0 : w4.cell? ⟨g, 0, none⟩ = some (.int .i64 5) := hcells 0 _ rfl
  have H4 := Lib.hid H4
  clear hcells hown
  simp only [List.nil_append, List.length_cons, List.length_nil, Nat.zero_add] at hcap ⊢
  go_wp2_with fail
  refine (len_any _ H4.out).mono ?_
  rintro e w5 ⟨rfl, rfl⟩
  go_wp2
  go_ret
  refine ⟨rfl, hb1.trans ((k2.below ?_ ?_).trans ((b3.mono hs2).trans (k4.below ?_ hs3)))⟩
  · simp
  · have := hs1.out; omega
  · simp
end Go.Proofs.Ytppagjglfpnfbaa
