/- The law PoolPlays, over every room and every list of deeds: a pool does, deed by deed, just what the reference of chapter 22 does (at most 60 deeds). No condition. -/
import Derived.Test.YtppagjglfpnfbaaRows
import Derived.Test.YtppagjglfpnfbaaPlays
import Derived.Test.YtppagjglfpnfbaaRowPoolTakes
import Derived.WalkKit
import Derived.ProofKit
import Derived.OpenShut
import Derived.ShutString
import Derived.SliceStrings
import Derived.ChangeOld
import Derived.Deep.Strs
namespace Go.Proofs.Ytppagjglfpnfbaa.poolPlays
open Go.ChangeShapes Go.WideShapes Go.ChangeAt Go.RowKit
open Go.Proofs.Ytppagjglfpnfbaa.poolTakes (addr_plain add_zero add_plain strsAt_of)
set_option linter.unusedVariables false

theorem own : ownKnob Try.prog.godebug = none := by kernel_rfl
theorem laidOut : laidOutB Try.prog = true := by kernel_rfl
theorem c37 : Try.prog.cellsOf 37 = 11 := by kernel_rfl
theorem c35 : Try.prog.cellsOf 35 = 9 := by kernel_rfl
theorem c33 : Try.prog.cellsOf 33 = 7 := by kernel_rfl
theorem c31 : Try.prog.cellsOf 31 = 1 := by kernel_rfl
theorem c9 : Try.prog.cellsOf 9 = 1 := by kernel_rfl
theorem c4 : Try.prog.cellsOf 4 = 1 := by kernel_rfl
theorem c3 : Try.prog.cellsOf 3 = 1 := by kernel_rfl

section
variable {H : Type} {enc : TypeId × Value → H} {W : World} {base : Nat} {sp : Nat → Bool} {held : Bool}

theorem open_strs {fuel : Nat} {c : Value} {y : DataW H × List MemPlace} (h : DataW.trod enc Try.prog W base sp held fuel 31 [c] = some y) :
    ∃ a len cap, c = .slice a len cap ∧ len ≤ maxLen ∧ ∃ ss, StrsAt W a len ss := by
  rcases open_strings Try.underlying31 Try.underlying9 c9 h with ⟨hcs, _⟩ | ⟨x, l, cp, zs, hcs, _, hl, hm, hz, _, hcell, hwz⟩
  · simp at hcs
    exact ⟨none, 0, 0, hcs, Nat.zero_le _, fun _ => ByteArray.empty, fun h => absurd h (by omega)⟩
  · simp at hcs
    refine ⟨some x, l, cp, hcs, Nat.le_trans hl hm, _, strsAt_of (l := zs) ?_ hcell hwz⟩
    split at hz <;> omega

theorem open_deed {fuel : Nat} {cs : List Value} {y : DataW H × List MemPlace} (h : DataW.trod enc Try.prog W base sp held fuel 37 cs = some y) :
    ∃ (k : Int) (it : It) (dn : ByteArray), cs = dcells k it dn ∧ (Lit.int .i64 k).wf = true ∧ it.name.size ≤ maxLen ∧ dn.size ≤ maxLen ∧ it.cl ≤ maxLen ∧ ∃ ss, StrsAt W it.ca it.cl ss := by
  obtain ⟨y0, y1, y2, n, _, hlen, h0, h1, h2⟩ := Deep.trod_struct3 Try.underlying37 h
  rw [c37] at hlen
  obtain ⟨d0, d1, d2, d3, d4, d5, d6, d7, d8, d9, d10, rfl⟩ : ∃ d0 d1 d2 d3 d4 d5 d6 d7 d8 d9 d10 : Value, cs = [d0, d1, d2, d3, d4, d5, d6, d7, d8, d9, d10] := by
    match cs, hlen with
    | [d0, d1, d2, d3, d4, d5, d6, d7, d8, d9, d10], _ => exact ⟨_, _, _, _, _, _, _, _, _, _, _, rfl⟩
  simp only [c3, c35, c9, List.drop_zero, List.drop_succ_cons, List.take_succ_cons, List.take_zero] at h0 h1 h2
  obtain ⟨k, e0, _, wk⟩ := DataW.trod_int Try.underlying3 h0
  obtain ⟨dn, e10, _, wdn⟩ := DataW.trod_string Try.underlying9 h2
  obtain ⟨z0, z1, z2, n', _, _, g0, g1, g2⟩ := Deep.trod_struct3 Try.underlying35 h1
  simp only [c3, c33, c9, List.drop_zero, List.drop_succ_cons, List.take_succ_cons, List.take_zero] at g0 g1 g2
  obtain ⟨id, e1, _, _⟩ := DataW.trod_int Try.underlying3 g0
  obtain ⟨nm, e2, _, wnm⟩ := DataW.trod_string Try.underlying9 g1
  obtain ⟨xs, n'', _, _, _, hxl, hf⟩ := DataW.trod_struct Try.underlying33 g2
  have hx7 : xs.length = 7 := hxl
  have some_of : ∀ i, i < 7 → ∃ u, xs[i]? = some u := fun i hi => ⟨_, List.getElem?_eq_getElem (by omega)⟩
  obtain ⟨u0, q0⟩ := some_of 0 (by omega)
  obtain ⟨u1, q1⟩ := some_of 1 (by omega)
  obtain ⟨u2, q2⟩ := some_of 2 (by omega)
  obtain ⟨u3, q3⟩ := some_of 3 (by omega)
  obtain ⟨u4, q4⟩ := some_of 4 (by omega)
  obtain ⟨u5, q5⟩ := some_of 5 (by omega)
  obtain ⟨u6, q6⟩ := some_of 6 (by omega)
  have f0 : DataW.trod enc Try.prog W base sp held n'' 4 (([d3, d4, d5, d6, d7, d8, d9].drop 0).take (Try.prog.cellsOf 4)) = xs[0]? := hf 0 _ rfl
  have f1 : DataW.trod enc Try.prog W base sp held n'' 9 (([d3, d4, d5, d6, d7, d8, d9].drop 1).take (Try.prog.cellsOf 9)) = xs[1]? := hf 1 _ rfl
  have f2 : DataW.trod enc Try.prog W base sp held n'' 9 (([d3, d4, d5, d6, d7, d8, d9].drop 2).take (Try.prog.cellsOf 9)) = xs[2]? := hf 2 _ rfl
  have f3 : DataW.trod enc Try.prog W base sp held n'' 9 (([d3, d4, d5, d6, d7, d8, d9].drop 3).take (Try.prog.cellsOf 9)) = xs[3]? := hf 3 _ rfl
  have f4 : DataW.trod enc Try.prog W base sp held n'' 31 (([d3, d4, d5, d6, d7, d8, d9].drop 4).take (Try.prog.cellsOf 31)) = xs[4]? := hf 4 _ rfl
  have f5 : DataW.trod enc Try.prog W base sp held n'' 3 (([d3, d4, d5, d6, d7, d8, d9].drop 5).take (Try.prog.cellsOf 3)) = xs[5]? := hf 5 _ rfl
  have f6 : DataW.trod enc Try.prog W base sp held n'' 3 (([d3, d4, d5, d6, d7, d8, d9].drop 6).take (Try.prog.cellsOf 3)) = xs[6]? := hf 6 _ rfl
  rw [q0] at f0; rw [q1] at f1; rw [q2] at f2; rw [q3] at f3; rw [q4] at f4; rw [q5] at f5; rw [q6] at f6
  simp only [c4, c9, c31, c3, List.drop_zero, List.drop_succ_cons, List.take_succ_cons, List.take_zero] at f0 f1 f2 f3 f4 f5 f6
  obtain ⟨pre, e3, _⟩ := DataW.trod_bool Try.underlying4 f0
  obtain ⟨body, e4, _, _⟩ := DataW.trod_string Try.underlying9 f1
  obtain ⟨key, e5, _, _⟩ := DataW.trod_string Try.underlying9 f2
  obtain ⟨full, e6, _, _⟩ := DataW.trod_string Try.underlying9 f3
  obtain ⟨ca, cl, cc, e7, hcl, ss, hss⟩ := open_strs f4
  obtain ⟨time, e8, _, _⟩ := DataW.trod_int Try.underlying3 f5
  obtain ⟨idx, e9, _, _⟩ := DataW.trod_int Try.underlying3 f6
  simp only [List.cons.injEq, and_true] at e0 e1 e2 e3 e4 e5 e6 e8 e9 e10
  subst e0 e1 e2 e3 e4 e5 e6 e7 e8 e9 e10
  exact ⟨k, ⟨id, nm, pre, body, key, full, ca, cl, cc, time, idx⟩, dn, rfl, wk, wnm, wdn, hcl, ss, hss⟩

theorem open_deeds {fuel : Nat} {a : Option Addr} {len cap : Nat} {y : DataW H × List MemPlace} (h : DataW.trod enc Try.prog W base sp held fuel 22 [.slice a len cap] = some y) : len ≤ maxLen ∧ DeedsAt W a len := by
  rcases DataW.trod_slice Try.underlying22 h with ⟨hcs, _⟩ | ⟨x, l, cp, elems, rest, n, _, hcs, _, hbx, hl, hm, hel, hget, _⟩
  · simp at hcs
    obtain ⟨rfl, rfl, rfl⟩ := hcs
    exact ⟨Nat.zero_le _, fun h => absurd h (by omega)⟩
  · simp at hcs
    obtain ⟨rfl, rfl, rfl⟩ := hcs
    refine ⟨Nat.le_trans hl hm, fun h0 => ?_⟩
    have each : ∀ i, i < len → ∃ (k : Int) (it : It) (dn : ByteArray), (∀ t u, (dcells k it dn)[t]? = some u → W.cell? ((x.add (i * 11)).add t) = some u) ∧ (Lit.int .i64 k).wf = true ∧ it.name.size ≤ maxLen ∧ dn.size ≤ maxLen ∧ it.cl ≤ maxLen ∧ ∃ ss, StrsAt W it.ca it.cl ss := by
      intro i hi
      have hg := hget i hi
      rw [List.getElem?_eq_getElem (by omega), c37] at hg
      obtain ⟨cs, hcs, ht⟩ := Option.bind_eq_some_iff.1 hg
      obtain ⟨k, it, dn, rfl, h1, h2, h3, h4, h5⟩ := open_deed ht
      refine ⟨k, it, dn, fun t u hu => ?_, h1, h2, h3, h4, h5⟩
      obtain ⟨_, hlen, hc⟩ := World.cells?_some hcs
      have htl : t < 11 := by have := (List.getElem?_eq_some_iff.1 hu).1; simpa [dcells] using this
      have := hc t htl
      rw [hu] at this
      exact this
    obtain ⟨k0, it0, dn0, hc0, _⟩ := each 0 (by omega)
    obtain ⟨hx, hlt⟩ := addr_plain (hc0 0 _ rfl)
    rw [Nat.zero_mul, add_zero, add_zero] at hx hlt
    refine ⟨x.block, x.off, by rw [← hx], hlt, fun i hi => ?_⟩
    obtain ⟨k, it, dn, hc, r⟩ := each i hi
    refine ⟨k, it, dn, fun t u hu => ?_, r⟩
    have := hc t u hu
    rw [hx, poolTakes.add_plain, poolTakes.add_plain] at this
    exact this
end

set_option maxRecDepth 100000 in
theorem lifted (os : Os) (started : os.Started) (H : Type) (enc : TypeId × Value → H) :
    ReturnsInHanded {} Try.checked os 3 .any (Rows.poolPlaysSpec.pre6 enc Try.prog Try.f3 Rows.poolPlaysRow.domain false) (Rows.poolPlaysSpec.post enc Try.prog Try.f3 false true false false) := by
  refine returnsInHanded_of_change (C := Try.checked) own started (by kernel_rfl) Try.func3
    (ChangeSpec.witness6 (enc := enc) (C := Try.checked) false ⟨#[], #[.int .i64 0, .slice none 0 0], []⟩ 8 (by kernel_rfl) (by kernel_rfl) (by kernel_rfl) (by kernel_rfl)) ?_
  intro W base args ds gs before hval0 hW hcnd _
  have hval : ∀ (j : Nat) t v, Try.f3.params[j]? = some t → args[j]? = some v → Value.okWide Try.prog W .any base t v := hval0
  have hW' := hW
  obtain ⟨p, q, hA0, hV, rfl, hfz, hnd⟩ := hW
  have hA : DataW.TrodAll enc Try.prog W 0 (fun _ => true) true Try.f3.params.toList args.toList ds p := hA0
  rw [Try.params3] at hA hval
  obtain ⟨v0, vs0, d0, ds0, p0, q0, hargs, rfl, rfl, h0, r0⟩ := trodAll_cons hA
  obtain ⟨v1, vs1, d1, ds1, p1, q1, rfl, rfl, rfl, h1, r1⟩ := trodAll_cons r0
  obtain ⟨rfl, rfl, rfl⟩ := trodAll_nil r1
  obtain rfl : args = #[v0, v1] := by cases args; simp_all
  obtain ⟨rfl, rfl⟩ := trodVars_none hV
  obtain ⟨a0, rfl, rfl, rfl, w0⟩ := open_int Try.underlying3 (hval 0 3 v0 rfl rfl) h0
  obtain ⟨a1, len1, cap1, rfl⟩ := okWide_slice Try.underlying22 (hval 1 22 v1 rfl rfl)
  have k1 := h1
  have lt1 : ∀ x ∈ p1, x.block < W.heap.size := by obtain ⟨m, hm⟩ := k1; exact DataW.trod_lt m _ _ _ hm
  obtain ⟨hlen, hD⟩ : len1 ≤ maxLen ∧ DeedsAt W a1 len1 := by
    obtain ⟨fuel, hf⟩ := h1
    exact open_deeds (by simpa [Value.cells] using hf)
  clear hA0 hval0
  have hwalk : Calls Try.prog 3 #[.int .i64 a0, .slice a1 len1 cap1] W fun e w' => e = .returned (.bool true) ∧ Below W.heap.size W w' := by
    by_cases h : a0 < 1 ∨ 8 < a0
    · exact plays_bad a0 a1 len1 cap1 W h
    · obtain ⟨r, rfl⟩ := Int.eq_ofNat_of_zero_le (a := a0) (by omega)
      exact plays_good r (by omega) (by omega) a1 len1 cap1 hlen W hD
  refine hwalk.mono fun e W' ⟨he, bel⟩ => ?_
  subst he
  exact ⟨_, rfl, _, _, _, [], _, [], hW', trodAll_mk1 (shut_bool Try.underlying4 _), (trodAll_cons_mk (shut_int Try.underlying3 w0) (trodAll_cons_mk (Below.trod laidOut (by kernel_rfl) (of_decide_eq_true (by kernel_rfl)) k1 bel lt1) trodAll_mk0)), rfl, bel.frame _, fun h => by cases h⟩

theorem over : Rows.poolPlaysRow.holds Try.pinned (OpenSpec.ofChange Rows.poolPlaysSpec) :=
  OpenClaim.holds_of_wide 3 Try.f3 rfl rfl rfl rfl rfl rfl rfl ⟨rfl, rfl, rfl, rfl, rfl⟩ rfl rfl rfl rfl rfl (by kernel_rfl) Try.func3 (by kernel_rfl)
    (of_decide_eq_true (by kernel_rfl)) (by unfold Func.isWrapper; first | (rw [if_pos (by decide +kernel)]; kernel_rfl) | (rw [if_neg (by decide +kernel)]; exact ⟨rfl, rfl⟩))
    (fun os started H enc _ => lifted os started H enc)

theorem proved : Rows.PoolPlaysSaid := over
#print axioms proved
end Go.Proofs.Ytppagjglfpnfbaa.poolPlays
