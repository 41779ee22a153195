/- What Open of package inflate does. -/
import Derived.Test.YtcgcacegkbbmiaaOpenV
import Derived.Laws.IdiomStrings
import Derived.Laws.BytesArg
import Derived.Laws.EntriesVeiled
namespace Go.Proofs.Ytcgcacegkbbmiaa
open Go.RowKit

theorem bytes_get {l : List UInt8} {j : Nat} (hj : j < l.length) : (bytes l)[j]? = some (.int .u8 (l[j].toNat : Int)) := by
  unfold bytes
  rw [List.getElem?_map, List.getElem?_eq_getElem hj]; rfl
/-- What was said, as a string. -/
theorem Rd.str {w : World} {B p most : Nat} {s : ByteArray} {r : St} {va : Option Addr} {vc : Nat} (h : Rd w B p s most r va vc) : (convert 36 9 (.slice va r.out.length vc)).run Try.prog w = .ok (.string ⟨r.out.toArray⟩) w := by
  rcases h.own.2 with ⟨hv, h0⟩ | ⟨g, cap, cur, hv, hb, hg, hc, _, _, hx⟩
  · simp at hv
    obtain ⟨rfl, h1, rfl⟩ := hv
    have hn : r.out = [] := List.length_eq_zero_iff.1 (by omega)
    rw [hn]
    exact run_convert_bytes_nil w 36 5 Try.underlying36 Try.underlying5 _ _ 9 Try.underlying9
  · simp at hv
    obtain ⟨rfl, rfl⟩ := hv
    refine run_convert_bytes_back w 36 9 5 ⟨g, 0, none⟩ vc r.out Try.underlying36 Try.underlying5 Try.underlying9 (fun j hj => ?_)
    have hadd : (⟨g, 0, none⟩ : Addr).add j = ⟨g, j, none⟩ := by unfold Addr.add; split <;> simp_all
    rw [hadd, cell_at hg]
    have := bytes_get hj
    rw [← hx, List.getElem?_take, if_pos (by omega)] at this
    rw [← Array.getElem?_toList]; exact this

/-- The round of the blocks. -/
structure Ol (wr : World) (B p : Nat) (s : ByteArray) (most : Nat) (w : World) (g : Nat) (r : St) (va : Option Addr) (vc : Nat) : Prop where
  rd : Rd wr B p s most r va vc
  kept : Below B w wr
  big : B ≤ wr.heap.size
  eq : opened s most = openLoop s most g r
  ok : r.err = 0
  left : 8 * s.size < g + r.pos

theorem Below.drewN' (B : Nat) (w : World) (n : Nat) : Below B w (w.drewN n) := ⟨rfl, rfl, rfl, Nat.le_refl _, fun _ _ => rfl⟩

set_option maxRecDepth 100000 in
set_option maxHeartbeats 4000000 in
theorem open_any {s : ByteArray} (k : Int) (hs : 8 * s.size < 4611686018427387904) (w : World) :
    Calls Try.prog 10 #[.string s, .int .i64 k] w fun e w' => e = .returned (.tuple #[.string ⟨(openV s k).1.toArray⟩, .int .i64 ((openV s k).2.1 : Int), .int .i64 (openV s k).2.2]) ∧ Below w.heap.size w w' := by
  have hmf : ∀ (fn : Fn) (first cap : Array Value) (w : World), (Instr.makeFunc fn first cap).run Try.prog w = .ok (.func fn first cap) w := fun _ _ _ _ => rfl
  by_cases hbad : k < 0 ∨ 1048576 < k
  · have hV : openV s k = ([], 0, 1) := by unfold openV; rw [if_pos hbad]
    rw [hV]
    go_enter Try.func10, Try.ntmps10
    go_wp2_with fail
    go_step3
    by_cases h0 : k < 0
    · have hd1 : decide (k < 0) = true := by simp [h0]
      go_wp2_with fail
      (try rw [Exit.noGoto_ret])
      go_ret3
      exact ⟨rfl, Below.refl _ _⟩
    · have hd1 : decide (k < 0) = false := by simp [h0]
      have hd2 : decide ((1048576 : Int) < k) = true := by simp; omega
      go_wp2_with fail
      (try rw [Exit.noGoto_ret])
      go_ret3
      exact ⟨rfl, Below.refl _ _⟩
  · obtain ⟨most, rfl⟩ : ∃ m : Nat, k = m := ⟨k.toNat, by omega⟩
    have hm : most ≤ 1048576 := by omega
    have hd1 : decide ((most : Int) < 0) = false := by simp
    have hd2 : decide ((1048576 : Int) < (most : Int)) = false := by simp; omega
    have hV : openV s most = if (opened s most).err = 0 then ((opened s most).out, ((opened s most).pos + 7) / 8, 0) else ([], 0, (opened s most).err) := by
      unfold openV; rw [if_neg hbad, Int.toNat_natCast]
    have HV := Lib.hid hV; clear hV
    clear hbad
    go_enter Try.func10, Try.ntmps10
    go_wp2_with fail
    go_step3
    go_wp2_with fail
    go_step3
    go_wp2_with fail
    obtain ⟨p, hp⟩ : ∃ p, p = w.heap.size := ⟨_, rfl⟩
    rw [← hp]
    generalize hW : World.alloc _ _ = W
    have RW : Rd W p p s most ⟨0, [], 0⟩ none 0 := ⟨Nat.le_refl _, by rw [← hW, hp]; exact heap_alloc_new _ _, World.ownsRow_nil _ _ _ _, by simp, by simp⟩
    have BW : Below p w W := by rw [← hW]; exact (Below.refl _ _).alloc (by omega) _
    have O0 : Hid (Ol W p p s most w (8 * s.size + 1) ⟨0, [], 0⟩ none 0) := Lib.hid ⟨RW, BW, by have := RW.lt; omega, rfl, rfl, by simp⟩
    have HP := Lib.hid hp; clear hp hW RW BW
    go_loopg [8, 9, 10] (8 * s.size + 1) (fun g _ _ _ wr => ∃ r va vc, Hid (Ol wr p p s most w g r va vc))
    case atStart => exact ⟨_, _, _, O0⟩
    case round =>
      obtain ⟨r, va, vc, O⟩ := hrel
      have hpl := O.out.rd.lt
      obtain ⟨q, hq⟩ : ∃ q, gk = q + 1 := ⟨gk - 1, by have := O.out.left; have := O.out.rd.pos; omega⟩
      have hn := number_any 1 (by omega) hs wr O.out.rd
      have hal : (num s 1 r).1 < 2 := num_lt s 1 r
      have heq : opened s most = (if (blockHead s r).2.2.err = 0 then (if (blockHead s r).1 ≠ 0 ∨ (kindly s most (blockHead s r).2.1 (blockHead s r).2.2).err ≠ 0 then kindly s most (blockHead s r).2.1 (blockHead s r).2.2 else openLoop s most q (kindly s most (blockHead s r).2.1 (blockHead s r).2.2)) else (blockHead s r).2.2) := by
        rw [O.out.eq, hq]; rfl
      have hbh : ∀ x, x = (if 3 ≤ (num s 2 (num s 1 r).2).1 then fail (num s 2 (num s 1 r).2).2 2 else (num s 2 (num s 1 r).2).2) → blockHead s r = ((num s 1 r).1, (num s 2 (num s 1 r).2).1, x) := fun x hx => by rw [hx]; rfl
      have HMP : Hid (Mono s (blockHead s r).2.2 (kindly s most (blockHead s r).2.1 (blockHead s r).2.2)) := Lib.hid (mono_kindly _ _ _ _)
      have HHO : Hid ((blockHead s r).2.2.err = 0 → (blockHead s r).2.2.pos = r.pos + 3 ∧ r.err = 0 ∧ (blockHead s r).2.1 < 3) := Lib.hid blockHead_ok
      obtain ⟨A, hA⟩ : ∃ A, A = num s 1 r := ⟨_, rfl⟩
      rw [← hA] at hn hal hbh
      have HA := Lib.hid hA; clear hA
      have HN := Lib.hid hn; clear hn
      have HQ := Lib.hid hq; clear hq
      have HEQ := Lib.hid heq; clear heq
      go_wp2_with fail
      refine HN.out.mono ?_
      rintro e w1 ⟨rfl, R1, k1⟩
      have R1 := Lib.hid R1
      have K1 := Lib.hid k1; clear k1
      go_wp2_with fail
      obtain ⟨g1, hg1⟩ : ∃ g, g = w1.heap.size := ⟨_, rfl⟩
      rw [← hg1]
      generalize hW1 : World.alloc _ _ = W1
      have kW : KeptBut [] w1 W1 := by rw [← hW1]; exact (KeptBut.refl _ _).alloc _
      have cW : W1.heap[g1]? = some (.cells #[.func (Fn.func 18) #[.pointer (some ⟨p, 0, none⟩)] #[], .func (Fn.func 19) #[.pointer (some ⟨p, 0, none⟩)] #[], .func (Fn.func 20) #[.pointer (some ⟨p, 0, none⟩)] #[]] 1) := by rw [← hW1, hg1]; exact heap_alloc_new _ _
      have hgp : g1 ≠ p := by have := R1.out.lt; omega
      obtain ⟨bk, r2, hB⟩ : ∃ bk r2, (bk, r2) = num s 2 A.2 := ⟨_, _, rfl⟩
      have hn2 := number_any 2 (by omega) hs W1 (R1.out.kept kW (by simp) (by simp))
      have hbl : (num s 2 A.2).1 < 4 := num_lt s 2 A.2
      rw [← hB] at hn2 hbl hbh
      have HB := Lib.hid hB; clear hB
      have HN2 := Lib.hid hn2; clear hn2 hW1
      have hn3 := Lib.hid hg1; clear hg1
      refine HN2.out.mono ?_
      rintro e w2 ⟨rfl, R2', k2⟩
      have R2 : Rd w2 p p s most r2 va vc := R2'
      clear R2'
      have c2 : w2.heap[g1]? = some (.cells #[.func (Fn.func 18) #[.pointer (some ⟨p, 0, none⟩)] #[], .func (Fn.func 19) #[.pointer (some ⟨p, 0, none⟩)] #[], .func (Fn.func 20) #[.pointer (some ⟨p, 0, none⟩)] #[]] 1) := (k2.block g1 (Array.getElem?_eq_some_iff.1 cW).1 (by simp; exact hgp)).trans cW
      have KB : Below p w w2 := O.out.kept.trans ((K1.out.below (by simp) O.out.big).trans (((kW.mono (T := [p]) (by simp)).below (by simp) (by have := R1.out.lt; omega)).trans (k2.below (by simp) (by have := k2.size; have := kW.size; have := R1.out.lt; omega))))
      have hp2 : p ≤ w2.heap.size := by have := R2.lt; omega
      have e4 := R2.c4
      have R2 := Lib.hid R2
      have KB := Lib.hid KB
      clear k2 kW cW
      have hbk : bk < 4 := hbl
      clear hbl
      by_cases h3 : 3 ≤ bk
      · have hge : decide ((3 : Int) ≤ (bk : Int)) = true := by simp; omega
        have hbh := hbh (fail r2 2) (by rw [if_pos h3])
        have hfe : (fail r2 2).err ≠ 0 := fail_err_ne (by decide)
        have hop : opened s most = fail r2 2 := by rw [HEQ.out, hbh, if_neg hfe]
        have hres : openV s most = ([], 0, (fail r2 2).err) := by rw [HV.out, hop, if_neg hfe]
        have HRES := Lib.hid hres; clear hres hop hbh
        clear e4 HEQ HV HMP HHO
        go_wp2_with fail
        refine (fail_any 2 _ R2.out).mono ?_
        rintro e w3 ⟨rfl, R3, k3⟩
        have e4 := R3.c4
        have hne : ((fail r2 2).err != 0) = true := by simp [hfe]
        have KB3 := Lib.hid (KB.out.trans (k3.below (by simp) hp2)); clear k3
        have R3 := Lib.hid R3
        go_wp2_with fail
        go_quiet (fail)
        go_wp2
        (try rw [Exit.noGoto_ret])
        go_ret3
        exact ⟨by rw [HRES.out]; rfl, by rw [← HP.out]; exact KB3.out.trans (Below.drewN' _ _ _)⟩
      · have hge : decide ((3 : Int) ≤ (bk : Int)) = false := by simp; omega
        have hbh := hbh r2 (by rw [if_neg h3])
        rw [hbh] at HEQ HMP HHO
        clear hbh
        by_cases he : r2.err = 0
        · have hne : (r2.err != 0) = false := by simp [he]
          have heq := HEQ.out
          rw [if_pos he] at heq
          have HEQ2 : Hid (opened s most = (if A.1 ≠ 0 ∨ (kindly s most bk r2).err ≠ 0 then kindly s most bk r2 else openLoop s most q (kindly s most bk r2))) := Lib.hid heq
          clear heq HEQ
          have hkinds : bk = 0 ∨ bk = 1 ∨ bk = 2 := by omega
          rcases hkinds with rfl | rfl | rfl
          case' inl =>
            have cf : w2.cell? ⟨g1, 0, none⟩ = some (.func (Fn.func 18) #[.pointer (some ⟨p, 0, none⟩)] #[]) := by rw [cell_at c2]; rfl
            have hk := stored_any hs hm w2 hp2 R2.out
            rw [show stored s most r2 = kindly s most 0 r2 from rfl] at hk
            have HK := Lib.hid hk; clear hk c2
          case' inr.inl =>
            have cf : w2.cell? ⟨g1, 1, none⟩ = some (.func (Fn.func 19) #[.pointer (some ⟨p, 0, none⟩)] #[]) := by rw [cell_at c2]; rfl
            have hk := fixed_any hs hm w2 hp2 R2.out
            rw [show block s most fixedL fixedD r2 = kindly s most 1 r2 from rfl] at hk
            have HK := Lib.hid hk; clear hk c2
          case' inr.inr =>
            have cf : w2.cell? ⟨g1, 2, none⟩ = some (.func (Fn.func 20) #[.pointer (some ⟨p, 0, none⟩)] #[]) := by rw [cell_at c2]; rfl
            have hk := dynamic_any hs hm w2 hp2 R2.out
            rw [show dynamic s most r2 = kindly s most 2 r2 from rfl] at hk
            have HK := Lib.hid hk; clear hk c2
          all_goals
            go_wp2_with fail
            refine HK.out.mono ?_
            rintro e w3 ⟨rfl, va3, vc3, R3, M3⟩
            have HMP2 := Lib.hid (HMP.out R2.out.pos)
            have HHO2 := Lib.hid (HHO.out he)
            generalize kindly s most _ _ = D at R3 HEQ2 HMP2
            have d4 := R3.c4
            have KB3 : Below p w w3 := KB.out.trans (M3.kept.below (fun k hk => by
              rcases List.mem_cons.1 hk with rfl | hb
              · exact Nat.le_refl _
              · exact (R2.out.blk_lt hb).1) hp2)
            have hp3 : p ≤ w3.heap.size := by have := R3.lt; omega
            have KB3 := Lib.hid KB3
            clear M3
            by_cases hd : D.err = 0
            case' neg =>
              have hdn : (D.err != 0) = true := by simp [hd]
              have hop : opened s most = D := by rw [HEQ2.out, if_pos (.inr hd)]
              have hres : openV s most = ([], 0, D.err) := by rw [HV.out, hop, if_neg hd]
              have HRES := Lib.hid hres; clear hres hop
              by_cases hl : A.1 = 0
              · have hln : ((A.1 : Int) != 0) = false := by simp [hl]
                have R3 := Lib.hid R3
                go_wp2_with fail
                (try rw [Exit.noGoto_normal])
                go_wp2_with fail
                go_quiet (fail)
                go_wp2
                (try rw [Exit.noGoto_ret])
                go_ret3
                exact ⟨by rw [HRES.out]; rfl, by rw [← HP.out]; exact KB3.out.trans (Below.drewN' _ _ _)⟩
              · have hln : ((A.1 : Int) != 0) = true := by simp [hl]
                have R3 := Lib.hid R3
                go_wp2_with fail
                (try rw [Exit.noGoto_normal])
                go_wp2_with fail
                go_quiet (fail)
                go_wp2
                (try rw [Exit.noGoto_ret])
                go_ret3
                exact ⟨by rw [HRES.out]; rfl, by rw [← HP.out]; exact KB3.out.trans (Below.drewN' _ _ _)⟩
            case' pos =>
              have hdn : (D.err != 0) = false := by simp [hd]
              by_cases hl : A.1 = 0
              · have hln : ((A.1 : Int) != 0) = false := by simp [hl]
                have hop : opened s most = openLoop s most q D := by rw [HEQ2.out, if_neg (by simp [hl, hd])]
                have HOP := Lib.hid hop; clear hop
                have hlf : 8 * s.size < q + D.pos := by
                  have h1 := HMP2.out.1
                  have h2 : r2.pos = r.pos + 3 := HHO2.out.1
                  have h3 := O.out.left
                  have h4 := HQ.out
                  have h1 : r2.pos ≤ D.pos := h1
                  omega
                have HLF := Lib.hid hlf; clear hlf
                have R3 := Lib.hid R3
                go_wp2
                go_roundg q
                case measure => have := HQ.out; omega
                case rel => exact ⟨D, va3, vc3, Lib.hid ⟨R3.out, KB3.out, hp3, HOP.out, hd, HLF.out⟩⟩
              · have hln : ((A.1 : Int) != 0) = true := by simp [hl]
                have hop : opened s most = D := by rw [HEQ2.out, if_pos (.inl hl)]
                have hres : openV s most = (D.out, (D.pos + 7) / 8, 0) := by rw [HV.out, hop, if_pos hd]
                have HRES := Lib.hid hres; clear hres hop
                have d1 := R3.c1
                have d2 := R3.c2
                have hps := R3.pos
                have hst : ∀ n, (convert 36 9 (.slice va3 D.out.length vc3)).run Try.prog (w3.drewN n) = .ok (.string ⟨D.out.toArray⟩) (w3.drewN n) := fun n => (R3.drewN n).str
                have R3 := Lib.hid R3
                go_wp2_with fail
                (try rw [Exit.noGoto_normal])
                go_wp2_with fail
                go_quiet (fail)
                go_wp2
                (try rw [Exit.noGoto_ret])
                go_ret3
                have hdiv : (((D.pos + 7) / 8 : Nat) : Int) = ((D.pos : Int) + 7) / 8 := by omega
                exact ⟨by rw [HRES.out]; show _ = Ending.returned (.tuple #[_, .int .i64 (((D.pos + 7) / 8 : Nat) : Int), _]); rw [hdiv]; rfl, by rw [← HP.out]; exact KB3.out.trans (Below.drewN' _ _ _)⟩
        · have hne : (r2.err != 0) = true := by simp [he]
          have hop : opened s most = r2 := by rw [HEQ.out, if_neg he]
          have hres : openV s most = ([], 0, r2.err) := by rw [HV.out, hop, if_neg he]
          have HRES := Lib.hid hres; clear hres hop HEQ HV HMP HHO
          go_wp2_with fail
          go_quiet (fail)
          go_wp2
          (try rw [Exit.noGoto_ret])
          go_ret3
          exact ⟨by rw [HRES.out]; rfl, by rw [← HP.out]; exact KB.out.trans (Below.drewN' _ _ _)⟩
end Go.Proofs.Ytcgcacegkbbmiaa
