/- What New of package huff does: it fills a map. -/
import Derived.Test.YtcgcacegkbbmiaaCodes
import Derived.Test.YtcgcacegkbbmiaaKey
namespace Go.Proofs.Ytcgcacegkbbmiaa
open Go.RowKit Go.Maps

theorem zero3 (w : World) : (zeroValue 3).run Try.prog w = .ok (.int .i64 0) w := by kernel_rfl

/-- Block m is a map of sizes and codes to symbols, of N entries. -/
def Tab (w : World) (m n : Nat) (F : Nat → Nat → Option Nat) (N : Nat) : Prop :=
  ∃ D : DataW Unit, Tidy D ∧ w.ownsMap Try.prog 95 (plainElem Try.prog 3) m n D ∧ size D = N ∧
    ∀ k c, k ≤ 16 → c < 1099511627776 → Maps.has D (kl k c) = (F k c).isSome ∧ D.atKey (kl k c) (.lit (.int .i64 0)) = .lit (.int .i64 ((F k c).getD 0 : Nat))

theorem Tab.kept {w w' : World} {m n N : Nat} {F : Nat → Nat → Option Nat} (h : Tab w m n F N) (he : w'.heap[m]? = w.heap[m]?) : Tab w' m n F N := by
  obtain ⟨D, h1, ⟨es, clock, hb, G, hs, hD⟩, h3⟩ := h
  exact ⟨D, h1, ⟨es, clock, he.trans hb, G, hs, hD⟩, h3⟩
theorem Tab.lt {w : World} {m n N : Nat} {F : Nat → Nat → Option Nat} (h : Tab w m n F N) : m < w.heap.size := by
  obtain ⟨D, _, h2, _⟩ := h; exact h2.lt
theorem Tab.congr {w : World} {m n N N' : Nat} {F G : Nat → Nat → Option Nat} (h : Tab w m n F N) (e : ∀ k c, F k c = G k c) (eN : N = N') : Tab w m n G N' := by
  obtain rfl : F = G := funext fun k => funext fun c => e k c
  subst eN; exact h
theorem Tab.made (w : World) : Tab (w.alloc (.map #[] 0)) w.heap.size 0 (fun _ _ => none) 0 := by
  refine ⟨.map [], ⟨[], rfl, by simp⟩, World.ownsMap_made _ _ _ _, rfl, fun k c _ _ => ⟨rfl, rfl⟩⟩

/-- A new entry. -/
theorem Tab.put {w : World} {m n N : Nat} {F : Nat → Nat → Option Nat} (h : Tab w m n F N) (hn : n ≤ 400) (k c i : Nat) (hk : k ≤ 16) (hc : c < 1099511627776) (hi : i ≤ 1000) (hF : F k c = none) :
    ∃ w', (Instr.mapUpdate 91 (.map (some m)) (.agg #[.int .i64 (k : Int), .int .i64 (c : Int)]) (.int .i64 (i : Int))).run Try.prog w = .ok () w' ∧
      Tab w' m (n + 1) (fun k' c' => if k' = k ∧ c' = c then some i else F k' c') (N + 1) ∧ w.grownBy w' (some m) := by
  obtain ⟨D, hD, hown, hsz, hF'⟩ := h
  obtain ⟨w', hrun, hown', hg⟩ := hown.update law95 Try.underlying91 (by unfold maxLen; omega) (key_of k c (by omega) (by omega)) (plainElem_int (H := Unit) Try.underlying3 (q := .i64) (a := (i : Int)) (WalkArith.wf_i64 (by omega)))
  refine ⟨w', hrun, ⟨_, hD.put (kl_key k c) _, hown', ?_, fun k' c' hk' hc' => ?_⟩, hg⟩
  · rw [size_put hD, (hF' k c hk hc).1, hF, hsz]; rfl
  · by_cases e : k' = k ∧ c' = c
    · obtain ⟨rfl, rfl⟩ := e
      rw [has_put_same hD.isMap (kl_key _ _), atKey_put_same hD.isMap (kl_key _ _)]
      simp
    · have hne : kl k' c' ≠ kl k c := fun h => e (kl_inj (by omega) (by omega) (by omega) (by omega) h)
      rw [has_put_other hne, atKey_put_other hne]
      simp only [if_neg e]
      exact hF' k' c' hk' hc'

/-- A look-up. -/
theorem Tab.look {w : World} {m n N : Nat} {F : Nat → Nat → Option Nat} (h : Tab w m n F N) (k c : Nat) (hk : k ≤ 16) (hc : c < 1099511627776) :
    (Instr.lookup 91 (.map (some m)) (.agg #[.int .i64 (k : Int), .int .i64 (c : Int)]) true).run Try.prog w = .ok (.tuple #[.int .i64 ((F k c).getD 0 : Nat), .bool (F k c).isSome]) w := by
  obtain ⟨D, hD, hown, hsz, hF'⟩ := h
  obtain ⟨v, ps, hrun, hv⟩ := hown.look_ok law95 Try.underlying91 (zero3 w) (plainElem_int (H := Unit) Try.underlying3 (q := .i64) (a := 0) (by decide)) (key_of k c (by omega) (by omega))
  obtain ⟨q, rfl, hq, _⟩ := plainElem_int_inv Try.underlying3 hv
  rw [(hF' k c hk hc).2] at hq
  rw [(hF' k c hk hc).1] at hrun
  simp at hq
  obtain ⟨hq, _⟩ := hq
  rw [← hq] at hrun
  exact hrun

theorem Tab.len {w : World} {m n N : Nat} {F : Nat → Nat → Option Nat} (h : Tab w m n F N) (ty : TypeId) : (Builtin.len_ #[91] ty #[.map (some m)]).run Try.prog w = .ok (.int .i64 (N : Int)) w := by
  obtain ⟨D, hD, hown, hsz, _⟩ := h
  rw [← hsz]; exact hown.len Try.underlying91 ty

/-- The symbols of the first j lengths. -/
def lookTo (L : List Nat) (j k c : Nat) : Option Nat := if k = 0 then none else scan k c (L.take j) 0 (first L k)

theorem lookTo_zero (L : List Nat) (k c : Nat) : lookTo L 0 k c = none := by
  unfold lookTo; split <;> rfl
theorem lookTo_skip (L : List Nat) (j k c : Nat) (hx : L[j]? = some 0) : lookTo L (j + 1) k c = lookTo L j k c := by
  unfold lookTo
  by_cases h : k = 0
  · rw [if_pos h, if_pos h]
  · rw [if_neg h, if_neg h, List.take_add_one, hx]
    show scan k c (L.take j ++ [0]) 0 (first L k) = _
    rw [scan_snoc, if_neg (by omega), Option.or_none]
theorem lookTo_none (L : List Nat) (j x : Nat) (hx : L[j]? = some x) : lookTo L j x (cod L j) = none := by
  unfold lookTo
  by_cases h : x = 0
  · rw [if_pos h]
  · rw [if_neg h]
    have hxD : L.getD j 0 = x := by rw [List.getD_eq_getElem?_getD, hx]; rfl
    unfold cod
    rw [hxD, if_neg h]
    cases hs : scan x (first L x + (L.take j).count x) (L.take j) 0 (first L x) with
    | none => rfl
    | some i => have := scan_code hs; omega
theorem lookTo_add (L : List Nat) (j x k c : Nat) (hx : L[j]? = some x) (h0 : x ≠ 0) (hj : j < L.length) :
    (if k = x ∧ c = cod L j then some j else lookTo L j k c) = lookTo L (j + 1) k c := by
  have hxD : L.getD j 0 = x := by rw [List.getD_eq_getElem?_getD, hx]; rfl
  have hn := lookTo_none L j x hx
  have hcod : cod L j = first L x + (L.take j).count x := by unfold cod; rw [hxD, if_neg h0]
  by_cases h : k = 0
  · unfold lookTo; rw [if_neg (by omega), if_pos h, if_pos h]
  · have e : lookTo L (j + 1) k c = (lookTo L j k c).or (if x = k ∧ first L k + (L.take j).count k = c then some (0 + (L.take j).length) else none) := by
      unfold lookTo
      rw [if_neg h, if_neg h, List.take_add_one, hx]
      exact scan_snoc _ _ _ _ _ _
    rw [e, List.length_take, show min j L.length = j from by omega, Nat.zero_add]
    by_cases h2 : k = x ∧ c = cod L j
    · obtain ⟨rfl, rfl⟩ := h2
      rw [if_pos ⟨rfl, rfl⟩, hn, if_pos ⟨rfl, hcod.symm⟩]; rfl
    · rw [if_neg h2]
      have h3 : ¬ (x = k ∧ first L k + (L.take j).count k = c) := by
        rintro ⟨rfl, rfl⟩
        exact h2 ⟨rfl, hcod.symm⟩
      rw [if_neg h3, Option.or_none]
theorem lookTo_all (L : List Nat) (k c : Nat) : lookTo L L.length k c = if k = 0 then none else look L k c := by
  unfold lookTo look
  rw [List.take_length]
theorem cod_le (L : List Nat) (hL : L.length ≤ 300) (h15 : ∀ x ∈ L, x ≤ 15) (j : Nat) : cod L j ≤ 40000000 := by
  unfold cod
  split
  · omega
  · have h1 : L.getD j 0 ≤ 15 := by
      rw [List.getD_eq_getElem?_getD]
      cases h : L[j]? with
      | none => simp
      | some x => exact h15 x (List.mem_of_getElem? h)
    have h2 := first_le L (L.getD j 0) (by omega) hL
    have h3 : (L.take j).count (L.getD j 0) ≤ 300 := Nat.le_trans List.count_le_length (by rw [List.length_take]; omega)
    omega

/-- A code lies at block c, its map at block m. -/
structure Code (w : World) (c m : Nat) (L : List Nat) : Prop where
  hc : w.heap[c]? = some (.cells #[.map (some m)] 93)
  tab : Tab w m 400 (lookTo L L.length) (nz L)
theorem Code.kept {w w' : World} {c m : Nat} {L : List Nat} (h : Code w c m L) (e : w'.heap[c]? = w.heap[c]?) (e' : w'.heap[m]? = w.heap[m]?) : Code w' c m L :=
  ⟨e.trans h.hc, h.tab.kept e'⟩

/-- What New does. -/
def NewQ (L : List Nat) (w : World) (e : Ending) (w' : World) : Prop :=
  if good L = true then ∃ c m, e = .returned (.tuple #[.pointer (some ⟨c, 0, none⟩), .int .i64 0]) ∧ Below w.heap.size w w' ∧ w.heap.size ≤ c ∧ w.heap.size ≤ m ∧ Code w' c m L
  else e = .returned (.tuple #[.pointer none, .int .i64 2]) ∧ Below w.heap.size w w'
theorem NewQ.pos {L : List Nat} {w w' : World} {c m : Nat} (h : good L = true) (hb : Below w.heap.size w w') (hc : w.heap.size ≤ c) (hm : w.heap.size ≤ m) (H : Code w' c m L) :
    NewQ L w (.returned (.tuple #[.pointer (some ⟨c, 0, none⟩), .int .i64 0])) w' := by
  unfold NewQ; rw [if_pos h]; exact ⟨c, m, rfl, hb, hc, hm, H⟩
theorem NewQ.neg {L : List Nat} {w w' : World} (h : good L = false) (hb : Below w.heap.size w w') : NewQ L w (.returned (.tuple #[.pointer none, .int .i64 2])) w' := by
  unfold NewQ; rw [if_neg (by simp [h])]; exact ⟨rfl, hb⟩

set_option maxRecDepth 100000 in
set_option maxHeartbeats 2000000 in
theorem new_any {g off cap : Nat} (L : List Nat) (hL : L.length ≤ 300) (h15 : ∀ x ∈ L, x ≤ 15) (w : World) (hg : g < w.heap.size) (H : At w g off L) :
    Calls Try.prog 43 #[.slice (some ⟨g, off, none⟩) L.length cap] w (NewQ L w) := by
  have hco := codes_any (g := g) (off := off) (cap := cap) L hL h15 w hg H
  by_cases hr : room L ≤ 32768
  · simp only [if_pos hr] at hco
    have HCO := Lib.hid hco; clear hco
    have HH := Lib.hid H; clear H
    have hmm := @run_makeMap Try.prog
    go_enter Try.func43, Try.ntmps43
    go_wp2_with fail
    refine HCO.out.mono ?_
    rintro e w1 ⟨o, rfl, ho, b1, hout⟩
    have hol : o < w1.heap.size := (Array.getElem?_eq_some_iff.1 hout).1
    have HB1 := Lib.hid b1; clear b1
    have HOUT := Lib.hid hout; clear hout
    go_wp2_with fail
    obtain ⟨m, hm⟩ : ∃ m, m = w1.heap.size := ⟨_, rfl⟩
    rw [← hm]
    generalize hW : World.alloc _ _ = W
    have O0 : W.heap[o]? = some (.cells (ints L.length (cod L)) 3) := by
      rw [← hW, Below.heap_alloc _ _ _ (by simp; omega), Below.heap_alloc _ _ _ hol]; exact HOUT.out
    have C0 : W.heap[m + 1]? = some (.cells #[.map (some m)] 93) := by
      have := heap_alloc_new (w1.alloc (.map #[] 0)) (.cells #[.map (some m)] 93)
      rw [← hW, hm]
      rw [hm] at this
      simpa only [World.size_alloc] using this
    have M0 : Tab W m 0 (lookTo L 0) (nz (L.take 0)) := by
      refine (((Tab.made w1).congr (fun k c => (lookTo_zero L k c).symm) rfl).kept (w' := W) ?_ |> fun h => by rw [hm]; exact h)
      rw [← hW, Below.heap_alloc _ _ _ (by simp)]
    have B0 : Below w.heap.size w W := by
      have h1 := HB1.out.size
      rw [← hW]; exact (HB1.out.alloc h1 _).alloc (by simp; omega) _
    have hmw : w.heap.size ≤ m := by rw [hm]; exact HB1.out.size
    have hom : o < m := by rw [hm]; exact hol
    clear hW
    have O0 := Lib.hid O0
    have C0 := Lib.hid C0
    have M0 := Lib.hid M0
    have B0 := Lib.hid B0
    have HMW := Lib.hid hmw; clear hmw
    have HM := Lib.hid hm; clear hm
    have hom := Lib.hid hom
    have atB : ∀ (wr : World), Below w.heap.size w wr → At wr g off L := fun _ hb => HH.out.kept (hb.block g hg)
    have ATB := Lib.hid atB; clear atB
    have ho := Lib.hid ho
    have hol := Lib.hid hol
    go_loopg [25] 400 (fun g i wr => ∃ j : Nat, g = 400 - j ∧ j ≤ L.length ∧ i = .int .i64 (j : Int) ∧ Hid (Below w.heap.size w wr) ∧ Hid (wr.heap[o]? = some (.cells (ints L.length (cod L)) 3)) ∧ Hid (wr.heap[m + 1]? = some (.cells #[.map (some m)] 93)) ∧ Hid (Tab wr m j (lookTo L j) (nz (L.take j))))
    case atStart => exact ⟨0, rfl, Nat.zero_le _, rfl, B0, O0, C0, M0⟩
    case round =>
      obtain ⟨j, hgj, hj, rfl, Bw, O, C, T⟩ := hrel
      have c0 : wr.cell? ⟨m + 1, 0, none⟩ = some (.map (some m)) := by rw [cell_at C.out]; rfl
      by_cases hlt : j < L.length
      · have hd : decide ((j : Int) < (L.length : Int)) = true := by simp; omega
        obtain ⟨x, hx⟩ : ∃ x, L[j]? = some x := ⟨_, List.getElem?_eq_getElem hlt⟩
        have hc := (ATB.out _ Bw.out) j x hx
        have hx15 := h15 x (List.mem_of_getElem? hx)
        have hnz : nz (L.take (j + 1)) = nz (L.take j) + if x = 0 then 0 else 1 := by rw [List.take_add_one, hx]; exact nz_snoc _ _
        by_cases hx0 : x = 0
        · have hp0 : decide ((0 : Int) < (x : Int)) = false := by simp; omega
          have HNZ := Lib.hid hnz; clear hnz
          have HX := Lib.hid hx; clear hx
          go_wp2
          go_roundg (400 - (j + 1))
          case measure => omega
          case rel =>
            refine ⟨j + 1, rfl, hlt, by go_num, Bw, O, C, Lib.hid ?_⟩
            obtain ⟨D, t1, t2, t3⟩ := T.out.congr (fun k c => (lookTo_skip L j k c (by rw [HX.out, hx0])).symm) (show nz (L.take j) = nz (L.take (j + 1)) by rw [HNZ.out, if_pos hx0]; rfl)
            exact ⟨D, t1, t2.mono (by omega), t3⟩
        · have hp0 : decide ((0 : Int) < (x : Int)) = true := by simp; omega
          have hcl := cod_le L hL h15 j
          have co : wr.cell? ⟨o, j, none⟩ = some (.int .i64 (cod L j : Int)) := by rw [cell_at O.out, ints_get _ hlt]
          have TD : Tab wr.drew m j (lookTo L j) (nz (L.take j)) := T.out.kept rfl
          obtain ⟨w3, hupd, T3, hg3⟩ := TD.put (by omega) x (cod L j) j (by omega) (by omega) (by omega) (lookTo_none L j x hx)
          have T3 := T3.congr (fun k c => lookTo_add L j x k c hx hx0 hlt) (show nz (L.take j) + 1 = nz (L.take (j + 1)) by rw [hnz, if_neg hx0])
          have T3 := Lib.hid T3
          have hg3 := Lib.hid hg3
          have HNZ := Lib.hid hnz; clear hnz
          have HX := Lib.hid hx; clear hx
          obtain ⟨q, hq⟩ : ∃ q, q = cod L j := ⟨_, rfl⟩
          rw [← hq] at hupd co hcl
          have HQ := Lib.hid hq; clear hq
          clear TD
          go_wp2_with fail
          go_region
          all_goals
            go_wp2
            go_roundg (400 - (j + 1))
            case measure => omega
            case rel =>
              have e1 := hom.out
              have e2 := HMW.out
              have kb : KeptBut [m] wr w3 := ((KeptBut.refl _ _).drew).trans (KeptBut.of_grown hg3.out (fun k hk => by simp at hk; subst hk; simp))
              refine ⟨j + 1, rfl, hlt, by go_num, Lib.hid (Bw.out.trans (kb.below (by simp; omega) Bw.out.size)), Lib.hid ?_, Lib.hid ?_, T3⟩
              · exact (kb.block o (Array.getElem?_eq_some_iff.1 O.out).1 (by simp; omega)).trans O.out
              · exact (kb.block (m + 1) (Array.getElem?_eq_some_iff.1 C.out).1 (by simp)).trans C.out
      · obtain rfl : j = L.length := by omega
        have hd : decide ((L.length : Int) < (L.length : Int)) = false := by simp
        have T1 : Tab wr m L.length (lookTo L L.length) (nz L) := by have := T.out; rwa [List.take_length] at this
        have hlen := T1.len
        have hnzl := nz_le L
        have hroom := room_any (g := g) (off := off) (cap := cap) L hL h15 wr (ATB.out _ Bw.out)
        rw [roomE_pos hr] at hroom
        have hgood : good L = (room L == 0 || room L == 32768 || (nz L == 1 && room L == 16384)) := rfl
        obtain ⟨r, hrr⟩ : ∃ r, r = room L := ⟨_, rfl⟩
        obtain ⟨N, hN⟩ : ∃ N, N = nz L := ⟨_, rfl⟩
        rw [← hrr] at hroom hr hgood
        rw [← hN] at hlen hnzl hgood
        have HCode : Code wr (m + 1) m L := ⟨C.out, by obtain ⟨D, t1, t2, t3⟩ := T1; exact ⟨D, t1, t2.mono (by omega), t3⟩⟩
        have HCode := Lib.hid HCode
        have HROOM := Lib.hid hroom; clear hroom
        have HGOOD := Lib.hid hgood; clear hgood
        have HRR := Lib.hid hrr; clear hrr
        have HNN := Lib.hid hN; clear hN
        clear T1
        have hmge := HMW.out
        have HPOS : good L = true → NewQ L w (.returned (.tuple #[.pointer (some ⟨m + 1, 0, none⟩), .int .i64 0])) wr := fun h => NewQ.pos h Bw.out (by omega) hmge HCode.out
        have HNEG : good L = false → NewQ L w (.returned (.tuple #[.pointer none, .int .i64 2])) wr := fun h => NewQ.neg h Bw.out
        have HPOS := Lib.hid HPOS
        have HNEG := Lib.hid HNEG
        clear hmge
        by_cases k0 : r = 0
        · subst k0
          have g1 := HPOS.out (by rw [HGOOD.out]; simp)
          have g1 := Lib.hid g1
          by_cases kn : N = 1
          · subst kn
            go_wp2_with fail
            refine HROOM.out.mono ?_
            rintro e w' ⟨rfl, rfl⟩
            go_wp2
            go_ret2
            exact g1.out
          · have f1 : ((N : Int) == 1) = false := by simp; omega
            go_wp2_with fail
            refine HROOM.out.mono ?_
            rintro e w' ⟨rfl, rfl⟩
            go_wp2
            go_ret2
            exact g1.out
        · have f0 : ((r : Int) != 0) = true := by simp; omega
          by_cases k1 : r = 32768
          · subst k1
            have g1 := HPOS.out (by rw [HGOOD.out]; simp)
            have g1 := Lib.hid g1
            by_cases kn : N = 1
            · subst kn
              go_wp2_with fail
              refine HROOM.out.mono ?_
              rintro e w' ⟨rfl, rfl⟩
              go_wp2
              go_ret2
              exact g1.out
            · have f1 : ((N : Int) == 1) = false := by simp; omega
              go_wp2_with fail
              refine HROOM.out.mono ?_
              rintro e w' ⟨rfl, rfl⟩
              go_wp2
              go_ret2
              exact g1.out
          · have f2 : ((r : Int) != 32768) = true := by simp; omega
            by_cases kn : N = 1
            · subst kn
              by_cases k2 : r = 16384
              · subst k2
                have g1 := HPOS.out (by rw [HGOOD.out]; simp)
                have g1 := Lib.hid g1
                go_wp2_with fail
                refine HROOM.out.mono ?_
                rintro e w' ⟨rfl, rfl⟩
                go_wp2
                go_ret2
                exact g1.out
              · have f3 : ((r : Int) == 16384) = false := by simp; omega
                have g1 := HNEG.out (by rw [HGOOD.out]; simp; omega)
                have g1 := Lib.hid g1
                go_wp2_with fail
                refine HROOM.out.mono ?_
                rintro e w' ⟨rfl, rfl⟩
                go_wp2
                go_ret2
                exact g1.out
            · have f1 : ((N : Int) == 1) = false := by simp; omega
              have g1 := HNEG.out (by rw [HGOOD.out]; simp; omega)
              have g1 := Lib.hid g1
              go_wp2_with fail
              refine HROOM.out.mono ?_
              rintro e w' ⟨rfl, rfl⟩
              go_wp2
              go_ret2
              exact g1.out
  · simp only [if_neg hr] at hco
    have HCO := Lib.hid hco; clear hco
    clear H
    have hb : good L = false := by
      unfold good
      simp
      omega
    have g1 := NewQ.neg hb (Below.refl w.heap.size w)
    have g1 := Lib.hid g1
    go_enter Try.func43, Try.ntmps43
    go_wp2_with fail
    refine HCO.out.mono ?_
    rintro e w1 ⟨rfl, rfl⟩
    go_wp2
    go_ret2
    exact g1.out
end Go.Proofs.Ytcgcacegkbbmiaa
