/- What Open says depends on the bits that it takes. No program in sight. -/
import Derived.Test.YtcgcacegkbbmiaaOpenV
namespace Go.Proofs.Ytcgcacegkbbmiaa

/-- Two texts whose first P bits are the same. -/
structure Pre (s t : ByteArray) (P : Nat) : Prop where
  agree : ∀ i, i < P → bit t i = bit s i
  ps : P ≤ 8 * s.size
  pt : P ≤ 8 * t.size
  p8 : P % 8 = 0

/-- A step over s, and the same step over t. -/
structure Gd {α : Type} (m : Nat) (s t : ByteArray) (P : Nat) (F G : St → α × St) : Prop where
  err : ∀ r, (F r).2.err = 0 → r.err = 0
  mono : ∀ r, Mono s r (F r).2
  stick : ∀ r, r.err = 2 → (G r).2.err = 2
  fit : ∀ r, r.out.length ≤ m → (F r).2.out.length ≤ m
  sim : ∀ r, r.pos ≤ P → (F r).2.err = 0 → (G r = F r ∧ (F r).2.pos ≤ P) ∨ (P < (F r).2.pos ∧ (P = 8 * t.size → (G r).2.err = 2))

section
variable {α β : Type} {m P : Nat} {s t : ByteArray}

theorem Gd.bind (hp : Pre s t P) {F G : St → α × St} {K L : α → St → β × St} (h : Gd m s t P F G) (k : ∀ x, Gd m s t P (K x) (L x)) : Gd m s t P (fun r => K (F r).1 (F r).2) (fun r => L (G r).1 (G r).2) := by
  refine ⟨fun r he => h.err r ((k _).err _ he), fun r => (h.mono r).trans ((k _).mono _), fun r he => (k _).stick _ (h.stick r he), fun r hf => (k _).fit _ (h.fit r hf), fun r hr he => ?_⟩
  have h1 := (k _).err _ he
  rcases h.sim r hr h1 with ⟨e, hp1⟩ | ⟨hp1, h2⟩
  · rw [e]
    exact (k _).sim _ hp1 he
  · refine .inr ⟨Nat.lt_of_lt_of_le hp1 ((k _).mono _ (h.mono r (Nat.le_trans hr hp.ps)).2).1, fun hP => (k _).stick _ (h2 hP)⟩
/-- A step that asks for no bits. -/
theorem Gd.same {F : St → α × St} (err : ∀ r, (F r).2.err = 0 → r.err = 0) (pos : ∀ r, (F r).2.pos = r.pos) (stick : ∀ r, r.err = 2 → (F r).2.err = 2) (fit : ∀ r, r.out.length ≤ m → (F r).2.out.length ≤ m) : Gd m s t P F F :=
  ⟨err, fun r => .same (pos r), stick, fit, fun r hr _ => .inl ⟨rfl, by rw [pos]; exact hr⟩⟩
theorem Gd.ret (x : α) : Gd m s t P (fun r => (x, r)) (fun r => (x, r)) := .same (fun _ h => h) (fun _ => rfl) (fun _ h => h) (fun _ h => h)
theorem Gd.fail (e : Int) (he : e ≠ 0) : Gd m s t P (fun r => ((), fail r e)) (fun r => ((), fail r e)) :=
  .same (fun _ h => absurd h (fail_err_ne he)) (fun r => fail_pos r e) (fun r h => by show (Ytcgcacegkbbmiaa.fail r e).err = 2; unfold Ytcgcacegkbbmiaa.fail; rw [if_neg (by rw [h]; decide)]; exact h) (fun r h => by show (Ytcgcacegkbbmiaa.fail r e).out.length ≤ m; unfold Ytcgcacegkbbmiaa.fail; split <;> exact h)
theorem Gd.say (b : UInt8) : Gd m s t P (fun r => ((), say m b r)) (fun r => ((), say m b r)) := by
  refine .same (fun r h => ?_) (fun r => say_pos _ _ _) (fun r h => ?_) (fun r h => ?_)
  · by_cases he : r.err = 0
    · exact he
    · have h : (Ytcgcacegkbbmiaa.say m b r).err = 0 := h
      rw [say_err he] at h; exact h
  · show (Ytcgcacegkbbmiaa.say m b r).err = 2
    rw [say_err (by rw [h]; decide)]; exact h
  · show (Ytcgcacegkbbmiaa.say m b r).out.length ≤ m
    unfold Ytcgcacegkbbmiaa.say
    split
    · split
      · exact h
      · simp; omega
    · exact h
theorem val_agree (hp : Pre s t P) (i : Nat) : ∀ k, i + k ≤ P → val t i k = val s i k
  | 0, _ => rfl
  | k + 1, h => by
    show val t i k + bit t (i + k) * 2 ^ k = val s i k + bit s (i + k) * 2 ^ k
    rw [val_agree hp i k (by omega), hp.agree _ (by omega)]
theorem Gd.num (hp : Pre s t P) (k : Nat) : Gd m s t P (num s k) (num t k) := by
  refine ⟨fun r h => num_err h, fun r => mono_num _ _ _, fun r h => ?_, fun r h => ?_, fun r hr he => ?_⟩
  · rw [num_err_id (by rw [h]; decide)]; exact h
  · unfold Ytcgcacegkbbmiaa.num
    split
    · split <;> exact h
    · exact h
  · obtain ⟨hpos, h0⟩ := num_pos_ok he
    have hk : r.pos + k ≤ 8 * s.size := by
      have := (mono_num s k r (Nat.le_trans hr hp.ps)).2; omega
    by_cases hP : r.pos + k ≤ P
    · refine .inl ⟨?_, by omega⟩
      unfold Ytcgcacegkbbmiaa.num
      rw [if_pos h0, if_pos h0, if_pos hk, if_pos (Nat.le_trans hP hp.pt), val_agree hp _ _ hP]
    · refine .inr ⟨by omega, fun e => ?_⟩
      unfold Ytcgcacegkbbmiaa.num
      rw [if_pos h0, if_neg (by omega)]
theorem next_agree (hp : Pre s t P) {L : List Nat} : ∀ {f k c i x j : Nat}, next s L f k c i = some (x, j) → i ≤ P → (j ≤ P → next t L f k c i = some (x, j)) ∧ (P < j → P = 8 * t.size → next t L f k c i = none)
  | 0, k, c, i, x, j, h, _ => by simp [next] at h
  | f + 1, k, c, i, x, j, h, hi => by
    have hij := (next_le h).1
    simp only [next] at h ⊢
    by_cases h1 : 8 * s.size ≤ i
    · rw [if_pos h1] at h; cases h
    · rw [if_neg h1] at h
      by_cases h2 : i < P
      · have h3 : ¬ 8 * t.size ≤ i := by have := hp.pt; omega
        rw [if_neg h3, hp.agree i h2]
        cases hl : look L (k + 1) (2 * c + bit s i) with
        | some y =>
          rw [hl] at h
          simp at h
          obtain ⟨rfl, rfl⟩ := h
          exact ⟨fun _ => rfl, fun h4 => by omega⟩
        | none =>
          rw [hl] at h
          exact next_agree hp h (by omega)
      · refine ⟨fun h4 => by omega, fun _ e => ?_⟩
        rw [if_pos (by omega)]
theorem Gd.sym (hp : Pre s t P) (L : List Nat) : Gd m s t P (sym s L) (sym t L) := by
  refine ⟨fun r h => sym_err h, fun r => mono_sym _ _ _, fun r h => ?_, fun r h => ?_, fun r hr he => ?_⟩
  · unfold Ytcgcacegkbbmiaa.sym
    rw [if_neg (by rw [h]; decide)]; exact h
  · unfold Ytcgcacegkbbmiaa.sym
    split
    · split <;> exact h
    · exact h
  · have h0 := sym_err he
    unfold Ytcgcacegkbbmiaa.sym at he ⊢
    rw [if_pos h0] at he ⊢
    rw [if_pos h0]
    cases hn : next s L 15 0 0 r.pos with
    | none => rw [hn] at he; exact absurd (show (2 : Int) = 0 from he) (by decide)
    | some q =>
      obtain ⟨x, j⟩ := q
      obtain ⟨ha, hb⟩ := next_agree hp hn hr
      by_cases hj : j ≤ P
      · rw [ha hj]; exact .inl ⟨rfl, hj⟩
      · refine .inr ⟨by show P < j; omega, fun e => ?_⟩
        rw [hb (by omega) e]
theorem Gd.of_eq {F G F' G' : St → α × St} (h : Gd m s t P F' G') (hF : ∀ r, F r = F' r) (hG : ∀ r, G r = G' r) : Gd m s t P F G := by
  rw [show F = F' from funext hF, show G = G' from funext hG]; exact h
theorem Gd.guard (x0 : α) {F G : St → α × St} (h : Gd m s t P F G) : Gd m s t P (fun r => if r.err = 0 then F r else (x0, r)) (fun r => if r.err = 0 then G r else (x0, r)) := by
  refine ⟨fun r he => ?_, fun r => ?_, fun r he => ?_, fun r hf => ?_, fun r hr he => ?_⟩
  · by_cases h0 : r.err = 0
    · exact h0
    · rw [if_neg h0] at he; exact he
  · split
    · exact h.mono r
    · exact .refl _ _
  · rw [if_neg (by rw [he]; decide)]; exact he
  · split
    · exact h.fit r hf
    · exact hf
  · by_cases h0 : r.err = 0
    · rw [if_pos h0] at he ⊢
      rw [if_pos h0]
      exact h.sim r hr he
    · rw [if_neg h0] at he; exact absurd he h0
theorem say_fit {b : UInt8} {r : St} (h : r.out.length ≤ m) : (Ytcgcacegkbbmiaa.say m b r).out.length ≤ m := (Gd.say (s := ⟨#[]⟩) (t := ⟨#[]⟩) (P := 0) b).fit r h
theorem copyLoop_fit (back : Nat) : ∀ (n : Nat) (r : St), r.out.length ≤ m → (copyLoop m back n r).out.length ≤ m
  | 0, _, h => h
  | n + 1, _, h => copyLoop_fit back n _ (say_fit h)
theorem Gd.copyLoop (back n : Nat) : Gd m s t P (fun r => ((), copyLoop m back n r)) (fun r => ((), copyLoop m back n r)) :=
  .same (fun _ h => copyLoop_err0 h) (fun r => copyLoop_pos _ _ _ _) (fun r h => by show (Ytcgcacegkbbmiaa.copyLoop m back n r).err = 2; rw [copyLoop_err _ (by rw [h]; decide)]; exact h) (fun r h => copyLoop_fit back n r h)
theorem Gd.tooFar (back : Nat) : Gd m s t P (fun r => ((), tooFar back r)) (fun r => ((), tooFar back r)) := by
  refine .same (fun r h => ?_) (fun r => tooFar_pos _ _) (fun r h => ?_) (fun r h => ?_)
  · have h : (Ytcgcacegkbbmiaa.tooFar back r).err = 0 := h
    unfold Ytcgcacegkbbmiaa.tooFar at h
    split at h
    · exact fail_err h
    · exact h
  · show (Ytcgcacegkbbmiaa.tooFar back r).err = 2
    unfold Ytcgcacegkbbmiaa.tooFar
    split
    · unfold Ytcgcacegkbbmiaa.fail; rw [if_neg (by rw [h]; decide)]; exact h
    · exact h
  · show (Ytcgcacegkbbmiaa.tooFar back r).out.length ≤ m
    unfold Ytcgcacegkbbmiaa.tooFar
    split
    · unfold Ytcgcacegkbbmiaa.fail; split <;> exact h
    · exact h
theorem Gd.copies (hp : Pre s t P) (Ld : List Nat) (n : Int) : Gd m s t P (fun r => ((), copies s m Ld n r)) (fun r => ((), copies t m Ld n r)) := by
  by_cases h1 : (lengthP n).2.2 = true
  · have g3 : ∀ (size base : Nat) (x : Nat), Gd m s t P (fun r => ((), Ytcgcacegkbbmiaa.copyLoop m (base + x) size (Ytcgcacegkbbmiaa.tooFar (base + x) r))) (fun r => ((), Ytcgcacegkbbmiaa.copyLoop m (base + x) size (Ytcgcacegkbbmiaa.tooFar (base + x) r))) := fun size base x =>
      Gd.bind hp (Gd.tooFar (base + x)) (K := fun _ r => ((), Ytcgcacegkbbmiaa.copyLoop m (base + x) size r)) (L := fun _ r => ((), Ytcgcacegkbbmiaa.copyLoop m (base + x) size r)) (fun _ => Gd.copyLoop _ _)
    have g2 : ∀ (size k : Nat), Gd m s t P (fun r => ((), if (distP (k : Int)).2.2 = true then Ytcgcacegkbbmiaa.copyLoop m ((distP (k : Int)).1 + (Ytcgcacegkbbmiaa.num s (distP (k : Int)).2.1 r).1) size (Ytcgcacegkbbmiaa.tooFar ((distP (k : Int)).1 + (Ytcgcacegkbbmiaa.num s (distP (k : Int)).2.1 r).1) (Ytcgcacegkbbmiaa.num s (distP (k : Int)).2.1 r).2) else Ytcgcacegkbbmiaa.fail r 2))
        (fun r => ((), if (distP (k : Int)).2.2 = true then Ytcgcacegkbbmiaa.copyLoop m ((distP (k : Int)).1 + (Ytcgcacegkbbmiaa.num t (distP (k : Int)).2.1 r).1) size (Ytcgcacegkbbmiaa.tooFar ((distP (k : Int)).1 + (Ytcgcacegkbbmiaa.num t (distP (k : Int)).2.1 r).1) (Ytcgcacegkbbmiaa.num t (distP (k : Int)).2.1 r).2) else Ytcgcacegkbbmiaa.fail r 2)) := fun size k => by
      by_cases h2 : (distP (k : Int)).2.2 = true
      · simp only [if_pos h2]
        exact Gd.bind hp (Gd.num hp (distP (k : Int)).2.1) (K := fun x r => ((), Ytcgcacegkbbmiaa.copyLoop m ((distP (k : Int)).1 + x) size (Ytcgcacegkbbmiaa.tooFar ((distP (k : Int)).1 + x) r))) (L := fun x r => ((), Ytcgcacegkbbmiaa.copyLoop m ((distP (k : Int)).1 + x) size (Ytcgcacegkbbmiaa.tooFar ((distP (k : Int)).1 + x) r))) (g3 size (distP (k : Int)).1)
      · simp only [if_neg h2]
        exact Gd.fail 2 (by decide)
    have g1 := fun (size : Nat) => Gd.bind hp (Gd.sym hp Ld) (g2 size)
    have g0 := Gd.bind hp (Gd.num hp (lengthP n).2.1) (fun x => g1 ((lengthP n).1 + x))
    refine g0.of_eq (fun r => ?_) (fun r => ?_)
    · unfold Ytcgcacegkbbmiaa.copies; rw [if_pos h1]
    · unfold Ytcgcacegkbbmiaa.copies; rw [if_pos h1]
  · refine (Gd.fail (m := m) (s := s) (t := t) (P := P) 2 (by decide)).of_eq (fun r => ?_) (fun r => ?_)
    · unfold Ytcgcacegkbbmiaa.copies; rw [if_neg h1]
    · unfold Ytcgcacegkbbmiaa.copies; rw [if_neg h1]
theorem Gd.coder (L : List Nat) : Gd m s t P (fun r => ((), coder L r)) (fun r => ((), coder L r)) := by
  unfold Ytcgcacegkbbmiaa.coder
  by_cases h : good L = true
  · simp only [if_pos h]; exact Gd.ret ()
  · simp only [if_neg h]; exact Gd.fail 2 (by decide)
theorem Gd.blockLoop (hp : Pre s t P) (Ll Ld : List Nat) : ∀ f, Gd m s t P (fun r => ((), blockLoop s m Ll Ld f r)) (fun r => ((), blockLoop t m Ll Ld f r))
  | 0 => Gd.ret ()
  | f + 1 => by
    have g1 : ∀ x, Gd m s t P (fun r => ((), if x = 256 then r else if x < 256 then Ytcgcacegkbbmiaa.blockLoop s m Ll Ld f (Ytcgcacegkbbmiaa.say m (UInt8.ofNat x) r) else Ytcgcacegkbbmiaa.blockLoop s m Ll Ld f (Ytcgcacegkbbmiaa.copies s m Ld (x : Int) r)))
        (fun r => ((), if x = 256 then r else if x < 256 then Ytcgcacegkbbmiaa.blockLoop t m Ll Ld f (Ytcgcacegkbbmiaa.say m (UInt8.ofNat x) r) else Ytcgcacegkbbmiaa.blockLoop t m Ll Ld f (Ytcgcacegkbbmiaa.copies t m Ld (x : Int) r))) := fun x => by
      by_cases h1 : x = 256
      · simp only [if_pos h1]; exact Gd.ret ()
      · by_cases h2 : x < 256
        · simp only [if_neg h1, if_pos h2]
          exact Gd.bind hp (Gd.say (UInt8.ofNat x)) (K := fun _ r => ((), Ytcgcacegkbbmiaa.blockLoop s m Ll Ld f r)) (L := fun _ r => ((), Ytcgcacegkbbmiaa.blockLoop t m Ll Ld f r)) (fun _ => Gd.blockLoop hp Ll Ld f)
        · simp only [if_neg h1, if_neg h2]
          exact Gd.bind hp (Gd.copies hp Ld (x : Int)) (K := fun _ r => ((), Ytcgcacegkbbmiaa.blockLoop s m Ll Ld f r)) (L := fun _ r => ((), Ytcgcacegkbbmiaa.blockLoop t m Ll Ld f r)) (fun _ => Gd.blockLoop hp Ll Ld f)
    refine ((Gd.bind hp (Gd.sym hp Ll) g1).guard ()).of_eq (fun r => ?_) (fun r => ?_)
    · show ((), if r.err = 0 then _ else r) = _
      split <;> rfl
    · show ((), if r.err = 0 then _ else r) = _
      split <;> rfl
theorem Gd.storedLoop (hp : Pre s t P) : ∀ n, Gd m s t P (fun r => ((), storedLoop s m n r)) (fun r => ((), storedLoop t m n r))
  | 0 => Gd.ret ()
  | n + 1 => by
    have g1 : ∀ x, Gd m s t P (fun r => ((), Ytcgcacegkbbmiaa.storedLoop s m n (Ytcgcacegkbbmiaa.say m (UInt8.ofNat x) r))) (fun r => ((), Ytcgcacegkbbmiaa.storedLoop t m n (Ytcgcacegkbbmiaa.say m (UInt8.ofNat x) r))) := fun x =>
      Gd.bind hp (Gd.say (UInt8.ofNat x)) (K := fun _ r => ((), Ytcgcacegkbbmiaa.storedLoop s m n r)) (L := fun _ r => ((), Ytcgcacegkbbmiaa.storedLoop t m n r)) (fun _ => Gd.storedLoop hp n)
    exact (Gd.bind hp (Gd.num hp 8) g1).of_eq (fun _ => rfl) (fun _ => rfl)
theorem Gd.toByte (hp : Pre s t P) : Gd m s t P (fun r => ((), toByte r)) (fun r => ((), toByte r)) :=
  ⟨fun _ h => h, fun r => mono_toByte s r, fun _ h => h, fun _ h => h, fun r hr _ => .inl ⟨rfl, by have := hp.p8; show (r.pos + 7) / 8 * 8 ≤ P; omega⟩⟩
theorem Gd.stored (hp : Pre s t P) : Gd m s t P (fun r => ((), stored s m r)) (fun r => ((), stored t m r)) := by
  have g4 : ∀ (a b : Nat), Gd m s t P (fun r => (a, if r.err = 0 ∧ a + b ≠ 65535 then Ytcgcacegkbbmiaa.fail r 2 else r)) (fun r => (a, if r.err = 0 ∧ a + b ≠ 65535 then Ytcgcacegkbbmiaa.fail r 2 else r)) := fun a b => by
    by_cases h : a + b = 65535
    · refine (Gd.ret a).of_eq (fun r => ?_) (fun r => ?_) <;> rw [if_neg (fun k => k.2 h)]
    · have g : Gd m s t P (fun r => (a, Ytcgcacegkbbmiaa.fail r 2)) (fun r => (a, Ytcgcacegkbbmiaa.fail r 2)) := Gd.bind hp (Gd.fail 2 (by decide)) (K := fun _ r => (a, r)) (L := fun _ r => (a, r)) (fun _ => Gd.ret a)
      refine (g.guard a).of_eq (fun r => ?_) (fun r => ?_) <;> by_cases h0 : r.err = 0
      · rw [if_pos ⟨h0, h⟩, if_pos h0]
      · rw [if_neg (fun k => h0 k.1), if_neg h0]
      · rw [if_pos ⟨h0, h⟩, if_pos h0]
      · rw [if_neg (fun k => h0 k.1), if_neg h0]
  have g3 := fun (a : Nat) => Gd.bind hp (Gd.num hp 16) (g4 a)
  have g2 := Gd.bind hp (Gd.num hp 16) g3
  have g1 := Gd.bind hp (Gd.toByte hp) (K := fun _ r => _) (L := fun _ r => _) (fun _ => g2)
  have g0 := Gd.bind hp g1 (fun n => Gd.storedLoop hp n)
  exact g0.of_eq (fun _ => rfl) (fun _ => rfl)
theorem Gd.lensLoop (hp : Pre s t P) : ∀ (n i : Nat) (f : Nat → Nat), Gd m s t P (lensLoop s n i f) (lensLoop t n i f)
  | 0, _, f => Gd.ret f
  | n + 1, i, f => (Gd.bind hp (Gd.num hp 3) (K := fun x r => Ytcgcacegkbbmiaa.lensLoop s n (i + 1) (fun j => if j = ord.getD i 0 then x else f j) r) (L := fun x r => Ytcgcacegkbbmiaa.lensLoop t n (i + 1) (fun j => if j = ord.getD i 0 then x else f j) r) (fun _ => Gd.lensLoop hp n (i + 1) _)).of_eq (fun _ => rfl) (fun _ => rfl)
/-- One round of the lengths. -/
theorem Gd.readLoop (hp : Pre s t P) (L : List Nat) (all : Nat) : ∀ (f : Nat) (l : List Nat), Gd m s t P (readLoop s L all f l) (readLoop t L all f l)
  | 0, l => Gd.ret l
  | f + 1, l => by
    by_cases hl : l.length < all
    · have ih := fun l' => Gd.readLoop hp L all f l'
      have g1 : ∀ x, Gd m s t P (fun r => if x = 16 then (if l = [] then (l, Ytcgcacegkbbmiaa.fail r 2) else Ytcgcacegkbbmiaa.readLoop s L all f (l ++ List.replicate (3 + (Ytcgcacegkbbmiaa.num s 2 r).1) (l.getLastD 0)) (Ytcgcacegkbbmiaa.num s 2 r).2)
            else if x = 17 then Ytcgcacegkbbmiaa.readLoop s L all f (l ++ List.replicate (3 + (Ytcgcacegkbbmiaa.num s 3 r).1) 0) (Ytcgcacegkbbmiaa.num s 3 r).2
            else if x = 18 then Ytcgcacegkbbmiaa.readLoop s L all f (l ++ List.replicate (11 + (Ytcgcacegkbbmiaa.num s 7 r).1) 0) (Ytcgcacegkbbmiaa.num s 7 r).2
            else Ytcgcacegkbbmiaa.readLoop s L all f (l ++ [x]) r)
          (fun r => if x = 16 then (if l = [] then (l, Ytcgcacegkbbmiaa.fail r 2) else Ytcgcacegkbbmiaa.readLoop t L all f (l ++ List.replicate (3 + (Ytcgcacegkbbmiaa.num t 2 r).1) (l.getLastD 0)) (Ytcgcacegkbbmiaa.num t 2 r).2)
            else if x = 17 then Ytcgcacegkbbmiaa.readLoop t L all f (l ++ List.replicate (3 + (Ytcgcacegkbbmiaa.num t 3 r).1) 0) (Ytcgcacegkbbmiaa.num t 3 r).2
            else if x = 18 then Ytcgcacegkbbmiaa.readLoop t L all f (l ++ List.replicate (11 + (Ytcgcacegkbbmiaa.num t 7 r).1) 0) (Ytcgcacegkbbmiaa.num t 7 r).2
            else Ytcgcacegkbbmiaa.readLoop t L all f (l ++ [x]) r) := fun x => by
        by_cases h1 : x = 16
        · by_cases h2 : l = []
          · simp only [if_pos h1, if_pos h2]
            exact Gd.bind hp (Gd.fail 2 (by decide)) (K := fun _ r => (l, r)) (L := fun _ r => (l, r)) (fun _ => Gd.ret l)
          · simp only [if_pos h1, if_neg h2]
            exact Gd.bind hp (Gd.num hp 2) (K := fun y r => Ytcgcacegkbbmiaa.readLoop s L all f (l ++ List.replicate (3 + y) (l.getLastD 0)) r) (L := fun y r => Ytcgcacegkbbmiaa.readLoop t L all f (l ++ List.replicate (3 + y) (l.getLastD 0)) r) (fun _ => ih _)
        · by_cases h2 : x = 17
          · simp only [if_neg h1, if_pos h2]
            exact Gd.bind hp (Gd.num hp 3) (K := fun y r => Ytcgcacegkbbmiaa.readLoop s L all f (l ++ List.replicate (3 + y) 0) r) (L := fun y r => Ytcgcacegkbbmiaa.readLoop t L all f (l ++ List.replicate (3 + y) 0) r) (fun _ => ih _)
          · by_cases h3 : x = 18
            · simp only [if_neg h1, if_neg h2, if_pos h3]
              exact Gd.bind hp (Gd.num hp 7) (K := fun y r => Ytcgcacegkbbmiaa.readLoop s L all f (l ++ List.replicate (11 + y) 0) r) (L := fun y r => Ytcgcacegkbbmiaa.readLoop t L all f (l ++ List.replicate (11 + y) 0) r) (fun _ => ih _)
            · simp only [if_neg h1, if_neg h2, if_neg h3]
              exact ih _
      refine ((Gd.bind hp (Gd.sym hp L) g1).guard l).of_eq (fun r => ?_) (fun r => ?_)
      all_goals
        show (if l.length < all ∧ r.err = 0 then _ else (l, r)) = _
        by_cases h0 : r.err = 0
        · rw [if_pos ⟨hl, h0⟩, if_pos h0]
        · rw [if_neg (fun k => h0 k.2), if_neg h0]
    · refine (Gd.ret l).of_eq (fun r => ?_) (fun r => ?_)
      all_goals
        show (if l.length < all ∧ r.err = 0 then _ else (l, r)) = _
        rw [if_neg (fun k => hl k.1)]
theorem Gd.dynHead (hp : Pre s t P) : Gd m s t P (fun r => (((dynHead s r).1, (dynHead s r).2.1, (dynHead s r).2.2.1), (dynHead s r).2.2.2)) (fun r => (((dynHead t r).1, (dynHead t r).2.1, (dynHead t r).2.2.1), (dynHead t r).2.2.2)) := by
  have g4 : ∀ (a b c : Nat), Gd m s t P (fun r => ((257 + a, 1 + b, 4 + c), if 286 < 257 + a ∨ 30 < 1 + b then Ytcgcacegkbbmiaa.fail r 2 else r)) (fun r => ((257 + a, 1 + b, 4 + c), if 286 < 257 + a ∨ 30 < 1 + b then Ytcgcacegkbbmiaa.fail r 2 else r)) := fun a b c => by
    by_cases h : 286 < 257 + a ∨ 30 < 1 + b
    · simp only [if_pos h]
      exact Gd.bind hp (Gd.fail 2 (by decide)) (K := fun _ r => ((257 + a, 1 + b, 4 + c), r)) (L := fun _ r => ((257 + a, 1 + b, 4 + c), r)) (fun _ => Gd.ret _)
    · simp only [if_neg h]
      exact Gd.ret _
  have g3 := fun (a b : Nat) => Gd.bind hp (Gd.num hp 4) (g4 a b)
  have g2 := fun (a : Nat) => Gd.bind hp (Gd.num hp 5) (g3 a)
  exact (Gd.bind hp (Gd.num hp 5) g2).of_eq (fun _ => rfl) (fun _ => rfl)
theorem Gd.fuel (hp : Pre s t P) {FF GG : Nat → St → α × St} (g : ∀ M, Gd m s t P (FF M) (GG M)) (a b : Nat) (hF : ∀ d r, r.pos ≤ 8 * s.size → FF (a + d) r = FF a r) (hG : ∀ d r, r.pos ≤ 8 * t.size → GG (b + d) r = GG b r) : Gd m s t P (FF a) (GG b) := by
  refine ⟨(g a).err, (g a).mono, (g b).stick, (g a).fit, fun r hr he => ?_⟩
  have e1 := hF b r (Nat.le_trans hr hp.ps)
  have e2 := hG a r (Nat.le_trans hr hp.pt)
  rw [← e1] at he ⊢
  rw [← e2, Nat.add_comm b a]
  exact (g (a + b)).sim r hr he
theorem blockLoop_fuel (m : Nat) (s : ByteArray) (Ll Ld : List Nat) (d : Nat) : ∀ (f : Nat) (r : St), r.pos ≤ 8 * s.size → (r.err = 0 → 8 * s.size < f + r.pos) → blockLoop s m Ll Ld (f + d) r = blockLoop s m Ll Ld f r
  | f, r, hp, hf => by
    by_cases h0 : r.err = 0
    · cases f with
      | zero => have := hf h0; omega
      | succ f =>
        rw [show f + 1 + d = f + d + 1 from by omega]
        show (if r.err = 0 then _ else r) = (if r.err = 0 then _ else r)
        rw [if_pos h0, if_pos h0]
        have hs := sym_pos (s := s) (L := Ll) (r := r)
        have hsl := sym_pos_le (s := s) (L := Ll) (r := r) hp
        have hb := hf h0
        split
        · rfl
        · split
          · refine blockLoop_fuel m s Ll Ld d f _ (by rw [say_pos]; exact hsl) (fun h => ?_)
            have h1 : (sym s Ll r).2.err = 0 := (say_len h).1
            have := hs.2 h1
            rw [say_pos]; omega
          · have hm := mono_copies s m Ld ((sym s Ll r).1 : Int) (sym s Ll r).2 hsl
            refine blockLoop_fuel m s Ll Ld d f _ hm.2 (fun h => ?_)
            have h1 : (sym s Ll r).2.err = 0 := copies_err h
            have := hs.2 h1
            omega
    · rw [blockLoop_err _ h0, blockLoop_err _ h0]
  termination_by f => f
theorem Gd.block (hp : Pre s t P) (Ll Ld : List Nat) : Gd m s t P (fun r => ((), block s m Ll Ld r)) (fun r => ((), block t m Ll Ld r)) := by
  have g : ∀ M, Gd m s t P (fun r => ((), Ytcgcacegkbbmiaa.blockLoop s m Ll Ld M (Ytcgcacegkbbmiaa.coder Ld (Ytcgcacegkbbmiaa.coder Ll r)))) (fun r => ((), Ytcgcacegkbbmiaa.blockLoop t m Ll Ld M (Ytcgcacegkbbmiaa.coder Ld (Ytcgcacegkbbmiaa.coder Ll r)))) := fun M =>
    Gd.bind hp (Gd.coder Ll) (K := fun _ r => ((), Ytcgcacegkbbmiaa.blockLoop s m Ll Ld M (Ytcgcacegkbbmiaa.coder Ld r))) (L := fun _ r => ((), Ytcgcacegkbbmiaa.blockLoop t m Ll Ld M (Ytcgcacegkbbmiaa.coder Ld r))) (fun _ =>
      Gd.bind hp (Gd.coder Ld) (K := fun _ r => ((), Ytcgcacegkbbmiaa.blockLoop s m Ll Ld M r)) (L := fun _ r => ((), Ytcgcacegkbbmiaa.blockLoop t m Ll Ld M r)) (fun _ => Gd.blockLoop hp Ll Ld M))
  refine Gd.fuel hp (FF := fun M r => ((), Ytcgcacegkbbmiaa.blockLoop s m Ll Ld M (Ytcgcacegkbbmiaa.coder Ld (Ytcgcacegkbbmiaa.coder Ll r)))) (GG := fun M r => ((), Ytcgcacegkbbmiaa.blockLoop t m Ll Ld M (Ytcgcacegkbbmiaa.coder Ld (Ytcgcacegkbbmiaa.coder Ll r)))) g (8 * s.size + 1) (8 * t.size + 1) (fun d r hr => ?_) (fun d r hr => ?_)
  · have := (((mono_coder s Ll r).trans (mono_coder s Ld _)) hr)
    rw [blockLoop_fuel _ _ _ _ _ _ _ this.2 (fun _ => by omega)]
  · have := (((mono_coder t Ll r).trans (mono_coder t Ld _)) hr)
    rw [blockLoop_fuel _ _ _ _ _ _ _ this.2 (fun _ => by omega)]
theorem Gd.dynTail (hp : Pre s t P) (many far : Nat) (l : List Nat) : Gd m s t P (fun r => ((), dynTail s m many far l r)) (fun r => ((), dynTail t m many far l r)) := by
  have g : Gd m s t P (fun r => ((), if l.length ≠ many + far ∨ l.getD 256 0 = 0 then Ytcgcacegkbbmiaa.fail r 2 else Ytcgcacegkbbmiaa.block s m (l.take many) (l.drop many) r)) (fun r => ((), if l.length ≠ many + far ∨ l.getD 256 0 = 0 then Ytcgcacegkbbmiaa.fail r 2 else Ytcgcacegkbbmiaa.block t m (l.take many) (l.drop many) r)) := by
    by_cases h : l.length ≠ many + far ∨ l.getD 256 0 = 0
    · simp only [if_pos h]; exact Gd.fail 2 (by decide)
    · simp only [if_neg h]; exact Gd.block hp _ _
  refine (g.guard ()).of_eq (fun r => ?_) (fun r => ?_)
  all_goals
    unfold Ytcgcacegkbbmiaa.dynTail
    by_cases h0 : r.err = 0
    · rw [if_pos h0, if_pos h0]
    · rw [if_neg h0, if_neg h0]
theorem dynamic_eq (s : ByteArray) (m : Nat) (r : St) : dynamic s m r = if (lensLoop s (dynHead s r).2.2.1 0 (fun _ => 0) (dynHead s r).2.2.2).2.err = 0 then
    dynTail s m (dynHead s r).1 (dynHead s r).2.1 (readLoop s (toList19 (lensLoop s (dynHead s r).2.2.1 0 (fun _ => 0) (dynHead s r).2.2.2).1) ((dynHead s r).1 + (dynHead s r).2.1) ((dynHead s r).1 + (dynHead s r).2.1) [] (coder (toList19 (lensLoop s (dynHead s r).2.2.1 0 (fun _ => 0) (dynHead s r).2.2.2).1) (lensLoop s (dynHead s r).2.2.1 0 (fun _ => 0) (dynHead s r).2.2.2).2)).1
      (readLoop s (toList19 (lensLoop s (dynHead s r).2.2.1 0 (fun _ => 0) (dynHead s r).2.2.2).1) ((dynHead s r).1 + (dynHead s r).2.1) ((dynHead s r).1 + (dynHead s r).2.1) [] (coder (toList19 (lensLoop s (dynHead s r).2.2.1 0 (fun _ => 0) (dynHead s r).2.2.2).1) (lensLoop s (dynHead s r).2.2.1 0 (fun _ => 0) (dynHead s r).2.2.2).2)).2
    else (lensLoop s (dynHead s r).2.2.1 0 (fun _ => 0) (dynHead s r).2.2.2).2 := rfl
theorem openLoop_succ (s : ByteArray) (m f : Nat) (r : St) : openLoop s m (f + 1) r = if (blockHead s r).2.2.err = 0 then
    (if (blockHead s r).1 ≠ 0 ∨ (kindly s m (blockHead s r).2.1 (blockHead s r).2.2).err ≠ 0 then kindly s m (blockHead s r).2.1 (blockHead s r).2.2 else openLoop s m f (kindly s m (blockHead s r).2.1 (blockHead s r).2.2))
    else (blockHead s r).2.2 := rfl
theorem Gd.dynamic (hp : Pre s t P) : Gd m s t P (fun r => ((), dynamic s m r)) (fun r => ((), dynamic t m r)) := by
  have g4 : ∀ (a b : Nat) (L : List Nat), Gd m s t P (fun r => ((), Ytcgcacegkbbmiaa.dynTail s m a b (Ytcgcacegkbbmiaa.readLoop s L (a + b) (a + b) [] r).1 (Ytcgcacegkbbmiaa.readLoop s L (a + b) (a + b) [] r).2))
      (fun r => ((), Ytcgcacegkbbmiaa.dynTail t m a b (Ytcgcacegkbbmiaa.readLoop t L (a + b) (a + b) [] r).1 (Ytcgcacegkbbmiaa.readLoop t L (a + b) (a + b) [] r).2)) := fun a b L =>
    Gd.bind hp (Gd.readLoop hp L (a + b) (a + b) []) (K := fun l r => ((), Ytcgcacegkbbmiaa.dynTail s m a b l r)) (L := fun l r => ((), Ytcgcacegkbbmiaa.dynTail t m a b l r)) (fun l => Gd.dynTail hp a b l)
  have g3 : ∀ (h : Nat × Nat × Nat) (f : Nat → Nat), Gd m s t P (fun r => ((), Ytcgcacegkbbmiaa.dynTail s m h.1 h.2.1 (Ytcgcacegkbbmiaa.readLoop s (toList19 f) (h.1 + h.2.1) (h.1 + h.2.1) [] (Ytcgcacegkbbmiaa.coder (toList19 f) r)).1 (Ytcgcacegkbbmiaa.readLoop s (toList19 f) (h.1 + h.2.1) (h.1 + h.2.1) [] (Ytcgcacegkbbmiaa.coder (toList19 f) r)).2))
      (fun r => ((), Ytcgcacegkbbmiaa.dynTail t m h.1 h.2.1 (Ytcgcacegkbbmiaa.readLoop t (toList19 f) (h.1 + h.2.1) (h.1 + h.2.1) [] (Ytcgcacegkbbmiaa.coder (toList19 f) r)).1 (Ytcgcacegkbbmiaa.readLoop t (toList19 f) (h.1 + h.2.1) (h.1 + h.2.1) [] (Ytcgcacegkbbmiaa.coder (toList19 f) r)).2)) := by
    intro h f
    obtain ⟨a, b, c⟩ := h
    generalize toList19 f = L
    dsimp only
    exact Gd.bind hp (Gd.coder L) (K := fun _ r => ((), Ytcgcacegkbbmiaa.dynTail s m a b (Ytcgcacegkbbmiaa.readLoop s L (a + b) (a + b) [] r).1 (Ytcgcacegkbbmiaa.readLoop s L (a + b) (a + b) [] r).2))
      (L := fun _ r => ((), Ytcgcacegkbbmiaa.dynTail t m a b (Ytcgcacegkbbmiaa.readLoop t L (a + b) (a + b) [] r).1 (Ytcgcacegkbbmiaa.readLoop t L (a + b) (a + b) [] r).2)) (fun _ => g4 a b L)
  have g2 := fun (h : Nat × Nat × Nat) => Gd.bind hp (Gd.lensLoop hp h.2.2 0 (fun _ => 0)) (fun f => (g3 h f).guard ())
  refine (Gd.bind hp (Gd.dynHead hp) g2).of_eq (fun r => ?_) (fun r => ?_)
  · rw [dynamic_eq]
    dsimp only
    generalize Ytcgcacegkbbmiaa.dynHead s r = h
    generalize Ytcgcacegkbbmiaa.lensLoop s h.2.2.1 0 (fun _ => 0) h.2.2.2 = q
    by_cases h0 : q.2.err = 0
    · rw [if_pos h0, if_pos h0]
    · rw [if_neg h0, if_neg h0]
  · rw [dynamic_eq]
    dsimp only
    generalize Ytcgcacegkbbmiaa.dynHead t r = h
    generalize Ytcgcacegkbbmiaa.lensLoop t h.2.2.1 0 (fun _ => 0) h.2.2.2 = q
    by_cases h0 : q.2.err = 0
    · rw [if_pos h0, if_pos h0]
    · rw [if_neg h0, if_neg h0]
theorem Gd.kindly (hp : Pre s t P) (k : Nat) : Gd m s t P (fun r => ((), kindly s m k r)) (fun r => ((), kindly t m k r)) := by
  unfold Ytcgcacegkbbmiaa.kindly
  by_cases h : k = 0
  · simp only [if_pos h]; exact Gd.stored hp
  · by_cases h1 : k = 1
    · simp only [if_neg h, if_pos h1]; exact Gd.block hp _ _
    · simp only [if_neg h, if_neg h1]; exact Gd.dynamic hp
theorem Gd.blockHead (hp : Pre s t P) : Gd m s t P (fun r => (((blockHead s r).1, (blockHead s r).2.1), (blockHead s r).2.2)) (fun r => (((blockHead t r).1, (blockHead t r).2.1), (blockHead t r).2.2)) := by
  have g3 : ∀ (a b : Nat), Gd m s t P (fun r => ((a, b), if 3 ≤ b then Ytcgcacegkbbmiaa.fail r 2 else r)) (fun r => ((a, b), if 3 ≤ b then Ytcgcacegkbbmiaa.fail r 2 else r)) := fun a b => by
    by_cases h : 3 ≤ b
    · simp only [if_pos h]
      exact Gd.bind hp (Gd.fail 2 (by decide)) (K := fun _ r => ((a, b), r)) (L := fun _ r => ((a, b), r)) (fun _ => Gd.ret _)
    · simp only [if_neg h]
      exact Gd.ret _
  have g2 := fun (a : Nat) => Gd.bind hp (Gd.num hp 2) (g3 a)
  exact (Gd.bind hp (Gd.num hp 1) g2).of_eq (fun _ => rfl) (fun _ => rfl)
theorem Gd.openLoop (hp : Pre s t P) : ∀ f, Gd m s t P (fun r => ((), openLoop s m f r)) (fun r => ((), openLoop t m f r))
  | 0 => Gd.ret ()
  | f + 1 => by
    have ih := Gd.openLoop hp f
    have g2 : ∀ (h : Nat × Nat), Gd m s t P (fun r => ((), if h.1 ≠ 0 ∨ (Ytcgcacegkbbmiaa.kindly s m h.2 r).err ≠ 0 then Ytcgcacegkbbmiaa.kindly s m h.2 r else Ytcgcacegkbbmiaa.openLoop s m f (Ytcgcacegkbbmiaa.kindly s m h.2 r)))
        (fun r => ((), if h.1 ≠ 0 ∨ (Ytcgcacegkbbmiaa.kindly t m h.2 r).err ≠ 0 then Ytcgcacegkbbmiaa.kindly t m h.2 r else Ytcgcacegkbbmiaa.openLoop t m f (Ytcgcacegkbbmiaa.kindly t m h.2 r))) := fun h => by
      by_cases h1 : h.1 = 0
      · refine (Gd.bind hp (Gd.kindly hp h.2) (K := fun _ r => if r.err = 0 then ((), Ytcgcacegkbbmiaa.openLoop s m f r) else ((), r)) (L := fun _ r => if r.err = 0 then ((), Ytcgcacegkbbmiaa.openLoop t m f r) else ((), r)) (fun _ => ih.guard ())).of_eq (fun r => ?_) (fun r => ?_)
        · by_cases h0 : (Ytcgcacegkbbmiaa.kindly s m h.2 r).err = 0
          · simp [h1, h0]
          · simp [h1, h0]
        · by_cases h0 : (Ytcgcacegkbbmiaa.kindly t m h.2 r).err = 0
          · simp [h1, h0]
          · simp [h1, h0]
      · refine (Gd.kindly hp h.2).of_eq (fun r => ?_) (fun r => ?_)
        all_goals rw [if_pos (.inl h1)]
    refine (Gd.bind hp (Gd.blockHead hp) (fun h => (g2 h).guard ())).of_eq (fun r => ?_) (fun r => ?_)
    · rw [openLoop_succ]
      by_cases h0 : (Ytcgcacegkbbmiaa.blockHead s r).2.2.err = 0
      · rw [if_pos h0, if_pos h0]
      · rw [if_neg h0, if_neg h0]
    · rw [openLoop_succ]
      by_cases h0 : (Ytcgcacegkbbmiaa.blockHead t r).2.2.err = 0
      · rw [if_pos h0, if_pos h0]
      · rw [if_neg h0, if_neg h0]
theorem openLoop_fuel (m : Nat) (s : ByteArray) (d : Nat) : ∀ (f : Nat) (r : St), r.pos ≤ 8 * s.size → r.err = 0 → 8 * s.size < f + r.pos → openLoop s m (f + d) r = openLoop s m f r
  | 0, r, hp, _, hf => by omega
  | f + 1, r, hp, h0, hf => by
    rw [show f + 1 + d = f + d + 1 from by omega]
    rw [openLoop_succ, openLoop_succ]
    by_cases h1 : (Ytcgcacegkbbmiaa.blockHead s r).2.2.err = 0
    · rw [if_pos h1, if_pos h1]
      by_cases h2 : (Ytcgcacegkbbmiaa.blockHead s r).1 ≠ 0 ∨ (Ytcgcacegkbbmiaa.kindly s m (Ytcgcacegkbbmiaa.blockHead s r).2.1 (Ytcgcacegkbbmiaa.blockHead s r).2.2).err ≠ 0
      · rw [if_pos h2, if_pos h2]
      · rw [if_neg h2, if_neg h2]
        have hb := (blockHead_ok h1).1
        have hm1 := mono_blockHead s r hp
        have hm2 := mono_kindly s m (Ytcgcacegkbbmiaa.blockHead s r).2.1 (Ytcgcacegkbbmiaa.blockHead s r).2.2 hm1.2
        refine openLoop_fuel m s d f _ hm2.2 ?_ (by omega)
        by_cases h3 : (Ytcgcacegkbbmiaa.kindly s m (Ytcgcacegkbbmiaa.blockHead s r).2.1 (Ytcgcacegkbbmiaa.blockHead s r).2.2).err = 0
        · exact h3
        · exact absurd (.inr h3) h2
    · rw [if_neg h1, if_neg h1]
/-- What is told of the whole. -/
theorem opened_sim (hp : Pre s t P) (m : Nat) (he : (opened s m).err = 0) : (opened t m = opened s m ∧ (opened s m).pos ≤ P) ∨ (P < (opened s m).pos ∧ (P = 8 * t.size → (opened t m).err = 2)) := by
  have e1 : opened s m = Ytcgcacegkbbmiaa.openLoop s m (8 * s.size + 1 + (8 * t.size + 1)) ⟨0, [], 0⟩ := (openLoop_fuel m s _ _ _ (by simp) rfl (by simp)).symm
  have e2 : opened t m = Ytcgcacegkbbmiaa.openLoop t m (8 * s.size + 1 + (8 * t.size + 1)) ⟨0, [], 0⟩ := by
    rw [Nat.add_comm]; exact (openLoop_fuel m t _ _ _ (by simp) rfl (by simp)).symm
  rw [e1] at he ⊢
  rw [e2]
  have := (Gd.openLoop (m := m) hp (8 * s.size + 1 + (8 * t.size + 1))).sim ⟨0, [], 0⟩ (by simp) he
  rcases this with ⟨h1, h2⟩ | h
  · exact .inl ⟨by simpa using h1, h2⟩
  · exact .inr h
theorem opened_fit (s : ByteArray) (m : Nat) : (opened s m).out.length ≤ m :=
  (Gd.openLoop (m := m) (s := s) (t := s) (P := 0) ⟨fun _ h => absurd h (by omega), by omega, by omega, rfl⟩ (8 * s.size + 1)).fit ⟨0, [], 0⟩ (by simp)
theorem opened_pos (s : ByteArray) (m : Nat) : (opened s m).pos ≤ 8 * s.size :=
  ((Gd.openLoop (m := m) (s := s) (t := s) (P := 0) ⟨fun _ h => absurd h (by omega), by omega, by omega, rfl⟩ (8 * s.size + 1)).mono ⟨0, [], 0⟩ (by simp)).2
theorem opened_pos3 (s : ByteArray) (m : Nat) (he : (opened s m).err = 0) : 3 ≤ (opened s m).pos := by
  unfold opened at he ⊢
  rw [openLoop_succ] at he ⊢
  by_cases h1 : (Ytcgcacegkbbmiaa.blockHead s ⟨0, [], 0⟩).2.2.err = 0
  · rw [if_pos h1]
    have hb := (blockHead_ok h1).1
    have hm1 := mono_blockHead s ⟨0, [], 0⟩ (by simp)
    have hm2 := mono_kindly s m (Ytcgcacegkbbmiaa.blockHead s ⟨0, [], 0⟩).2.1 (Ytcgcacegkbbmiaa.blockHead s ⟨0, [], 0⟩).2.2 hm1.2
    have hb : (Ytcgcacegkbbmiaa.blockHead s ⟨0, [], 0⟩).2.2.pos = 0 + 3 := hb
    split
    · omega
    · have := ((Gd.openLoop (m := m) (s := s) (t := s) (P := 0) ⟨fun _ h => absurd h (by omega), by omega, by omega, rfl⟩ (8 * s.size)).mono _ hm2.2).1
      dsimp only at this
      omega
  · rw [if_neg h1] at he; exact absurd he h1
end
/-- Two texts whose first n bytes are the same. -/
structure Pfx (n : Nat) (s t : ByteArray) : Prop where
  ls : n ≤ s.size
  lt : n ≤ t.size
  same : ∀ i, i < n → t.data.toList.getD i 0 = s.data.toList.getD i 0
theorem Pfx.pre {n : Nat} {s t : ByteArray} (h : Pfx n s t) : Pre s t (8 * n) :=
  ⟨fun i hi => by unfold bit; rw [h.same (i / 8) (by omega)], by have := h.ls; omega, by have := h.lt; omega, by omega⟩
theorem openV_ok {s : ByteArray} {k : Nat} (h : (openV s k).2.2 = 0) : k ≤ 1048576 ∧ (opened s k).err = 0 ∧ openV s k = ((opened s k).out, ((opened s k).pos + 7) / 8, 0) := by
  unfold openV at h ⊢
  rw [Int.toNat_natCast] at h ⊢
  by_cases h1 : (k : Int) < 0 ∨ (1048576 : Int) < (k : Int)
  · rw [if_pos h1] at h; exact absurd h (by decide)
  · rw [if_neg h1] at h ⊢
    by_cases h2 : (opened s k).err = 0
    · rw [if_pos h2]
      exact ⟨by omega, h2, rfl⟩
    · rw [if_neg h2] at h; exact absurd h h2
theorem openV_of {s : ByteArray} {k : Nat} (hk : k ≤ 1048576) : openV s k = if (opened s k).err = 0 then ((opened s k).out, ((opened s k).pos + 7) / 8, 0) else ([], 0, (opened s k).err) := by
  unfold openV
  rw [Int.toNat_natCast, if_neg (by omega)]
theorem openV_bad {s : ByteArray} {k : Int} (h : (openV s k).2.2 ≠ 0) : (openV s k).1 = [] ∧ (openV s k).2.1 = 0 := by
  unfold openV at h ⊢
  split
  · exact ⟨rfl, rfl⟩
  · rename_i h1
    rw [if_neg h1] at h
    split
    · rename_i h2
      rw [if_pos h2] at h; exact absurd rfl h
    · exact ⟨rfl, rfl⟩
theorem openV_bounds {s : ByteArray} {k : Nat} (h : (openV s k).2.2 = 0) : 1 ≤ (openV s k).2.1 ∧ (openV s k).2.1 ≤ s.size ∧ (openV s k).1.length ≤ k := by
  obtain ⟨_, h1, h2⟩ := openV_ok h
  rw [h2]
  have := opened_pos s k
  have := opened_pos3 s k h1
  have := opened_fit s k
  dsimp only
  omega
theorem openV_more {s t : ByteArray} {k : Nat} (h : (openV s k).2.2 = 0) (hp : Pfx (openV s k).2.1 s t) : openV t k = openV s k := by
  obtain ⟨hk, h1, h2⟩ := openV_ok h
  rw [h2] at hp ⊢
  have hpr := hp.pre
  dsimp only at hpr
  rcases opened_sim hpr k h1 with ⟨h3, _⟩ | ⟨h3, _⟩
  · rw [openV_of hk, h3, if_pos h1]
  · omega
theorem openV_cut {s t : ByteArray} {k n : Nat} (h : (openV s k).2.2 = 0) (hn : n + 1 = (openV s k).2.1) (hp : Pfx n s t) (ht : t.size = n) : (openV t k).2.2 = 2 := by
  obtain ⟨hk, h1, h2⟩ := openV_ok h
  rw [h2] at hn
  dsimp only at hn
  rcases opened_sim hp.pre k h1 with ⟨_, h3⟩ | ⟨_, h3⟩
  · omega
  · have h4 := h3 (by rw [ht])
    rw [openV_of hk, h4, if_neg (by decide)]
end Go.Proofs.Ytcgcacegkbbmiaa
