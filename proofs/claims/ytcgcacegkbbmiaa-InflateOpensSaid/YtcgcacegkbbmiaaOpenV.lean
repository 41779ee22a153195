/- What Open of package inflate says, as a function. -/
import Derived.Test.YtcgcacegkbbmiaaDynamic
namespace Go.Proofs.Ytcgcacegkbbmiaa

/-- The place goes on, and not behind the end. -/
def Mono (s : ByteArray) (r r' : St) : Prop := r.pos ≤ 8 * s.size → r.pos ≤ r'.pos ∧ r'.pos ≤ 8 * s.size
theorem Mono.refl (s : ByteArray) (r : St) : Mono s r r := fun h => ⟨Nat.le_refl _, h⟩
theorem Mono.trans {s : ByteArray} {a b c : St} (h : Mono s a b) (k : Mono s b c) : Mono s a c := fun ha => ⟨Nat.le_trans (h ha).1 (k (h ha).2).1, (k (h ha).2).2⟩
theorem Mono.same {s : ByteArray} {a b : St} (h : b.pos = a.pos) : Mono s a b := fun ha => by rw [h]; exact ⟨Nat.le_refl _, ha⟩
theorem mono_num (s : ByteArray) (k : Nat) (r : St) : Mono s r (num s k r).2 := fun h => ⟨num_pos h, num_pos_le h⟩
theorem mono_sym (s : ByteArray) (L : List Nat) (r : St) : Mono s r (sym s L r).2 := fun h => ⟨sym_pos.1, sym_pos_le h⟩
theorem mono_fail (s : ByteArray) (r : St) (e : Int) : Mono s r (fail r e) := .same (fail_pos _ _)
theorem mono_say (s : ByteArray) (most : Nat) (b : UInt8) (r : St) : Mono s r (say most b r) := .same (say_pos _ _ _)
theorem mono_copies (s : ByteArray) (most : Nat) (Ld : List Nat) (n : Int) (r : St) : Mono s r (copies s most Ld n r) := by
  unfold copies
  split
  · dsimp only
    split
    · exact (((mono_num _ _ _).trans (mono_sym _ _ _)).trans (mono_num _ _ _)).trans ((Mono.same (tooFar_pos _ _)).trans (.same (copyLoop_pos _ _ _ _)))
    · exact ((mono_num _ _ _).trans (mono_sym _ _ _)).trans (mono_fail _ _ _)
  · exact mono_fail _ _ _
theorem mono_blockLoop (s : ByteArray) (most : Nat) (Ll Ld : List Nat) : ∀ (f : Nat) (r : St), Mono s r (blockLoop s most Ll Ld f r)
  | 0, r => .refl _ _
  | f + 1, r => by
    show Mono s r (if r.err = 0 then _ else r)
    split
    · split
      · exact mono_sym _ _ _
      · split
        · exact ((mono_sym _ _ _).trans (mono_say _ _ _ _)).trans (mono_blockLoop s most Ll Ld f _)
        · exact ((mono_sym _ _ _).trans (mono_copies _ _ _ _ _)).trans (mono_blockLoop s most Ll Ld f _)
    · exact .refl _ _
theorem mono_coder (s : ByteArray) (L : List Nat) (r : St) : Mono s r (coder L r) := by
  unfold coder
  split
  · exact .refl _ _
  · exact mono_fail _ _ _
theorem mono_block (s : ByteArray) (most : Nat) (Ll Ld : List Nat) (r : St) : Mono s r (block s most Ll Ld r) :=
  ((mono_coder _ _ _).trans (mono_coder _ _ _)).trans (mono_blockLoop _ _ _ _ _ _)
theorem mono_storedLoop (s : ByteArray) (most : Nat) : ∀ (n : Nat) (r : St), Mono s r (storedLoop s most n r)
  | 0, _ => .refl _ _
  | n + 1, _ => ((mono_num _ _ _).trans (mono_say _ _ _ _)).trans (mono_storedLoop s most n _)
theorem mono_toByte (s : ByteArray) (r : St) : Mono s r (toByte r) := fun h => by unfold toByte; dsimp only; omega
theorem mono_storedHead (s : ByteArray) (r : St) : Mono s r (storedHead s r).2 := by
  unfold storedHead
  dsimp only
  split
  · exact (((mono_toByte _ _).trans (mono_num _ _ _)).trans (mono_num _ _ _)).trans (mono_fail _ _ _)
  · exact ((mono_toByte _ _).trans (mono_num _ _ _)).trans (mono_num _ _ _)
theorem mono_stored (s : ByteArray) (most : Nat) (r : St) : Mono s r (stored s most r) := (mono_storedHead _ _).trans (mono_storedLoop _ _ _ _)
theorem mono_lensLoop (s : ByteArray) : ∀ (n i : Nat) (f : Nat → Nat) (r : St), Mono s r (lensLoop s n i f r).2
  | 0, _, _, _ => .refl _ _
  | n + 1, i, _, _ => (mono_num _ _ _).trans (mono_lensLoop s n (i + 1) _ _)
theorem mono_readLoop (s : ByteArray) (L : List Nat) (all : Nat) : ∀ (f : Nat) (l : List Nat) (r : St), Mono s r (readLoop s L all f l r).2
  | 0, _, r => .refl _ _
  | f + 1, l, r => by
    unfold readLoop
    split
    · dsimp only
      split
      · split
        · exact (mono_sym _ _ _).trans (mono_fail _ _ _)
        · exact ((mono_sym _ _ _).trans (mono_num _ _ _)).trans (mono_readLoop s L all f _ _)
      · split
        · exact ((mono_sym _ _ _).trans (mono_num _ _ _)).trans (mono_readLoop s L all f _ _)
        · split
          · exact ((mono_sym _ _ _).trans (mono_num _ _ _)).trans (mono_readLoop s L all f _ _)
          · exact (mono_sym _ _ _).trans (mono_readLoop s L all f _ _)
    · exact .refl _ _
theorem mono_dynHead (s : ByteArray) (r : St) : Mono s r (dynHead s r).2.2.2 := by
  unfold dynHead
  dsimp only
  split
  · exact (((mono_num _ _ _).trans (mono_num _ _ _)).trans (mono_num _ _ _)).trans (mono_fail _ _ _)
  · exact ((mono_num _ _ _).trans (mono_num _ _ _)).trans (mono_num _ _ _)
theorem mono_dynTail (s : ByteArray) (most many far : Nat) (l : List Nat) (r : St) : Mono s r (dynTail s most many far l r) := by
  unfold dynTail
  split
  · split
    · exact mono_fail _ _ _
    · exact mono_block _ _ _ _ _
  · exact .refl _ _
theorem mono_dynamic (s : ByteArray) (most : Nat) (r : St) : Mono s r (dynamic s most r) := by
  unfold dynamic
  dsimp only
  split
  · exact ((((mono_dynHead _ _).trans (mono_lensLoop _ _ _ _ _)).trans (mono_coder _ _ _)).trans (mono_readLoop _ _ _ _ _ _)).trans (mono_dynTail _ _ _ _ _ _)
  · exact (mono_dynHead _ _).trans (mono_lensLoop _ _ _ _ _)

/-- A block of some kind. -/
def kindly (s : ByteArray) (most k : Nat) (r : St) : St :=
  if k = 0 then stored s most r else if k = 1 then block s most fixedL fixedD r else dynamic s most r
/-- The head of a block: is it the last, of which kind. -/
def blockHead (s : ByteArray) (r : St) : Nat × Nat × St :=
  let a := num s 1 r
  let b := num s 2 a.2
  (a.1, b.1, if 3 ≤ b.1 then fail b.2 2 else b.2)
/-- So many blocks, or till they end. -/
def openLoop (s : ByteArray) (most : Nat) : Nat → St → St
  | 0, r => r
  | f + 1, r =>
    let h := blockHead s r
    if h.2.2.err = 0 then
      let d := kindly s most h.2.1 h.2.2
      if h.1 ≠ 0 ∨ d.err ≠ 0 then d else openLoop s most f d
    else h.2.2
def opened (s : ByteArray) (most : Nat) : St := openLoop s most (8 * s.size + 1) ⟨0, [], 0⟩
/-- What Open says. -/
def openV (s : ByteArray) (k : Int) : List UInt8 × Nat × Int :=
  if k < 0 ∨ 1048576 < k then ([], 0, 1)
  else if (opened s k.toNat).err = 0 then ((opened s k.toNat).out, ((opened s k.toNat).pos + 7) / 8, 0)
  else ([], 0, (opened s k.toNat).err)
theorem mono_kindly (s : ByteArray) (most k : Nat) (r : St) : Mono s r (kindly s most k r) := by
  unfold kindly
  split
  · exact mono_stored _ _ _
  · split
    · exact mono_block _ _ _ _ _
    · exact mono_dynamic _ _ _
theorem mono_blockHead (s : ByteArray) (r : St) : Mono s r (blockHead s r).2.2 := by
  unfold blockHead
  dsimp only
  split
  · exact ((mono_num _ _ _).trans (mono_num _ _ _)).trans (mono_fail _ _ _)
  · exact (mono_num _ _ _).trans (mono_num _ _ _)
theorem num_pos_ok {s : ByteArray} {k : Nat} {r : St} (h : (num s k r).2.err = 0) : (num s k r).2.pos = r.pos + k ∧ r.err = 0 := by
  unfold num at h ⊢
  split
  · rename_i he
    rw [if_pos he] at h
    split
    · exact ⟨rfl, he⟩
    · rename_i hp
      rw [if_neg hp] at h; exact absurd (show (2 : Int) = 0 from h) (by decide)
  · rename_i he
    rw [if_neg he] at h; exact absurd h he
theorem blockHead_ok {s : ByteArray} {r : St} (h : (blockHead s r).2.2.err = 0) : (blockHead s r).2.2.pos = r.pos + 3 ∧ r.err = 0 ∧ (blockHead s r).2.1 < 3 := by
  unfold blockHead at h ⊢
  dsimp only at h ⊢
  split
  · rename_i h3
    rw [if_pos h3] at h; exact absurd h (fail_err_ne (by decide))
  · rename_i h3
    rw [if_neg h3] at h
    have a := num_pos_ok h
    have b := num_pos_ok a.2
    exact ⟨by omega, b.2, by omega⟩
end Go.Proofs.Ytcgcacegkbbmiaa
