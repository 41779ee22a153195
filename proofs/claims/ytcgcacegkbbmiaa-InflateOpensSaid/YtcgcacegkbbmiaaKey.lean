/- The keys of huff's map: a size and a code. -/
import Derived.Test.YtcgcacegkbbmiaaBase
import Derived.Maps.OwnOps
import Derived.Maps.Views
import Derived.Maps.OwnSet
import Derived.DeepKeys4
import Derived.MapViews
namespace Go.Proofs.Ytcgcacegkbbmiaa
open Go.RowKit Go.Maps

theorem laidOut : laidOutB Try.prog = true := by kernel_rfl
theorem row95 : (95 : TypeId) < Try.prog.types.size := of_decide_eq_true (by kernel_rfl)
theorem wide95 : (match Try.prog.underlying 95 with | some (.array _ _) | some (.struct _) => true | _ => false) = true := by rw [Try.underlying95]
theorem law95 : Keyed Try.prog 95 := Keyed.of_law (deep_law_laid laidOut (m := 2) (by omega) row95 (by kernel_rfl) wide95)
theorem keyType95 : Try.prog.keyType 95 = true := by kernel_rfl
theorem cells95 : Try.prog.cellsOf 95 = 2 := by kernel_rfl
theorem cells3 : Try.prog.cellsOf 3 = 1 := by kernel_rfl

/-- A key: how long a code is, the code. -/
def key (k c : Nat) : Value := .agg #[.int .i64 (k : Int), .int .i64 (c : Int)]
def kl (k c : Nat) : Lit := .string (keyBytes [.int .i64 (k : Int), .int .i64 (c : Int)])

theorem key_of (k c : Nat) (hk : k < 9223372036854775808) (hc : c < 9223372036854775808) : keyOf Try.prog 95 (key k c) = some (kl k c) := by
  obtain ⟨n, hn⟩ : ∃ n, Try.prog.types.size = n + 1 := ⟨Try.prog.types.size - 1, by have : (95 : Nat) < Try.prog.types.size := row95; omega⟩
  have w1 : (Lit.int .i64 (k : Int)).wf = true := WalkArith.wf_i64 (by omega)
  have w2 : (Lit.int .i64 (c : Int)).wf = true := WalkArith.wf_i64 (by omega)
  have f : (key k c).formed Try.prog 95 = true := by simp [key, Value.formed, Try.underlying95, cells95]
  unfold keyOf
  rw [Try.underlying95]
  simp only [keyType95, f, Bool.and_self, if_true]
  rw [hn]
  simp [Program.keyLits, Try.underlying95, Try.underlying3, cells95, cells3, key, Value.cells, w1, w2, kl]
theorem kl_inj {k c k' c' : Nat} (hk : k < 9223372036854775808) (hc : c < 9223372036854775808) (hk' : k' < 9223372036854775808) (hc' : c' < 9223372036854775808) (h : kl k c = kl k' c') : k = k' ∧ c = c' := by
  have h1 := key_of k c hk hc
  have h2 := key_of k' c' hk' hc'
  rw [← h] at h2
  have := law95.inj h1 h2
  simp [key] at this
  exact ⟨by omega, by omega⟩
theorem kl_key (k c : Nat) : WideAt.IsKeyLit (kl k c) := trivial
end Go.Proofs.Ytcgcacegkbbmiaa
