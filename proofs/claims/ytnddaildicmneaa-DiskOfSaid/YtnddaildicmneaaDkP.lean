/-
  disk: places of pending writes: as keys of a map, as records of a row; sectors. Plain words.
-/
import Derived.Test.YtnddaildicmneaaChecked
import Derived.Test.YtnddaildicmneaaKM
import Derived.Test.YtnddaildicmneaaRec
namespace Go.Proofs.Ytnddaildicmneaa
open Go.RowKit Go.Maps

theorem laidOutD : laidOutB Try.prog = true := by kernel_rfl
theorem lawP : WideMaps.KeyLaw Try.prog 104 := deep_law_laid laidOutD (m := 3) (by omega) (of_decide_eq_true (by kernel_rfl)) (by kernel_rfl) (by kernel_rfl)
def recP : RecT (Int × Int) := ⟨104, 2, fun x => [.int .i64 x.1, .int .i64 x.2], fun _ => rfl, fun _ u hu => by simp at hu; rcases hu with rfl | rfl <;> rfl, by decide⟩
theorem infoP : (Try.prog.info? 104).map (fun i => (i.zero, i.size, i.bytes)) = some (some (.agg #[.int .i64 0, .int .i64 0]), 2, 16) := by kernel_rfl
def wfI (a : Int) : Prop := (Lit.int .i64 a).wf = true
theorem keyTypeP : Try.prog.keyType 104 = true := by kernel_rfl
theorem cellsP : Try.prog.cellsOf 104 = 2 := by kernel_rfl
theorem keyP_is (a b : Int) (ha : wfI a) (hb : wfI b) : ∃ kl, keyOf Try.prog 104 (.agg #[.int .i64 a, .int .i64 b]) = some kl := by
  have hC : Try.prog.cellsOf 3 = 1 := by kernel_rfl
  have hf : (Value.agg #[.int .i64 a, .int .i64 b]).formed Try.prog 104 = true := by simp [Value.formed, Try.underlying104, cellsP]
  obtain ⟨n, hn⟩ : ∃ n, Try.prog.types.size + 1 = n + 2 := ⟨Try.prog.types.size - 1, by have : 1 ≤ Try.prog.types.size := of_decide_eq_true (by kernel_rfl); omega⟩
  unfold keyOf
  rw [Try.underlying104]
  simp only [keyTypeP, hf, Bool.and_self, if_true, hn]
  unfold wfI at ha hb
  simp [Program.keyLits, Try.underlying104, Try.underlying3, cellsP, hC, Value.cells, ha, hb]
set_option maxRecDepth 20000 in
theorem keyP_inv (v : Value) (kl : Lit) (h : keyOf Try.prog 104 v = some kl) : ∃ a b : Int, v = .agg #[.int .i64 a, .int .i64 b] ∧ wfI a ∧ wfI b := by
  have hC : Try.prog.cellsOf 3 = 1 := by kernel_rfl
  obtain ⟨n, hn⟩ : ∃ n, Try.prog.types.size + 1 = n + 2 := ⟨Try.prog.types.size - 1, by have : 1 ≤ Try.prog.types.size := of_decide_eq_true (by kernel_rfl); omega⟩
  unfold keyOf at h
  rw [Try.underlying104] at h
  simp only [keyTypeP, Bool.true_and, hn] at h
  split at h
  · rename_i hf
    cases v <;> simp [Value.formed, Try.underlying104, cellsP] at hf
    rename_i cs
    obtain ⟨l⟩ := cs
    simp at hf
    obtain ⟨u0, u1, rfl⟩ : ∃ u0 u1, l = [u0, u1] := by
      match l, hf with
      | [u0, u1], _ => exact ⟨u0, u1, rfl⟩
    clear hf
    simp [Program.keyLits, Try.underlying104, Try.underlying3, cellsP, hC, Value.cells] at h
    cases u0 <;> try (simp [Program.keyLits] at h; done)
    rename_i q a
    by_cases h1 : q = IntKind.i64 ∧ (Lit.int IntKind.i64 a).wf = true
    · cases u1 <;> try (simp [Program.keyLits, h1] at h; done)
      rename_i q2 c
      by_cases h2 : q2 = IntKind.i64 ∧ (Lit.int IntKind.i64 c).wf = true
      · obtain ⟨rfl, w1⟩ := h1
        obtain ⟨rfl, w2⟩ := h2
        exact ⟨a, c, rfl, w1, w2⟩
      · obtain ⟨rfl, w1⟩ := h1
        simp [Program.keyLits, h2, w1] at h
    · simp [Program.keyLits, h1] at h
  · cases h
/-- the places as keys -/
def keyP : KeyT (Int × Int) where
  t := 104
  val x := .agg #[.int .i64 x.1, .int .i64 x.2]
  ok x := wfI x.1 ∧ wfI x.2
  keyed := Keyed.of_law lawP
  key x h := keyP_is x.1 x.2 h.1 h.2
  inj x y h := by
    obtain ⟨a, b⟩ := x
    obtain ⟨c, d⟩ := y
    simp at h
    exact Prod.ext h.1 h.2
  inv v kl h := by
    obtain ⟨a, b, rfl, h1, h2⟩ := keyP_inv v kl h
    exact ⟨(a, b), rfl, h1, h2⟩
theorem wfI_nat (n : Nat) (h : n < 9223372036854775808) : wfI (n : Int) := by
  simp [wfI, Lit.wf, IntKind.min, IntKind.max, IntKind.signed, IntKind.bits]; omega
end Go.Proofs.Ytnddaildicmneaa
