/-
  geom: equality; the plain laws.
-/
import Derived.Test.YtblmbchjafffbaaG6
import Derived.Test.YtblmbchjafffbaaG4
import Derived.Test.YtblmbchjafffbaaI6
namespace Go.Proofs.Ytblmbchjafffbaa
open Go.RowKit

def eqG (i j : Geo) : Bool := (i.b == j.b) && (i.n == j.n) && (i.m == j.m)
theorem eqG_iff (i j : Geo) : eqG i j = true ↔ i = j := by
  cases i
  cases j
  simp [eqG, and_assoc]
theorem eql_geo (i j : Geo) (w : World) : (Op.equalIn 10000 60 i.val j.val).run Try.prog w = .ok (eqG i j) w := by
  unfold Geo.val
  simp [go_sem]
  unfold eqG
  by_cases a1 : i.b = j.b
  · by_cases a2 : i.n = j.n
    · by_cases a3 : i.m = j.m
      · simp [a1, a2, a3]
      · simp [a1, a2, a3]
    · simp [a1, a2]
  · simp [a1]
theorem geql_run (i j : Geo) (w : World) : (binOp .eql 60 i.val j.val).run Try.prog w = .ok (.bool (eqG i j)) w := by
  have h := eql_geo i j w
  unfold Geo.val at h ⊢
  rw [run_eql_struct, h]
  rfl
theorem gneq_run (i j : Geo) (w : World) : (binOp .neq 60 i.val j.val).run Try.prog w = .ok (.bool (!eqG i j)) w := by
  have h := eql_geo i j w
  unfold Geo.val at h ⊢
  rw [run_neq_struct, h]
  rfl

theorem rdG_enc (g : Geo) (h : g.ok) : rdG (encGB g) = g := by
  obtain ⟨h1, h2, h3, h4, h5⟩ := h
  obtain ⟨l1, l2, -⟩ := gsizes_le h1
  obtain ⟨b, hb⟩ := Int.eq_ofNat_of_zero_le (show 0 ≤ g.b by omega)
  obtain ⟨n, hn⟩ := Int.eq_ofNat_of_zero_le (show 0 ≤ g.n by omega)
  obtain ⟨m, hm⟩ := Int.eq_ofNat_of_zero_le (show 0 ≤ g.m by omega)
  obtain ⟨T, hT⟩ : ∃ T, T = zeros (g.b.toNat - 20) := ⟨_, rfl⟩
  have e : encGB g = (markB ++ nb 2 1) ++ (nb 4 b ++ (nb 4 n ++ (nb 4 m ++ T))) := by
    rw [encGB, encH, Geo.nums, hb, hn, hm, hT]
    simp [enc4, hb]
  have hml : (markB ++ nb 2 1).length = 8 := by simp [markB, nb_len]
  have s0 : stG (encGB g) 0 = (nb 4 b ++ (nb 4 n ++ (nb 4 m ++ T)), 0) := by
    show (rawLeft _ 0 8, rawErr _ 0 8) = _
    rw [e, rawLeft, rawErr]
    have hle : (8 : Int) ≤ (((markB ++ nb 2 1) ++ (nb 4 b ++ (nb 4 n ++ (nb 4 m ++ T)))).length : Nat) := by
      rw [List.length_append, hml]; omega
    rw [if_pos ⟨rfl, by omega, hle⟩, if_neg (by simp), if_neg (by omega), if_neg (by omega)]
    rw [show (8 : Int).toNat = (markB ++ nb 2 1).length from by rw [hml]; rfl, List.drop_left]
  have c0 := step_chunk (nb 4 b) (nb 4 n ++ (nb 4 m ++ T)) 4 (by omega) (by omega) (by rw [nb_len]; rfl)
  have c1 := step_chunk (nb 4 n) (nb 4 m ++ T) 4 (by omega) (by omega) (by rw [nb_len]; rfl)
  have c2 := step_chunk (nb 4 m) T 4 (by omega) (by omega) (by rw [nb_len]; rfl)
  have s1 : stG (encGB g) 1 = (nb 4 n ++ (nb 4 m ++ T), 0) := by
    show stepS (stG (encGB g) 0) 4 = _
    rw [s0]; exact c0.1
  have s2 : stG (encGB g) 2 = (nb 4 m ++ T, 0) := by
    show stepS (stG (encGB g) 1) 4 = _
    rw [s1]; exact c1.1
  have v0 : gvN (encGB g) 0 = b := by unfold gvN; rw [s0]; exact c0.2.trans (le4 (by omega))
  have v1 : gvN (encGB g) 1 = n := by unfold gvN; rw [s1]; exact c1.2.trans (le4 (by omega))
  have v2 : gvN (encGB g) 2 = m := by unfold gvN; rw [s2]; exact c2.2.trans (le4 (by omega))
  unfold rdG
  rw [v0, v1, v2]
  cases g
  simp only at hb hn hm ⊢
  rw [hb, hn, hm]
theorem good_encG (g : Geo) (hc : chkG g = 0) : goodG (encGB g) := by
  unfold goodG
  rw [rdG_enc g (chkG_ok hc)]
  exact ⟨hc, rfl⟩
theorem decG_enc (g : Geo) (hc : chkG g = 0) : decGo (encGB g) = g ∧ decGe (encGB g) = 0 := by
  have h := good_encG g hc
  rw [decGo, decGe, if_pos h, if_pos h]
  exact ⟨rdG_enc g (chkG_ok hc), rfl⟩
theorem encGB_len (g : Geo) (h : g.ok) : (encGB g).length = g.b.toNat := by
  obtain ⟨h1, -⟩ := h
  obtain ⟨l1, l2, -⟩ := gsizes_le h1
  rw [encGB, List.length_append, encH_len]
  simp [zeros]
  omega
end Go.Proofs.Ytblmbchjafffbaa
