/-
  The conversion of bytes to a string, at any slice that reads.
-/
import Derived.Test.YtnddaildicmneaaRows
import Derived.Test.YtnddaildicmneaaBase
import Derived.Lib.Walk
import Derived.WalkSpells
namespace Go.Proofs.Ytnddaildicmneaa
open Go.RowKit

def strOf (L : List UInt8) : ByteArray := ⟨L.toArray⟩
theorem strOf_inj {L M : List UInt8} : strOf L = strOf M ↔ L = M := by
  unfold strOf
  constructor
  · intro h; injection h with h; simpa using congrArg Array.toList h
  · rintro rfl; rfl

theorem strOf_toList (L : List UInt8) : (strOf L).toList = L := by
  rw [ByteArray.toList_eq]
  simp [strOf]
theorem strOf_eq {L M : List UInt8} (h : L = M) : ((strOf L).toList == M) = true := by rw [strOf_toList, h]; simp
theorem strOf_beq {L M : List UInt8} (h : L = M) : ((strOf L).toList == (strOf M).toList) = true := by rw [h]; simp

set_option maxRecDepth 20000 in
theorem conv_str (v : Value) (g : Option Nat) (L : List UInt8) (w : World) (hr : Rd w v g (L.map bv)) : (convert 41 9 v).run Try.prog w = .ok (.string (strOf L)) w := by
  by_cases hL : L = []
  · subst hL
    obtain ⟨A, c, rfl, _⟩ := hr.form
    cases A with
    | none => exact run_convert_bytes_nil w 41 5 Try.underlying41 Try.underlying5 0 c _ Try.underlying9
    | some a =>
      have hl : (loadCells a 0).run Try.prog w = .ok (([] : List Int).map (Value.int .u8)).toArray w := run_loadCells_list w a [] (fun j v h => by simp at h)
      simp only [List.map_nil, List.length_nil]
      rw [run_convert_bytes_string w 41 9 5 _ 0 c Try.underlying41 Try.underlying5 Try.underlying9, run_bytesToString w _ 0 c [] hl]
      rfl
  · obtain ⟨b, off, cap, rfl, _, _, h1, h2, hc⟩ := hr.plain (by simpa using List.length_pos_iff.2 hL)
    rw [List.length_map]
    have h := run_convert_bytes_arg w 41 5 Try.underlying41 Try.underlying5 b off L.length cap (L.map fun x => (x.toNat : Int)) (by simp) (fun i hi => ?_) _ Try.underlying9
    · rw [h]
      congr 2
      unfold strOfNums strOf
      congr 2
      rw [List.map_map]
      conv => rhs; rw [← List.map_id L]
      apply List.map_congr_left
      intro a _
      simp
    · rw [hc i (bv (L[i])) (get_bv L i hi)]
      simp [bv, hi]
end Go.Proofs.Ytnddaildicmneaa
