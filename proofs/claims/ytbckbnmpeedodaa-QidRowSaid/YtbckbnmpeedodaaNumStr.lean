/-
  The conversion of bytes to a string, at any slice that reads.
-/
import Derived.Test.YtbckbnmpeedodaaQidTake
namespace Go.Proofs.Ytbckbnmpeedodaa
open Go.RowKit

def strOf (L : List UInt8) : ByteArray := ⟨L.toArray⟩
theorem strOf_inj {L M : List UInt8} : strOf L = strOf M ↔ L = M := by
  unfold strOf
  constructor
  · intro h; injection h with h; simpa using congrArg Array.toList h
  · rintro rfl; rfl

theorem strOf_toList (L : List UInt8) : (strOf L).toList = L := by
  rw [ByteArray.toList_eq]
  simp [strOf]
theorem strOf_eq {L M : List UInt8} (h : L = M) : ((strOf L).toList == M) = true := by rw [strOf_toList, h]; simp
theorem strOf_beq {L M : List UInt8} (h : L = M) : ((strOf L).toList == (strOf M).toList) = true := by rw [h]; simp

theorem conv_str (v : Value) (g : Option Nat) (L : List UInt8) (w : World) (hr : Rd w v g (L.map bv)) : (convert 28 9 v).run Try.prog w = .ok (.string (strOf L)) w := by
  rcases hr with ⟨rfl, _, hL⟩ | ⟨b, off, cap, rfl, _, _, h1, h2, hc⟩
  · have : L = [] := by simpa using hL
    subst this
    exact run_convert_bytes_nil w 28 5 Try.underlying28 Try.underlying5 0 0 _ Try.underlying9
  · rw [List.length_map]
    have h := run_convert_bytes_arg w 28 5 Try.underlying28 Try.underlying5 b off L.length cap (L.map fun x => (x.toNat : Int)) (by simp) (fun i hi => ?_) _ Try.underlying9
    · rw [h]
      congr 2
      unfold strOfNums strOf
      congr 2
      rw [List.map_map]
      conv => rhs; rw [← List.map_id L]
      apply List.map_congr_left
      intro a _
      simp
    · rw [hc i (bv (L[i])) (get_bv L i hi)]
      simp [bv, hi]
end Go.Proofs.Ytbckbnmpeedodaa
