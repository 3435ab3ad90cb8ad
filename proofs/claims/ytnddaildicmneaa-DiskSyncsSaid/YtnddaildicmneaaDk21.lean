/-
  disk: DiskSyncs, all arguments.
-/
import Derived.Test.YtnddaildicmneaaDk20
namespace Go.Proofs.Ytnddaildicmneaa
open Go.Proofs Go.RowKit Go.Sort Go.Maps
set_option maxHeartbeats 2000000 in
theorem dsyncs_long (A0 B0 C0 : Option Addr) (na nb nc cA cB cC : Nat) (w : World) (h : 40 < na ∨ 40 < nb ∨ 60 < nc) :
    Calls Try.prog 7 #[.slice A0 na cA, .slice B0 nb cB, .slice C0 nc cC] w (YesD w) := by
  have hkn := known7 w
  have Hkn := Lib.hid hkn
  clear hkn
  by_cases h1 : 40 < na
  · have g1 : (40 : Int) < (na : Int) := by omega
    go_enter Try.func7, Try.ntmps7
    go_wp2_with fail
    refine (Hkn.out).mono ?_
    rintro e w1 ⟨rfl, hk1⟩
    go_wp2_with fail
    go_ret
    exact ⟨rfl, hk1⟩
  · have g1 : ¬ (40 : Int) < (na : Int) := by omega
    by_cases h2 : 40 < nb
    · have g2 : (40 : Int) < (nb : Int) := by omega
      go_enter Try.func7, Try.ntmps7
      go_wp2_with fail
      refine (Hkn.out).mono ?_
      rintro e w1 ⟨rfl, hk1⟩
      go_wp2_with fail
      go_ret
      exact ⟨rfl, hk1⟩
    · have g2 : ¬ (40 : Int) < (nb : Int) := by omega
      have g3 : (60 : Int) < (nc : Int) := by omega
      go_enter Try.func7, Try.ntmps7
      go_wp2_with fail
      refine (Hkn.out).mono ?_
      rintro e w1 ⟨rfl, hk1⟩
      go_wp2_with fail
      go_ret
      exact ⟨rfl, hk1⟩
theorem dsyncs_all (A0 B0 C0 : Option Addr) (cA cB cC : Nat) (gA gB gC : Option Nat) (A B : List UInt8) (keep : List Bool) (w : World) (hA : recB.Rd w (.slice A0 A.length cA) gA A) (hB : recB.Rd w (.slice B0 B.length cB) gB B) (hC : recBo.Rd w (.slice C0 keep.length cC) gC keep) :
    Calls Try.prog 7 #[.slice A0 A.length cA, .slice B0 B.length cB, .slice C0 keep.length cC] w (YesD w) := by
  by_cases h : 40 < A.length ∨ 40 < B.length ∨ 60 < keep.length
  · exact dsyncs_long A0 B0 C0 _ _ _ cA cB cC w h
  · exact dsyncs_any A0 B0 C0 cA cB cC gA gB gC A B keep w hA hB hC (by omega) (by omega) (by omega)
end Go.Proofs.Ytnddaildicmneaa
