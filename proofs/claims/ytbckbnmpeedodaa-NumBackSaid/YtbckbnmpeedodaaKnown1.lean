/-
  loggialaw1.known returns true, and leaves alone all that was there.
-/
import Derived.Test.YtbckbnmpeedodaaNumStr
import Derived.Lib.SlBytesConst
namespace Go.Proofs.Ytbckbnmpeedodaa
open Go.RowKit

/-- a law's answer -/
def Yes (w : World) : Ending → World → Prop := fun e w' => e = .returned (.bool true) ∧ Keeps nowhere w w'

set_option maxHeartbeats 1000000 in
theorem known1 (w : World) : Calls Try.prog 23 #[] w (Yes w) := by
  have ho0 := OutAt.new w
  have hk0 : Keeps nowhere w (w.alloc (.cells #[.slice none 0 0] 30)) := (Keeps.refl _ w).alloc _
  have kc := fun (w : World) (C : Array Value) (n c : Nat) => Lib.run_convert_bytes_const (P := Try.prog) w 28 5 C n c Try.underlying28 Try.underlying5
  have Ho0 := Lib.hid ho0
  have Hk0 := Lib.hid hk0
  clear ho0 hk0
  go_enter Try.func23, Try.ntmps23
  go_wp2_with fail
  refine (put_any _ _ _ 2 4660 _ Ho0.out (by omega) (by omega) (by simp)).mono ?_
  rintro e w1 ⟨rfl, g1, ho1, hg1, hk1⟩
  have e1 : ([] ++ pb 2 4660 : List UInt8) = [52, 18] := by decide
  rw [e1] at ho1
  have hf1 : Above w.heap.size g1 := (Above.none _).of_from hg1 (by simp)
  have hk1' : Keeps nowhere w w1 := Hk0.out.fresh2 hk1 (Nat.le_refl _) (Above.none _)
  clear hk1 hg1
  have Ho1 := Lib.hid ho1
  have Hk1' := Lib.hid hk1'
  have Hf1 := Lib.hid hf1
  clear ho1 hk1' hf1
  go_wp2_with fail
  have hr2 := Rd.full (heap_alloc_new w1 (.cells #[.int .u8 97, .int .u8 98] 5 (2, 3))) (by simp [maxLen])
  have ho1' := Ho1.out.keep (S := nowhere) ((Keeps.refl _ w1).alloc (.cells #[.int .u8 97, .int .u8 98] 5 (2, 3))) (fun h => h) (fun _ _ h => h)
  have hk2' := Hk1'.out.alloc (.cells #[.int .u8 97, .int .u8 98] 5 (2, 3))
  have hs2 : (w1.alloc (.cells #[.int .u8 97, .int .u8 98] 5 (2, 3))).heap.size = w1.heap.size + 1 := by simp
  have Hr2 := Lib.hid hr2
  have Ho1' := Lib.hid ho1'
  have Hk2' := Lib.hid hk2'
  have Hs2 := Lib.hid hs2
  clear hr2 ho1' hk2' hs2
  generalize w1.alloc (.cells #[.int .u8 97, .int .u8 98] 5 (2, 3)) = w2 at *
  refine (out_raw _ _ _ _ [97, 98] _ w2 Ho1'.out Hr2.out (by simp)).mono ?_
  rintro e w3 ⟨rfl, g3, ho3, hg3, hk3⟩
  replace ho3 : OutAt w3 w.heap.size g3 [52, 18, 97, 98] := ho3
  have hf3 : Above w.heap.size g3 := Hf1.out.of_from hg3 Hk2'.out.size
  have hk3' : Keeps nowhere w w3 := Hk2'.out.fresh2 hk3 (Nat.le_refl _) Hf1.out
  clear hk3 hg3
  have Ho3 := Lib.hid ho3
  have Hk3' := Lib.hid hk3'
  have Hf3 := Lib.hid hf3
  clear ho3 hk3' hf3
  go_wp2_with fail
  refine (out_bytes _ _ _ _ Ho3.out (by simp)).mono ?_
  rintro e w4 ⟨v4, g4, rfl, hr4, hg4, hk4⟩
  have ho4 := Ho3.out.keep hk4 (fun h => h) (fun _ _ h => h)
  have hk4' := Hk3'.out.more hk4
  have Hr4 := Lib.hid hr4
  have Ho4 := Lib.hid ho4
  have Hk4' := Lib.hid hk4'
  have Hg4 := Lib.hid hg4
  clear hr4 ho4 hk4' hg4
  clear hk4
  go_wp2_with fail
  refine (in_of _ _ _ _ Hr4.out (by simp)).mono ?_
  rintro e w5 ⟨p5, g5, rfl, hi5, hp5, hg5, hk5⟩
  have ho5 := Ho4.out.keep hk5 (fun h => h) (fun _ _ h => h)
  have hk5' := Hk4'.out.more hk5
  have hsep : Hid (w.heap.size ≠ p5 ∧ ∀ b, g3 = some b → b ≠ p5) := ⟨by have := Ho4.out.lt; omega, fun b hb => by have := Ho4.out.lt.2 b hb; omega⟩
  have hpw : Hid (w.heap.size ≤ p5) := by have := Ho4.out.lt; show _ ≤ _; omega
  clear hk5 hp5 hg5
  have Hi5 := Lib.hid hi5
  have Ho5 := Lib.hid ho5
  have Hk5' := Lib.hid hk5'
  clear hi5 ho5 hk5'
  go_wp2_with fail
  refine (take_any _ _ _ _ 2 _ Hi5.out).mono ?_
  rintro e w6 ⟨he, hi6, hk6⟩
  obtain rfl : e = .returned (.int .u64 4660) := he
  replace hi6 : InAt w6 p5 g5 [97, 98] 0 := hi6
  have ho6 := Ho5.out.keep hk6 hsep.out.1 hsep.out.2
  have hk6' := Hk5'.out.fresh hk6 hpw.out
  clear hk6
  have Hi6 := Lib.hid hi6
  have Ho6 := Lib.hid ho6
  have Hk6' := Lib.hid hk6'
  clear hi6 ho6 hk6'
  go_wp2_with fail
  refine (raw_any _ _ _ _ 2 _ Hi6.out (by simp)).mono ?_
  rintro e w7 ⟨v7, g7, rfl, hr7, hg7, hi7, hk7⟩
  replace hr7 : Rd w7 v7 g7 ([97, 98].map bv) := hr7
  replace hi7 : InAt w7 p5 g5 [] 0 := hi7
  have ho7 := Ho6.out.keep hk7 hsep.out.1 hsep.out.2
  have hk7' := Hk6'.out.fresh hk7 hpw.out
  have hn7 : Hid (∀ b, g7 = some b → ¬ only p5 b) := fun b hb e => by have := hg7 b hb; have := Hi6.out.lt.1; unfold only at e; omega
  clear hk7 hg7
  have Hi7 := Lib.hid hi7
  have Ho7 := Lib.hid ho7
  have Hk7' := Lib.hid hk7'
  have Hr7 := Lib.hid hr7
  clear hi7 ho7 hk7' hr7
  go_wp2_with fail
  refine (take_any _ _ _ _ 1 _ Hi7.out).mono ?_
  rintro e w8 ⟨he, hi8, hk8⟩
  obtain rfl : e = .returned (.int .u64 0) := he
  replace hi8 : InAt w8 p5 g5 [] 4 := hi8
  have ho8 := Ho7.out.keep hk8 hsep.out.1 hsep.out.2
  have hk8' := Hk7'.out.fresh hk8 hpw.out
  have hr8 := Hr7.out.keep hk8 hn7.out
  clear hk8
  have Hi8 := Lib.hid hi8
  have Ho8 := Lib.hid ho8
  have Hk8' := Lib.hid hk8'
  have Hr8 := Lib.hid hr8
  clear hi8 ho8 hk8' hr8
  go_wp2_with fail
  refine (out_bytes _ _ _ _ Ho8.out (by simp)).mono ?_
  rintro e w9 ⟨v9, g9, rfl, hr9, hg9, hk9⟩
  have hi9 := Hi8.out.keep hk9 (fun h => h) (fun _ _ h => h)
  have hk9' := Hk8'.out.more hk9
  have hs9 := conv_str _ _ _ _ hr9
  have hs8 := conv_str _ _ _ _ (Hr8.out.keep hk9 (fun _ _ h => h))
  have hb9 : ((strOf [52, 18, 97, 98]).toList == [52, 18, 97, 98]) = true := strOf_eq rfl
  have hb8 : ((strOf [97, 98]).toList == [97, 98]) = true := strOf_eq rfl
  clear hk9 hg9 hr9
  have Hi9 := Lib.hid hi9
  have Hk9' := Lib.hid hk9'
  clear hi9 hk9'
  go_wp2_with fail
  refine (in_err _ _ _ _ _ Hi9.out).mono ?_
  rintro e w10 ⟨rfl, rfl⟩
  go_wp2_with fail
  refine (in_left _ _ _ _ _ Hi9.out).mono ?_
  rintro e w10 ⟨he, rfl⟩
  obtain rfl : e = .returned (.int .i64 0) := he
  go_wp2_with fail
  go_ret
  exact ⟨rfl, Hk9'.out⟩
end Go.Proofs.Ytbckbnmpeedodaa
