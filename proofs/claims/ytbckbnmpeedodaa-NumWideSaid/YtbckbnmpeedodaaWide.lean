/-
  loggialaw1.NumWide: the walk.
-/
import Derived.Test.YtbckbnmpeedodaaKnown1
import Derived.Test.YtbckbnmpeedodaaAppB
namespace Go.Proofs.Ytbckbnmpeedodaa
open Go.RowKit

set_option maxHeartbeats 1000000 in
theorem wide_no (v n : Int) (w : World) (hn : n < 1 ∨ 8 < n) : Calls Try.prog 7 #[.int .u64 v, .int .i64 n] w (Yes w) := by
  go_enter Try.func7, Try.ntmps7
  go_wp2_with fail
  refine (known1 _).mono ?_
  rintro e w0 ⟨rfl, hk0⟩
  have ho1 := OutAt.new w0
  have hk1 : Keeps nowhere w (w0.alloc (.cells #[.slice none 0 0] 30)) := hk0.alloc _
  have Ho1 := Lib.hid ho1
  have Hk1 := Lib.hid hk1
  have Hn := Lib.hid hn
  clear ho1 hk1 hn
  clear hk0
  go_wp2_with fail
  refine (out_put_no _ _ _ _ Hn.out).mono ?_
  rintro e w1 ⟨rfl, rfl⟩
  go_wp2_with fail
  refine (out_bytes _ _ _ _ Ho1.out (by simp)).mono ?_
  rintro e w2 ⟨v2, g2, rfl, hr2, _, hk2⟩
  have hk3 := Hk1.out.more hk2
  obtain ⟨A, c, rfl, _⟩ := hr2.form
  clear hk2 hr2
  have Hk3 := Lib.hid hk3
  clear hk3
  have hn := Hn.out
  by_cases h1 : n < 1
  · go_wp2
    go_ret
    exact ⟨rfl, Hk3.out⟩
  · have h8 : 8 < n := by omega
    go_wp2
    go_ret
    exact ⟨rfl, Hk3.out⟩

set_option maxHeartbeats 1000000 in
theorem wide_yes (v n : Nat) (w : World) (h1 : 1 ≤ n) (h8 : n ≤ 8) (hv : v < 18446744073709551616) : Calls Try.prog 7 #[.int .u64 v, .int .i64 n] w (Yes w) := by
  have h1' : ¬ (n : Int) < 1 := by omega
  have h8' : ¬ (8 : Int) < n := by omega
  have hd1 : decide ((n : Int) < 1) = false := by simp; omega
  have hd8 : decide ((8 : Int) < n) = false := by simp; omega
  have Hv := Lib.hid hv
  clear hv
  go_enter Try.func7, Try.ntmps7
  go_wp2_with fail
  refine (known1 _).mono ?_
  rintro e w0 ⟨rfl, hk0⟩
  have ho1 := OutAt.new w0
  have hk1 : Keeps nowhere w (w0.alloc (.cells #[.slice none 0 0] 30)) := hk0.alloc _
  have hs0 : Hid (w.heap.size ≤ w0.heap.size) := hk0.size
  have Ho1 := Lib.hid ho1
  have Hk1 := Lib.hid hk1
  clear ho1 hk1
  clear hk0
  go_wp2_with fail
  refine (out_put _ _ _ _ _ _ Ho1.out h1 h8 Hv.out (by simp)).mono ?_
  rintro e w1 ⟨rfl, g1, ho2, hg1, hk2⟩
  have hk2' := Hk1.out.fresh2 hk2 hs0.out (Above.none _)
  rw [List.nil_append] at ho2
  clear hk2 hg1
  have Ho2 := Lib.hid ho2
  have Hk2' := Lib.hid hk2'
  clear ho2 hk2'
  go_wp2_with fail
  refine (out_bytes _ _ _ _ Ho2.out (by simp [nb_len]; omega)).mono ?_
  rintro e w2 ⟨v2, g2, rfl, hr2, hg2, hk2⟩
  have hk3 := Hk2'.out.more hk2
  obtain ⟨A, c, rfl, _⟩ := hr2.form
  have hl2 : ((nb n v).map bv).length = n := by simp [nb_len]
  rw [hl2]
  rw [hl2] at hr2
  clear hk2 hg2 hl2
  have Hk3 := Lib.hid hk3
  have Hr2 := Lib.hid hr2
  clear hk3 hr2
  have hlen : (nb n v ++ [7]).length = n + 1 := by simp [nb_len]
  have hpos : 0 < 256 ^ n := Nat.pow_pos (by omega)
  have ht : takeVal (nb n v ++ [7]) 0 n = v % 256 ^ n := by
    rw [takeVal, if_pos (by omega), Int.toNat_natCast, List.take_left' (nb_len n v), le_nb]
  have hl : takeLeft (nb n v ++ [7]) 0 n = [7] := by rw [takeLeft, if_pos (by omega), Int.toNat_natCast, List.drop_left' (nb_len n v)]
  have he : takeErr (nb n v ++ [7]) 0 n = 0 := by rw [takeErr, if_neg (by simp), if_neg (by omega), if_neg (by omega)]
  obtain ⟨t, hT⟩ : ∃ t : Nat, t = v % 256 ^ n := ⟨_, rfl⟩
  rw [← hT] at ht
  have Ht := Lib.hid ht
  have Hl := Lib.hid hl
  have He := Lib.hid he
  have Hlen := Lib.hid hlen
  clear ht hl he hlen
  obtain ⟨W, hW⟩ : ∃ W : Int, W = if n < 8 then (v : Int) % (256 ^ n : Nat) else v := ⟨_, rfl⟩
  have hcmp : ((t : Int) == W) = true := by
    rw [beq_iff_eq, hT, hW]
    split
    · exact Int.natCast_emod _ _
    · have : n = 8 := by omega
      subst this
      rw [Nat.mod_eq_of_lt (by have := Hv.out; omega)]
  have heq : ((n : Int) == n) = true := by simp
  by_cases hn8 : n < 8
  · have hn8' : (n : Int) < 8 := by omega
    obtain ⟨P, hP, hP0, hP1⟩ : ∃ P : Nat, P = 256 ^ n ∧ 0 < P ∧ P < 18446744073709551616 := by
      refine ⟨_, rfl, Nat.pow_pos (by omega), ?_⟩
      exact Nat.lt_of_le_of_lt (Nat.pow_le_pow_right (by omega) (show n ≤ 7 by omega)) (by decide)
    have hw : IntKind.u64.wrap (2 ^ (8 * n)) = (P : Int) := by
      have : ((2 : Int) ^ (8 * n)) = (P : Int) := by rw [hP, pow256, Int.natCast_pow]; rfl
      rw [this, IntKind.wrap_u64]; omega
    have hPn : ¬ (P : Int) = 0 := by omega
    rw [if_pos hn8, ← hP] at hW
    subst hW
    clear hP hT hpos
    go_wp2_with (at_builtin; go_must (refine wpList_append_bytes rfl (.tmp 37) (.tmp 38) rfl _ [] rfl (OwnB.empty w2) _ _ (nb n v) rfl (Hr2.out.keep ((Keeps.refl nowhere w2).alloc _) (fun _ _ h => h)) (by simp [nb_len]; omega) ?_))
    intro v3 w3 hown3 hk3 hf3
    have hab3 : Above w2.heap.size v3.ownBlock := fun b hb => by rcases hf3 b hb with h | h; exact Nat.le_of_eq (by injection h); exact Nat.le_of_lt h
    have hk3' : Keeps nowhere w w3 := (Hk3.out.alloc _).trans hk3 (fun b hb h => by have := Hk3.out.size; have h2 : w2.heap.size = b := (by injection h); exact absurd hb (by omega))
    have Hown3 := Lib.hid hown3
    have Hk3' := Lib.hid hk3'
    have Hab3 := Lib.hid hab3
    clear hown3 hk3' hab3
    clear hk3 hf3
    go_wp2_with (at_builtin; go_must (refine wpList_append_bytes rfl (.tmp 39) (.tmp 40) rfl v3 (nb n v) rfl (Hown3.out.keep ((Keeps.refl nowhere w3).alloc _) (fun _ _ h => h)) _ _ [7] rfl (Rd.full (heap_alloc_new w3 (.cells #[.int .u8 7] 5)) (by simp [maxLen])) (by simp [nb_len]; omega) ?_))
    intro v4 w4 hown4 hk4 hf4
    have hk4' : Keeps nowhere w w4 := (Hk3'.out.alloc _).trans hk4 (fun b hb h => by have := Hab3.out b h; have := Hk3.out.size; omega)
    have hr4 := OwnB.rd hown4
    clear hk4 hf4 hown4
    have Hr4 := Lib.hid hr4
    have Hk4' := Lib.hid hk4'
    clear hr4 hk4'
    go_wp2_with fail
    refine (in_of _ _ _ _ Hr4.out (by simp [nb_len]; omega)).mono ?_
    rintro e w5 ⟨p5, g5, rfl, hi5, hp5, hg5, hk5⟩
    have hk5' := Hk4'.out.more hk5
    have hpw : Hid (w.heap.size ≤ p5) := Nat.le_trans Hk4'.out.size hp5
    clear hk5 hp5 hg5
    have Hi5 := Lib.hid hi5
    have Hk5' := Lib.hid hk5'
    clear hi5 hk5'
    go_wp2_with fail
    refine (take_any _ _ _ _ _ _ Hi5.out).mono ?_
    rintro e w6 ⟨he6, hi6, hk6⟩
    rw [Hl.out, He.out] at hi6
    rw [Ht.out] at he6
    have hk6' := Hk5'.out.fresh hk6 hpw.out
    subst he6
    clear hk6
    have Hi6 := Lib.hid hi6
    have Hk6' := Lib.hid hk6'
    clear hi6 hk6'
    go_wp2_with fail
    refine (in_left _ _ _ _ _ Hi6.out).mono ?_
    rintro e w7 ⟨he7, rfl⟩
    obtain rfl : e = .returned (.int .i64 1) := he7
    go_wp2_with fail
    refine (take_any _ _ _ _ 1 _ Hi6.out).mono ?_
    rintro e w8 ⟨he8, hi8, hk8⟩
    obtain rfl : e = .returned (.int .u64 7) := he8
    replace hi8 : InAt w8 p5 g5 [] 0 := hi8
    have hk8' := Hk6'.out.fresh hk8 hpw.out
    clear hk8
    have Hi8 := Lib.hid hi8
    have Hk8' := Lib.hid hk8'
    clear hi8 hk8'
    go_wp2_with fail
    refine (in_err _ _ _ _ _ Hi8.out).mono ?_
    rintro e w9 ⟨rfl, rfl⟩
    go_wp2_with fail
    go_ret
    exact ⟨rfl, Hk8'.out⟩
  · have hn8' : ¬ (n : Int) < 8 := by omega
    rw [if_neg hn8] at hW
    subst hW
    clear hT hpos
    go_wp2_with (at_builtin; go_must (refine wpList_append_bytes rfl (.tmp 37) (.tmp 38) rfl _ [] rfl (OwnB.empty w2) _ _ (nb n v) rfl (Hr2.out.keep ((Keeps.refl nowhere w2).alloc _) (fun _ _ h => h)) (by simp [nb_len]; omega) ?_))
    intro v3 w3 hown3 hk3 hf3
    have hab3 : Above w2.heap.size v3.ownBlock := fun b hb => by rcases hf3 b hb with h | h; exact Nat.le_of_eq (by injection h); exact Nat.le_of_lt h
    have hk3' : Keeps nowhere w w3 := (Hk3.out.alloc _).trans hk3 (fun b hb h => by have := Hk3.out.size; have h2 : w2.heap.size = b := (by injection h); exact absurd hb (by omega))
    have Hown3 := Lib.hid hown3
    have Hk3' := Lib.hid hk3'
    have Hab3 := Lib.hid hab3
    clear hown3 hk3' hab3
    clear hk3 hf3
    go_wp2_with (at_builtin; go_must (refine wpList_append_bytes rfl (.tmp 39) (.tmp 40) rfl v3 (nb n v) rfl (Hown3.out.keep ((Keeps.refl nowhere w3).alloc _) (fun _ _ h => h)) _ _ [7] rfl (Rd.full (heap_alloc_new w3 (.cells #[.int .u8 7] 5)) (by simp [maxLen])) (by simp [nb_len]; omega) ?_))
    intro v4 w4 hown4 hk4 hf4
    have hk4' : Keeps nowhere w w4 := (Hk3'.out.alloc _).trans hk4 (fun b hb h => by have := Hab3.out b h; have := Hk3.out.size; omega)
    have hr4 := OwnB.rd hown4
    clear hk4 hf4 hown4
    have Hr4 := Lib.hid hr4
    have Hk4' := Lib.hid hk4'
    clear hr4 hk4'
    go_wp2_with fail
    refine (in_of _ _ _ _ Hr4.out (by simp [nb_len]; omega)).mono ?_
    rintro e w5 ⟨p5, g5, rfl, hi5, hp5, hg5, hk5⟩
    have hk5' := Hk4'.out.more hk5
    have hpw : Hid (w.heap.size ≤ p5) := Nat.le_trans Hk4'.out.size hp5
    clear hk5 hp5 hg5
    have Hi5 := Lib.hid hi5
    have Hk5' := Lib.hid hk5'
    clear hi5 hk5'
    go_wp2_with fail
    refine (take_any _ _ _ _ _ _ Hi5.out).mono ?_
    rintro e w6 ⟨he6, hi6, hk6⟩
    rw [Hl.out, He.out] at hi6
    rw [Ht.out] at he6
    have hk6' := Hk5'.out.fresh hk6 hpw.out
    subst he6
    clear hk6
    have Hi6 := Lib.hid hi6
    have Hk6' := Lib.hid hk6'
    clear hi6 hk6'
    go_wp2_with fail
    refine (in_left _ _ _ _ _ Hi6.out).mono ?_
    rintro e w7 ⟨he7, rfl⟩
    obtain rfl : e = .returned (.int .i64 1) := he7
    go_wp2_with fail
    refine (take_any _ _ _ _ 1 _ Hi6.out).mono ?_
    rintro e w8 ⟨he8, hi8, hk8⟩
    obtain rfl : e = .returned (.int .u64 7) := he8
    replace hi8 : InAt w8 p5 g5 [] 0 := hi8
    have hk8' := Hk6'.out.fresh hk8 hpw.out
    clear hk8
    have Hi8 := Lib.hid hi8
    have Hk8' := Lib.hid hk8'
    clear hi8 hk8'
    go_wp2_with fail
    refine (in_err _ _ _ _ _ Hi8.out).mono ?_
    rintro e w9 ⟨rfl, rfl⟩
    go_wp2_with fail
    go_ret
    exact ⟨rfl, Hk8'.out⟩
end Go.Proofs.Ytbckbnmpeedodaa
