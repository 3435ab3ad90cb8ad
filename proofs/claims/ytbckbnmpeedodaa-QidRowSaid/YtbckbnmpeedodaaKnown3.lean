/-
  loggialaw3.known returns true, and leaves alone all that was there.
-/
import Derived.Test.YtbckbnmpeedodaaQidPlain
import Derived.Test.YtbckbnmpeedodaaKnown1
namespace Go.Proofs.Ytbckbnmpeedodaa
open Go.RowKit

theorem qid_type_i (m : Int) (h0 : 0 ≤ m) (hm : m < 4294967296) (w : World) : Calls Try.prog 15 #[.int .u32 m] w fun e w' => e = .returned (.int .u8 (typ m.toNat : Nat)) ∧ w = w' := by
  obtain ⟨n, rfl⟩ := Int.eq_ofNat_of_zero_le h0
  exact qid_type n (by omega) w
theorem qid_mode_i (t : Int) (h0 : 0 ≤ t) (ht : t < 256) (w : World) : Calls Try.prog 16 #[.int .u8 t] w fun e w' => e = .returned (.int .u32 (mod' t.toNat : Nat)) ∧ w = w' := by
  obtain ⟨n, rfl⟩ := Int.eq_ofNat_of_zero_le h0
  exact qid_mode n (by omega) w

set_option maxHeartbeats 1000000 in
theorem known3 (w : World) : Calls Try.prog 12 #[] w (Yes w) := by
  have ho0 := OutAt.new w
  have hk0 : Keeps nowhere w (w.alloc (.cells #[.slice none 0 0] 30)) := (Keeps.refl _ w).alloc _
  have hs0 : (w.alloc (.cells #[.slice none 0 0] 30)).heap.size = w.heap.size + 1 := by simp
  obtain ⟨w0, hw0⟩ : ∃ w0, w0 = w.alloc (.cells #[.slice none 0 0] 30) := ⟨_, rfl⟩
  rw [← hw0] at ho0 hk0 hs0
  have Ho0 := Lib.hid ho0
  have Hk0 := Lib.hid hk0
  clear ho0 hk0
  go_enter Try.func12, Try.ntmps12
  go_wp2_with fail
  rw [← hw0]
  have hq : (⟨128, 3, 1099511627776⟩ : Q).ok := by unfold Q.ok; decide
  have hb1 := Blk.new w0 25 #[.int .u8 128, .int .u32 3, .int .u64 1099511627776]
  have ho1 := Ho0.out.keep (S := nowhere) ((Keeps.refl _ w0).alloc (.cells #[.int .u8 128, .int .u32 3, .int .u64 1099511627776] 25)) (fun h => h) (fun _ _ h => h)
  have hk1 := Hk0.out.alloc (.cells #[.int .u8 128, .int .u32 3, .int .u64 1099511627776] 25)
  rw [hs0] at hb1
  clear hw0
  generalize w0.alloc (.cells #[.int .u8 128, .int .u32 3, .int .u64 1099511627776] 25) = w1 at *
  have hlt1 := hb1.lt
  have Hb1 := Lib.hid hb1
  have Ho1 := Lib.hid ho1
  have Hk1 := Lib.hid hk1
  clear hb1 ho1 hk1
  refine (qid_put _ _ _ ⟨128, 3, 1099511627776⟩ hq _ Ho1.out (by simp)).mono ?_
  rintro e w2 ⟨rfl, g2, ho2, hg2, hk2⟩
  have ha2 : Above w.heap.size g2 := (Above.none _).of_from hg2 (by omega)
  have hb2 := Hb1.out.keep hk2 (fun h => h.elim (fun e => by omega) (fun e => by cases e))
  have hsep : Hid (∀ b, g2 = some b → b ≠ w.heap.size + 1) := fun b hb e => by rcases hg2 b hb with h | h; cases h; omega
  have hk2' := Hk1.out.fresh2 hk2 (Nat.le_refl _) (Above.none _)
  rw [List.nil_append] at ho2
  clear hg2 hk2
  have Hb2 := Lib.hid hb2
  have Ho2 := Lib.hid ho2
  have Hk2' := Lib.hid hk2'
  have Ha2 := Lib.hid ha2
  clear hb2 ho2 hk2' ha2
  go_wp2_with fail
  refine (out_bytes _ _ _ _ Ho2.out (by simp [Q.bytes_len])).mono ?_
  rintro e w3 ⟨v3, g3, rfl, hr3, hg3, hk3⟩
  have hb3 := Hb2.out.keep hk3 (fun h => h)
  have ho3 := Ho2.out.keep hk3 (fun h => h) (fun _ _ h => h)
  have hk3' := Hk2'.out.more hk3
  have Hb3 := Lib.hid hb3
  have Ho3 := Lib.hid ho3
  have Hk3' := Lib.hid hk3'
  have Hr3 := Lib.hid hr3
  clear hb3 ho3 hk3' hr3
  clear hg3 hk3
  go_wp2_with fail
  refine (in_of _ _ _ _ Hr3.out (by simp [Q.bytes_len])).mono ?_
  rintro e w4 ⟨p4, g4, rfl, hi4, hp4, hg4, hk4⟩
  have hb4 := Hb3.out.keep hk4 (fun h => h)
  have ho4 := Ho3.out.keep hk4 (fun h => h) (fun _ _ h => h)
  have hk4' := Hk3'.out.more hk4
  have hpo : Hid (∀ b, b < w3.heap.size → b ≠ p4) := fun b hb => by omega
  have hpw : Hid (w.heap.size ≤ p4) := Nat.le_trans Hk3'.out.size hp4
  have Hb4 := Lib.hid hb4
  have Ho4 := Lib.hid ho4
  have Hk4' := Lib.hid hk4'
  have Hi4 := Lib.hid hi4
  clear hb4 ho4 hk4' hi4
  clear hg4 hk4 hp4
  go_wp2_with fail
  refine (qid_take _ _ _ _ _ Hi4.out).mono ?_
  rintro e w5 ⟨he5, hi5, hk5⟩
  rw [← List.append_nil (Q.bytes _), qTake_b _ _ hq] at he5
  subst he5
  have hb5 := Hb4.out.keep hk5 (hpo.out _ Hb3.out.lt)
  have ho5 := Ho4.out.keep hk5 (hpo.out _ Ho3.out.lt.1) (fun b hb e => hpo.out b (Ho3.out.lt.2 b hb) e)
  have hk5' := Hk4'.out.fresh hk5 hpw.out
  clear hk5 hi5
  have Hb5 := Lib.hid hb5
  have Ho5 := Lib.hid ho5
  have Hk5' := Lib.hid hk5'
  clear hb5 ho5 hk5'
  simp only [Q.val]
  go_wp2_with fail
  have hb6' := Blk.new w5 25 #[.int .u8 128, .int .u32 3, .int .u64 1099511627776]
  have hb6 := Hb5.out.alloc (.cells #[.int .u8 128, .int .u32 3, .int .u64 1099511627776] 25)
  have ho6 := Ho5.out.keep (S := nowhere) ((Keeps.refl _ w5).alloc (.cells #[.int .u8 128, .int .u32 3, .int .u64 1099511627776] 25)) (fun h => h) (fun _ _ h => h)
  have hk6 := Hk5'.out.alloc (.cells #[.int .u8 128, .int .u32 3, .int .u64 1099511627776] 25)
  generalize w5.alloc (.cells #[.int .u8 128, .int .u32 3, .int .u64 1099511627776] 25) = w6 at *
  have Hb6' := Lib.hid hb6'
  have Hb6 := Lib.hid hb6
  have Ho6 := Lib.hid ho6
  have Hk6 := Lib.hid hk6
  clear hb6' hb6 ho6 hk6
  refine (out_bytes _ _ _ _ Ho6.out (by simp [Q.bytes_len])).mono ?_
  rintro e w7 ⟨v7, g7, rfl, hr7, hg7, hk7⟩
  obtain ⟨A, c, rfl, _⟩ := hr7.form
  have hl7 : ((Q.bytes ⟨128, 3, 1099511627776⟩).map bv).length = 13 := by simp [Q.bytes_len]
  rw [hl7]
  have hb7 := Hb6.out.keep hk7 (fun h => h)
  have hb7' := Hb6'.out.keep hk7 (fun h => h)
  have hk7' := Hk6.out.more hk7
  have c0 := hb7.cell 0
  have c1 := hb7.cell 1
  have c2 := hb7.cell 2
  have d0 := hb7'.cell 0
  have d1 := hb7'.cell 1
  have d2 := hb7'.cell 2
  simp at c0 c1 c2 d0 d1 d2
  clear hr7 hg7 hk7 hb7 hb7' hl7
  have Hk7' := Lib.hid hk7'
  clear hk7'
  go_wp2_with fail
  refine (qid_type_i _ (by omega) (by omega) _).mono ?_
  rintro e w8 ⟨he8, rfl⟩
  obtain rfl : e = .returned (.int .u8 128) := he8
  go_wp2_with fail
  refine (qid_mode_i _ (by omega) (by omega) _).mono ?_
  rintro e w9 ⟨he9, rfl⟩
  obtain rfl : e = .returned (.int .u32 2147483648) := he9
  go_wp2_with fail
  go_ret
  exact ⟨rfl, Hk7'.out⟩
end Go.Proofs.Ytbckbnmpeedodaa
