/-
  loggialaw3.QidShort: the walk.
-/
import Derived.Test.YtbckbnmpeedodaaKnown3
import Derived.Test.YtbckbnmpeedodaaRefQid
namespace Go.Proofs.Ytbckbnmpeedodaa
open Go.RowKit

set_option maxHeartbeats 1000000 in
theorem short_neg (t v p : Int) (cut : Int) (hc : cut < 0) (w : World) : Calls Try.prog 4 #[.agg #[.int .u8 t, .int .u32 v, .int .u64 p], .int .i64 cut] w (Yes w) := by
  go_enter Try.func4, Try.ntmps4
  go_wp2_with fail
  refine (known3 _).mono ?_
  rintro e w0 ⟨rfl, hk0⟩
  have hk1 := (Keeps.refl nowhere w).alloc (.cells #[.int .u8 t, .int .u32 v, .int .u64 p] 25)
  have Hk0 := Lib.hid hk0
  have Hk1 := Lib.hid hk1
  clear hk0 hk1
  go_wp2_with fail
  go_ret
  exact ⟨rfl, Hk1.out.more Hk0.out⟩

set_option maxHeartbeats 1000000 in
theorem short_pos (q : Q) (hq : q.ok) (cut : Nat) (hcm : cut ≤ 9223372036854775807) (w : World) : Calls Try.prog 4 #[.agg #[.int .u8 q.t, .int .u32 q.v, .int .u64 q.p], .int .i64 cut] w (Yes w) := by
  have hc0 : ¬ (cut : Int) < 0 := by omega
  have hb0 := Blk.new w 25 #[.int .u8 (q.t : Int), .int .u32 (q.v : Int), .int .u64 (q.p : Int)]
  have hk0 := (Keeps.refl nowhere w).alloc (.cells #[.int .u8 (q.t : Int), .int .u32 (q.v : Int), .int .u64 (q.p : Int)] 25)
  have Hb0 := Lib.hid hb0
  have Hk0 := Lib.hid hk0
  clear hb0 hk0
  go_enter Try.func4, Try.ntmps4
  go_wp2_with fail
  refine (known3 _).mono ?_
  rintro e w1 ⟨rfl, hk1⟩
  have hb1 := Hb0.out.keep hk1 (fun h => h)
  have hk1' := Hk0.out.more hk1
  have c0 := hb1.cell 0
  have c1 := hb1.cell 1
  have c2 := hb1.cell 2
  simp at c0 c1 c2
  have Hk1' := Lib.hid hk1'
  clear hk1'
  clear hb1 hk1
  go_wp2_with fail
  refine (law3_of _ _ _ _).mono ?_
  rintro e w2 ⟨rfl, hk2⟩
  have hk2' := Hk1'.out.more hk2
  clear hk2 c0 c1 c2
  have Hk2' := Lib.hid hk2'
  clear hk2'
  go_wp2_with fail
  refine (ref_qidbytes q hq _).mono ?_
  rintro e w3 ⟨v3, rfl, ho3, ha3, hk3⟩
  have hk3' := Hk2'.out.more hk3
  clear hk3 ha3
  obtain ⟨A, c, rfl, hlc, hcm3⟩ := ho3.form'
  have hr3 := ho3.rd
  rw [q.bytes_len] at hlc hr3
  rw [q.bytes_len]
  obtain ⟨m, hm⟩ : ∃ m, m = cut % 13 := ⟨_, rfl⟩
  have hm13 : m < 13 := by omega
  have hrt := hr3.take m (by simp [q.bytes_len]; omega) A 13 c rfl
  rw [← List.map_take] at hrt
  have hmc : (m : Int) ≤ c := by omega
  have hmod : (cut : Int) % 13 = m := by omega
  have hlm : (q.bytes.take m).length = m := by simp [q.bytes_len]; omega
  have hm0 : (0 : Int) ≤ m := by omega
  clear hm hr3 ho3
  have Hk3' := Lib.hid hk3'
  have Hrt := Lib.hid hrt
  have Hlm := Lib.hid hlm
  clear hk3' hrt hlm
  go_wp2_with fail
  refine (in_of _ _ _ _ Hrt.out (by rw [Hlm.out]; omega)).mono ?_
  rintro e w4 ⟨p4, g4, rfl, hi4, hp4, hg4, hk4⟩
  have hk4' := Hk3'.out.more hk4
  have hpw : Hid (w.heap.size ≤ p4) := Nat.le_trans Hk3'.out.size hp4
  clear hk4 hp4 hg4
  have Hi4 := Lib.hid hi4
  have Hk4' := Lib.hid hk4'
  clear hi4 hk4'
  go_wp2_with fail
  refine (qid_take _ _ _ _ _ Hi4.out).mono ?_
  rintro e w5 ⟨he5, hi5, hk5⟩
  rw [qTake_short _ (by rw [Hlm.out]; exact hm13)] at he5
  rw [qe3_short _ (by rw [Hlm.out]; exact hm13)] at hi5
  subst he5
  have hk5' := Hk4'.out.fresh hk5 hpw.out
  clear hk5
  simp only [Q.val]
  have Hi5 := Lib.hid hi5
  have Hk5' := Lib.hid hk5'
  clear hi5 hk5'
  go_wp2_with fail
  have hi6 := Hi5.out.keep (S := nowhere) ((Keeps.refl _ w5).alloc (.cells #[.int .u8 0, .int .u32 0, .int .u64 0] 25)) (fun h => h) (fun _ _ h => h)
  have hk6 := Hk5'.out.alloc (.cells #[.int .u8 0, .int .u32 0, .int .u64 0] 25)
  have Hk6 := Lib.hid hk6
  clear hk6
  refine (in_err _ _ _ _ _ hi6).mono ?_
  rintro e w7 ⟨rfl, rfl⟩
  go_wp2_with fail
  go_ret
  exact ⟨rfl, Hk6.out⟩
end Go.Proofs.Ytbckbnmpeedodaa
