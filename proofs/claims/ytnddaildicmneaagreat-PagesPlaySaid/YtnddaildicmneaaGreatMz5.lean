/-
  Parts of the proof, joined in build order: Pg7, Pg8, Pg9, Pg10, Pg11, RecM, Pg12, Pg13, Pg14, PgR, PgS.
-/
import Derived.Test.YtnddaildicmneaaGreatMz4
import Derived.Laws.ResultCell
import Derived.Maps.RangeWalk
import Derived.OwnWalk
set_option linter.unusedVariables false
set_option linter.unusedSimpArgs false
/-
  pages: read: a head off the disk.
-/
namespace Go.Proofs.YtnddaildicmneaaGreat
open Go.Proofs Go.RowKit Go.Sort Go.Maps

def hdVal (h : Option (Nat × Nat)) : Value := .agg #[.int .u64 ((h.getD (0, 0)).1 : Nat), .int .i64 ((h.getD (0, 0)).2 : Nat)]
theorem take_full {L : List UInt8} (h : 8 ≤ L.length) : takeVal L 0 8 = le (L.take 8) ∧ takeLeft L 0 8 = L.drop 8 ∧ takeErr L 0 8 = 0 := by
  refine ⟨?_, ?_, ?_⟩
  · rw [takeVal, if_pos (by omega)]; rfl
  · rw [takeLeft, if_pos (by omega)]; rfl
  · rw [takeErr, if_neg (by omega), if_neg (by omega), if_neg (by omega)]
section
variable {X : Nat → Prop} {w w' W0 wr : World} {s d c cm : Nat} {sv : Value} {ce pe : List EntV} {B : BookV} {S M F : Nat → Prop} {D : DiskV}
theorem rd_ofB {w : World} {v : Value} {g : Option Nat} {L : List UInt8} (h : recB.Rd w v g L) (hp : 0 < L.length) : Rd w v g (L.map bv) := by
  obtain ⟨A, cap, rfl, h1, h2, hu, h3, h4⟩ := h
  obtain ⟨b, o, rfl, hg, hc⟩ := h3 hp
  refine .inr ⟨⟨b, o, none⟩, cap, by rw [List.length_map], hu, fun _ => ⟨hg, rfl⟩, by rw [List.length_map]; exact h1, h2, fun j u hj => ?_⟩
  rw [List.getElem?_map] at hj
  cases hx : L[j]? with
  | none => rw [hx] at hj; cases hj
  | some x =>
    rw [hx] at hj
    have hj := Option.some.inj hj
    have := hc j x hx 0 (by decide)
    rw [show j * recB.n = j from Nat.mul_one j, Nat.add_zero] at this
    rw [Addr.add_lit, this, ← hj]; rfl
theorem cells2 {w w' : World} {q : Nat} (h : Keeps nowhere w w') (hq : w.heap.size ≤ q) (u v : Value) : Keeps nowhere w ((w'.setCell ⟨q, 0, none⟩ u).setCell ⟨q, 1, none⟩ v) :=
  (h.setCell (p := ⟨q, 0, none⟩) (fun e => absurd e (by simp; omega)) u).setCell (p := ⟨q, 1, none⟩) (fun e => absurd e (by simp; omega)) v
set_option maxRecDepth 20000 in
set_option maxHeartbeats 4000000 in
theorem bread_any (slot : Nat) (hk : DK X w d F D) (h : BP X w s d M B) (ok : BOk B) (dok : DOk D) (ho : D.off = false) (hs : slot ≤ 1) (hr : B.a + slot < D.kept.length) (hz : D.size = B.size) (L : List UInt8) (hL : L = D.readL ((B.a + slot : Nat) : Int)) :
    Calls Tryz.prog 44 #[bp s, .int .i64 slot] w (RetK (.tuple #[hdVal (headV L B.n slot), .bool (headV L B.n slot).isSome]) w) := by
  have hLl : L.length = B.size := by
    rw [hL, ← hz]
    obtain ⟨b, kv, kp, ks, vs, rfl, h, -⟩ := hk
    unfold DiskV.readL DiskV.read
    rw [if_neg (by simp [ho]), if_pos ⟨by omega, by omega⟩, Int.toNat_natCast]
    exact read_len h hr _
  have hE : D.readE ((B.a + slot : Nat) : Int) = 0 := by
    unfold DiskV.readE
    rw [if_neg (by simp [ho]), if_pos ⟨by omega, by omega⟩]
  obtain ⟨q, hq⟩ : ∃ q, q = w.heap.size := ⟨_, rfl⟩
  obtain ⟨w1, hw1⟩ : ∃ w1, w1 = w.alloc (.cells #[.int .u64 0, .int .i64 0] 60) := ⟨_, rfl⟩
  have hk1 : Keeps nowhere w w1 := by rw [hw1]; exact (Keeps.refl nowhere w).alloc _
  have hb1 : Blk w1 q 60 #[.int .u64 0, .int .i64 0] := by rw [hw1, hq]; exact Blk.new _ _ _
  obtain ⟨x, hx⟩ : ∃ x, x = B.a + slot := ⟨_, rfl⟩
  rw [← hx] at hE hL
  have hrd := dk_read (x : Int) ((hk.same hk1).same (Keeps.refl nowhere w1).drew) dok
  rw [hE, ← hL] at hrd
  have hbp := h.same hk1
  have q0 : ∀ w', w' = w1.drew → w'.cell? ⟨s, 0, none⟩ = some (dp d) := fun w' e => by
    rw [e]
    obtain ⟨c, sv, ce, -, hb, -⟩ := hbp
    simpa using hb.cell 0
  have q1 : ∀ w', w' = w1.drew → w'.cell? ⟨s, 1, none⟩ = some (.int .i64 B.a) := fun w' e => by
    rw [e]
    obtain ⟨c, sv, ce, -, hb, -⟩ := hbp
    simpa using hb.cell 1
  have hn1 := ok.n1
  have e1 : IntKind.i64.wrap ((B.a : Int) + slot) = (x : Int) := by rw [IntWalk.i64_in _ (by omega)]; omega
  unfold dp at hrd q0
  unfold bp
  have Hrd := Lib.hid hrd
  have Hbp := Lib.hid hbp
  have Hk1 := Lib.hid hk1
  have Hb1 := Lib.hid hb1
  have Hw1 := Lib.hid hw1
  have Hq := Lib.hid hq
  have Hx := Lib.hid hx
  have HL := Lib.hid hL
  have HLl := Lib.hid hLl
  have HE := Lib.hid hE
  clear hrd hbp hk1 hb1 hw1 hq hx hL hLl hE
  go_enter Tryz.func44, Tryz.ntmps44
  go_upto_region 1 with fail
  rw [← Hw1.out]
  simp only [← Hq.out]
  refine wp_region_script [0, 1, 2, 3, 4, 5, 6, 7, 8, 9, 12, 13] [3, 7] [.ps [0, 1, 2], .fs [3], .ps [4, 5, 6], .fs [7], .ps [8, 9], .es [10, 11] false, .ps [12, 13], .es [14, 15] false] (fun w' => w' = w1.drew) rfl (by kernel_rfl) ?_
  refine wpS_ps rfl fun K hK => ?_
  simp only [List.map_cons, List.map_nil, Option.getD_some, List.getElem?_toArray, List.getElem?_cons_zero, List.getElem?_cons_succ]
  iterate 3 (first | (apply quietO_cons _ rfl; (intro w' _; go_simp; rfl)) | apply quietO_skip rfl)
  refine hK _ ?_
  clear hK K
  simp only [Act.put, List.setIfInBounds_toArray, List.set_cons_zero, List.set_cons_succ]
  refine wpS_fs rfl (rfl) fun K hK => ?_
  simp only [List.map_cons, List.map_nil, Option.getD_some, List.getElem?_toArray, List.getElem?_cons_zero, List.getElem?_cons_succ]
  iterate 1 (first | (apply quietO_cons _ rfl; (intro w' hs; have c_0 := q0 w' hs; go_simp; rfl)) | apply quietO_skip rfl)
  refine hK _ ?_
  clear hK K
  simp only [Act.put, List.setIfInBounds_toArray, List.set_cons_zero, List.set_cons_succ]
  refine wpS_ps rfl fun K hK => ?_
  simp only [List.map_cons, List.map_nil, Option.getD_some, List.getElem?_toArray, List.getElem?_cons_zero, List.getElem?_cons_succ]
  iterate 3 (first | (apply quietO_cons _ rfl; (intro w' _; go_simp; rfl)) | apply quietO_skip rfl)
  refine hK _ ?_
  clear hK K
  simp only [Act.put, List.setIfInBounds_toArray, List.set_cons_zero, List.set_cons_succ]
  refine wpS_fs rfl (rfl) fun K hK => ?_
  simp only [List.map_cons, List.map_nil, Option.getD_some, List.getElem?_toArray, List.getElem?_cons_zero, List.getElem?_cons_succ]
  iterate 1 (first | (apply quietO_cons _ rfl; (intro w' hs; have c_0 := q1 w' hs; go_simp; rfl)) | apply quietO_skip rfl)
  refine hK _ ?_
  clear hK K
  simp only [Act.put, List.setIfInBounds_toArray, List.set_cons_zero, List.set_cons_succ]
  refine wpS_ps rfl fun K hK => ?_
  simp only [List.map_cons, List.map_nil, Option.getD_some, List.getElem?_toArray, List.getElem?_cons_zero, List.getElem?_cons_succ]
  iterate 2 (first | (apply quietO_cons _ rfl; (intro w' _; go_simp; rfl)) | apply quietO_skip rfl)
  refine hK _ ?_
  clear hK K
  simp only [Act.put, List.setIfInBounds_toArray, List.set_cons_zero, List.set_cons_succ]
  refine wpS_es rfl fun K hK => ?_
  have HK := Lib.hid hK
  clear hK
  simp only [List.map_cons, List.map_nil, Option.getD_some, List.getElem?_toArray, List.getElem?_cons_zero, List.getElem?_cons_succ]
  go_wp2_with fail
  refine Hrd.out.mono ?_
  rintro e w2 ⟨v, g, rfl, hrd, hga, hk2⟩
  have hk12 := (Keeps.refl nowhere w1).drew.more hk2
  have hof := in_of v g L w2 (rd_ofB hrd (by have := HLl.out; have := ok.z1; omega)) (by have := HLl.out; have := ok.z2; omega)
  clear hrd hga hk2
  have Hof := Lib.hid hof
  have Hk12 := Lib.hid hk12
  clear hof hk12
  go_wp2_with fail
  refine HK.out _ _ (fun h => by cases h) ?_
  clear HK K
  refine wpS_ps rfl fun K hK => ?_
  simp only [List.map_cons, List.map_nil, Option.getD_some, List.getElem?_toArray, List.getElem?_cons_zero, List.getElem?_cons_succ]
  iterate 2 (first | (apply quietO_cons _ rfl; (intro w' _; go_simp; rfl)) | apply quietO_skip rfl)
  refine hK _ ?_
  clear hK K
  simp only [Act.put, List.setIfInBounds_toArray, List.set_cons_zero, List.set_cons_succ]
  refine wpS_es rfl fun K hK => ?_
  have HK := Lib.hid hK
  clear hK
  simp only [List.map_cons, List.map_nil, Option.getD_some, List.getElem?_toArray, List.getElem?_cons_zero, List.getElem?_cons_succ]
  go_wp2_with fail
  refine HK.out _ _ (fun h => by cases h) ?_
  clear HK K
  refine wpS_nil ?_
  go_wp2_with fail
  refine Hof.out.mono ?_
  rintro e w3 ⟨p, g3, rfl, hin, hp, hg3, hk3⟩
  have hz1 := ok.z1
  have t1 := take_full (L := L) (by have := HLl.out; omega)
  have t2 := take_full (L := L.drop 8) (by have := HLl.out; rw [List.length_drop]; omega)
  have t3 := take_full (L := (L.drop 8).drop 8) (by have := HLl.out; rw [List.length_drop, List.length_drop]; omega)
  have hk23 : Keeps nowhere w1 w3 := Hk12.out.more hk3
  have ht1 := take_any p g3 L 0 8 w3 hin
  unfold RetTake at ht1
  rw [t1.1, t1.2.1, t1.2.2] at ht1
  obtain ⟨v1, hv1⟩ : ∃ v, v = le (L.take 8) := ⟨_, rfl⟩
  obtain ⟨v2, hv2⟩ : ∃ v, v = le ((L.drop 8).take 8) := ⟨_, rfl⟩
  obtain ⟨v3, hv3⟩ : ∃ v, v = le (((L.drop 8).drop 8).take 8) := ⟨_, rfl⟩
  rw [← hv1] at ht1
  rw [← hv2] at t2
  rw [← hv3] at t3
  have Hin := Lib.hid hin
  have Hp := Lib.hid hp
  have Hg3 := Lib.hid hg3
  have Hk3 := Lib.hid hk3
  have T1 := Lib.hid t1
  have T2 := Lib.hid t2
  have T3 := Lib.hid t3
  have Hk23 := Lib.hid hk23
  have Ht1 := Lib.hid ht1
  have Hv1 := Lib.hid hv1
  have Hv2 := Lib.hid hv2
  have Hv3 := Lib.hid hv3
  clear hin hp hg3 hk3 t1 t2 t3 hk23 ht1 hv1 hv2 hv3
  go_wp2_with fail
  refine Ht1.out.mono ?_
  rintro e w4 ⟨rfl, hin4, hk4⟩
  have ht2 := take_any p g3 (L.drop 8) 0 8 w4 hin4
  unfold RetTake at ht2
  rw [T2.out.1, T2.out.2.1, T2.out.2.2] at ht2
  have Hin4 := Lib.hid hin4
  have Hk4 := Lib.hid hk4
  have Ht2 := Lib.hid ht2
  clear hin4 hk4 ht2
  go_wp2_with fail
  refine Ht2.out.mono ?_
  rintro e w5 ⟨rfl, hin5, hk5⟩
  have ht3 := take_any p g3 ((L.drop 8).drop 8) 0 8 w5 hin5
  unfold RetTake at ht3
  rw [T3.out.1, T3.out.2.1, T3.out.2.2] at ht3
  have Hin5 := Lib.hid hin5
  have Hk5 := Lib.hid hk5
  have Ht3 := Lib.hid ht3
  clear hin5 hk5 ht3
  go_wp2_with fail
  refine Ht3.out.mono ?_
  rintro e w6 ⟨rfl, -, hk6⟩
  have hpw : w1.heap.size ≤ p := Nat.le_trans Hk12.out.size Hp.out
  have hk16 : Keeps nowhere w1 w6 := ((Hk23.out.fresh Hk4.out hpw).fresh Hk5.out hpw).fresh hk6 hpw
  have hk06 := Hk1.out.more hk16
  have hb6 := Blk.keep Hb1.out hk16 (fun h => h)
  have c2 : w6.cell? ⟨s, 2, none⟩ = some (.int .i64 B.n) := by
    obtain ⟨c, sv, ce, -, hb, -⟩ := Hbp.out.same hk16
    simpa using hb.cell 2
  have hdV : headV L B.n slot = if v1 = magicN ∧ v2 % 2 = slot ∧ v3 ≤ 1024 ∧ fitsN B.n v3 then some (v2, v3) else none := by
    unfold headV
    rw [Hv1.out, Hv2.out, Hv3.out, List.drop_drop]
  have c0 := hb6.cell 0
  have c1 := hb6.cell 1
  have f0 := hb6.frozen 0
  have f1 := hb6.frozen 1
  simp at c0 c1
  by_cases h1 : v1 = magicN
  · have h1I : ((v1 : Int) != 297733674067) = false := by simp; unfold magicN at h1; omega
    have hv2l : v2 < 18446744073709551616 := by
      have := le_lt ((L.drop 8).take 8)
      have e : ((L.drop 8).take 8).length ≤ 8 := by simp; omega
      have : 256 ^ ((L.drop 8).take 8).length ≤ 256 ^ 8 := Nat.pow_le_pow_right (by decide) e
      rw [Hv2.out]
      have e8 : (256 : Nat) ^ 8 = 18446744073709551616 := by decide
      omega
    have hv3l : v3 < 18446744073709551616 := by
      have := le_lt (((L.drop 8).drop 8).take 8)
      have e : (((L.drop 8).drop 8).take 8).length ≤ 8 := by simp; omega
      have : 256 ^ (((L.drop 8).drop 8).take 8).length ≤ 256 ^ 8 := Nat.pow_le_pow_right (by decide) e
      rw [Hv3.out]
      have e8 : (256 : Nat) ^ 8 = 18446744073709551616 := by decide
      omega
    have ea := and1_u64 v2 hv2l
    obtain ⟨m, hm⟩ : ∃ m, m = v2 % 2 := ⟨_, rfl⟩
    rw [← hm] at ea hdV
    have ew : IntKind.i64.wrap (m : Int) = m := IntWalk.i64_in _ (by omega)
    by_cases h2 : m = slot
    · have h2I : ((m : Int) != (slot : Int)) = false := by simp; omega
      by_cases h3 : v3 ≤ 1024
      · have h3I : ¬ (1024 : Int) < (v3 : Int) := by omega
        have ev : IntKind.i64.wrap (v3 : Int) = v3 := IntWalk.i64_in _ (by omega)
        have hft := fits_any (B.n : Int) (v3 : Int) w6 (by omega)
        rw [fitsI_nat] at hft
        by_cases h4 : fitsN B.n v3
        · have hN : headV L B.n slot = some (v2, v3) := by rw [hdV, if_pos ⟨h1, h2, h3, h4⟩]
          rw [decide_eq_true h4] at hft
          clear hdV
          have HN := Lib.hid hN
          have H1 := Lib.hid h1
          have H2 := Lib.hid h2
          have H3 := Lib.hid h3
          have H4 := Lib.hid h4
          have Hk06 := Lib.hid hk06
          have Hk16 := Lib.hid hk16
          have Hb6 := Lib.hid hb6
          have Hk6 := Lib.hid hk6
          have Hm := Lib.hid hm
          have Hft := Lib.hid hft
          clear hN h1 h2 h3 h4 hk06 hk16 hb6 hk6 hm hft
          go_wp2_with fail
          refine Hft.out.mono ?_
          rintro e w7 ⟨rfl, rfl⟩
          go_wp2_with fail
          (try simp only [Exit.inBlock, Exit.then])
          refine bodyPost_ret (v := .tuple #[hdVal (some (v2, v3)), .bool true]) ?_ rfl ⟨by rw [HN.out]; rfl, ?_⟩
          · rw [results_cell_tmp rfl]
            go_simp
            rfl
          · exact cells2 Hk06.out (by rw [Hq.out]; exact Nat.le_refl _) _ _
        · have hN : headV L B.n slot = none := by rw [hdV, if_neg (fun h => h4 h.2.2.2)]
          rw [decide_eq_false h4] at hft
          clear hdV
          have HN := Lib.hid hN
          have H1 := Lib.hid h1
          have H2 := Lib.hid h2
          have H3 := Lib.hid h3
          have H4 := Lib.hid h4
          have Hk06 := Lib.hid hk06
          have Hk16 := Lib.hid hk16
          have Hb6 := Lib.hid hb6
          have Hk6 := Lib.hid hk6
          have Hm := Lib.hid hm
          have Hft := Lib.hid hft
          clear hN h1 h2 h3 h4 hk06 hk16 hb6 hk6 hm hft
          go_wp2_with fail
          refine Hft.out.mono ?_
          rintro e w7 ⟨rfl, rfl⟩
          go_wp2_with fail
          (try simp only [Exit.inBlock, Exit.then])
          refine bodyPost_ret (v := .tuple #[hdVal none, .bool false]) ?_ rfl ⟨by rw [HN.out]; rfl, ?_⟩
          · rw [results_cell_tmp rfl]
            go_simp
            rfl
          · exact cells2 Hk06.out (by rw [Hq.out]; exact Nat.le_refl _) _ _
      · have h3I : (1024 : Int) < (v3 : Int) := by omega
        have hN : headV L B.n slot = none := by rw [hdV, if_neg (fun h => h3 h.2.2.1)]
        clear hdV
        have HN := Lib.hid hN
        have H1 := Lib.hid h1
        have H2 := Lib.hid h2
        have H3 := Lib.hid h3
        have Hk06 := Lib.hid hk06
        have Hk16 := Lib.hid hk16
        have Hb6 := Lib.hid hb6
        have Hk6 := Lib.hid hk6
        have Hm := Lib.hid hm
        clear hN h1 h2 h3 hk06 hk16 hb6 hk6 hm
        go_wp2_with fail
        (try simp only [Exit.inBlock, Exit.then])
        refine bodyPost_ret (v := .tuple #[hdVal none, .bool false]) ?_ rfl ⟨by rw [HN.out]; rfl, ?_⟩
        · rw [results_cell_tmp rfl]
          go_simp
          rfl
        · exact cells2 Hk06.out (by rw [Hq.out]; exact Nat.le_refl _) _ _
    · have h2I : ((m : Int) != (slot : Int)) = true := by simp; omega
      have hN : headV L B.n slot = none := by rw [hdV, if_neg (fun h => h2 h.2.1)]
      clear hdV
      have HN := Lib.hid hN
      have H1 := Lib.hid h1
      have H2 := Lib.hid h2
      have Hk06 := Lib.hid hk06
      have Hk16 := Lib.hid hk16
      have Hb6 := Lib.hid hb6
      have Hk6 := Lib.hid hk6
      have Hm := Lib.hid hm
      clear hN h1 h2 hk06 hk16 hb6 hk6 hm
      go_wp2_with fail
      (try simp only [Exit.inBlock, Exit.then])
      refine bodyPost_ret (v := .tuple #[hdVal none, .bool false]) ?_ rfl ⟨by rw [HN.out]; rfl, ?_⟩
      · rw [results_cell_tmp rfl]
        go_simp
        rfl
      · exact cells2 Hk06.out (by rw [Hq.out]; exact Nat.le_refl _) _ _
  · have hN : headV L B.n slot = none := by rw [hdV, if_neg (fun h => h1 h.1)]
    have h1I : ((v1 : Int) != 297733674067) = true := by simp; unfold magicN at h1; omega
    rw [hN]
    clear hdV
    have HN := Lib.hid hN
    have H1 := Lib.hid h1
    have Hk06 := Lib.hid hk06
    have Hk16 := Lib.hid hk16
    have Hb6 := Lib.hid hb6
    have Hk6 := Lib.hid hk6
    clear hN h1 hk06 hk16 hb6 hk6
    go_wp2_with fail
    (try simp only [Exit.inBlock, Exit.then])
    refine bodyPost_ret (v := .tuple #[hdVal none, .bool false]) ?_ rfl ⟨by rw [HN.out]; rfl, ?_⟩
    · rw [results_cell_tmp rfl]
      go_simp
      rfl
    · exact cells2 Hk06.out (by rw [Hq.out]; exact Nat.le_refl _) _ _
end
end Go.Proofs.YtnddaildicmneaaGreat
/-
  pages: newest.
-/
namespace Go.Proofs.YtnddaildicmneaaGreat
open Go.Proofs Go.RowKit Go.Sort Go.Maps

def sgt (g h : Nat) : Bool := decide (IntKind.i64.wrap (IntKind.u64.wrap ((g : Int) - h)) > 0)
def nstep (B : BookV) (found : Bool) : Option (Nat × Nat) → BookV × Bool
  | none => (B, found)
  | some (g, p) => if (!found || sgt g B.gen) = true then ({ B with gen := g, pages := p }, true) else (B, found)
def newV (B : BookV) (D : DiskV) : Nat → BookV × Bool
  | 0 => (B, false)
  | i + 1 => nstep (newV B D i).1 (newV B D i).2 (headV (D.readL ((B.a + i : Nat) : Int)) B.n i)
def newestV (B : BookV) (D : DiskV) : BookV × Bool := newV B D (min 2 B.n)
/-- only the head may differ -/
structure SameB (B B' : BookV) : Prop where
  a : B'.a = B.a
  n : B'.n = B.n
  size : B'.size = B.size
  second : B'.second = B.second
  changed : B'.changed = B.changed
theorem le8_lt (L : List UInt8) : le (L.take 8) < 18446744073709551616 := by
  have := le_lt (L.take 8)
  have e : (L.take 8).length ≤ 8 := by simp; omega
  have : 256 ^ (L.take 8).length ≤ 256 ^ 8 := Nat.pow_le_pow_right (by decide) e
  have e8 : (256 : Nat) ^ 8 = 18446744073709551616 := by decide
  omega
theorem headV_lt {L : List UInt8} {n s : Nat} {h : Nat × Nat} (e : headV L n s = some h) : h.1 < 18446744073709551616 ∧ h.2 ≤ 1024 := by
  unfold headV at e
  split at e
  · rename_i q
    injection e with e
    rw [← e]
    exact ⟨le8_lt _, q.2.2.1⟩
  · cases e
theorem newV_same (B : BookV) (D : DiskV) : ∀ i, SameB B (newV B D i).1
  | 0 => ⟨rfl, rfl, rfl, rfl, rfl⟩
  | i + 1 => by
    have h := newV_same B D i
    unfold newV nstep
    split
    · exact h
    · split
      · exact ⟨h.a, h.n, h.size, h.second, h.changed⟩
      · exact h
theorem newV_ok {B : BookV} (ok : BOk B) (D : DiskV) : ∀ i, BOk (newV B D i).1
  | 0 => ok
  | i + 1 => by
    have h := newV_ok ok D i
    unfold newV nstep
    split
    · exact h
    · rename_i g p he
      obtain ⟨h1, h2⟩ := headV_lt he
      split
      · exact ⟨h.z1, h.z2, h.n1, h2, h1⟩
      · exact h
section
variable {X : Nat → Prop} {w w' W0 wr : World} {s d c cm : Nat} {sv : Value} {ce pe : List EntV} {B : BookV} {S M F : Nat → Prop} {D : DiskV}
/-- the head is set -/
theorem BAt.head (h : BAt w s d c sv ce B) (g p : Nat) : BAt ((w.setCell ⟨s, 4, none⟩ (.int .u64 g)).setCell ⟨s, 5, none⟩ (.int .i64 p)) s d c sv ce { B with gen := g, pages := p } ∧ Keeps (MS s c) w ((w.setCell ⟨s, 4, none⟩ (.int .u64 g)).setCell ⟨s, 5, none⟩ (.int .i64 p)) := by
  have hks : Keeps (only s) w ((w.setCell ⟨s, 4, none⟩ (.int .u64 g)).setCell ⟨s, 5, none⟩ (.int .i64 p)) := ((Keeps.refl (only s) w).setCell (p := ⟨s, 4, none⟩) (fun _ => rfl) _).setCell (p := ⟨s, 5, none⟩) (fun _ => rfl) _
  have hnr : ∀ k, only s k → NotRaw w k := fun k e => by have e2 : k = s := e; rw [e2]; exact h.notRaw s (.inl rfl)
  have hb := (h.box.set_ 4 (.int .u64 g)).set_ 5 (.int .i64 p)
  refine ⟨⟨by simpa using hb, h.sec.keep hks (fun b e hs => row_raw h.sec (.inr rfl) (hnr b hs) e), h.map.keep hks (fun e => h.ne (show c = s from e).symm), fun x hx => (h.vals x hx).keep hks (fun b e hs => row_raw (h.vals x hx) (.inl rfl) (hnr b hs) e), h.ch⟩, hks.mono fun _ _ e => .inl e⟩
set_option maxRecDepth 20000 in
set_option maxHeartbeats 4000000 in
theorem bnewest_at (hk : DK X w d F D) (h : BAt w s d c sv ce B) (hx : XOk X w sv) (ap : ∀ k, MS s c k → ¬ F k) (ok : BOk B) (dok : DOk D) (ho : D.off = false) (hr : B.a + min 2 B.n ≤ D.kept.length) (hz : D.size = B.size) :
    Calls Tryz.prog 27 #[bp s] w fun e w' => e = .returned (.bool (newestV B D).2) ∧ DK X w' d F D ∧ BAt w' s d c sv ce (newestV B D).1 ∧ Keeps (MS s c) w w' := by
  obtain ⟨m, hm⟩ : ∃ m, m = min 2 B.n := ⟨_, rfl⟩
  have hN : newestV B D = newV B D m := by rw [hm]; rfl
  have hmI : min 2 (B.n : Int) = (m : Int) := by omega
  have hm2 : m ≤ 2 := by omega
  have hrm : B.a + m ≤ D.kept.length := by rw [hm]; exact hr
  rw [hN]
  have c2 : w.cell? ⟨s, 2, none⟩ = some (.int .i64 B.n) := by simpa using h.cell 2
  unfold bp
  have Hk := Lib.hid hk
  have H := Lib.hid h
  have Hm := Lib.hid hm
  have Hr := Lib.hid hr
  have Hz := Lib.hid hz
  have HN := Lib.hid hN
  have Ho := Lib.hid ho
  clear hk h hm hr hz hN ho
  go_enter Tryz.func27, Tryz.ntmps27
  go_upto_region 3 with fail
  go_loopw [3, 12] (fun fv iv wr => ∃ i : Nat, iv = .int .i64 i ∧ i ≤ m ∧ fv = .bool (newV B D i).2 ∧ DK X wr d F D ∧ BAt wr s d c sv ce (newV B D i).1 ∧ Keeps (MS s c) w wr) (fun _ iv _ => m - (intOf iv).toNat)
  case atStart => exact ⟨0, rfl, Nat.zero_le _, rfl, Hk.out, H.out, Keeps.refl _ _⟩
  case round =>
    obtain ⟨i, rfl, hi, rfl, hkd, hbp, hkm⟩ := hrel
    by_cases hlt : i < m
    · have hltI : (i : Int) < m := by omega
      have hi1 : IntKind.i64.wrap ((i : Int) + 1) = i + 1 := IntWalk.i64_in _ (by omega)
      have hsm := newV_same B D i
      have okI := newV_ok ok D i
      have hnx : newV B D (i + 1) = nstep (newV B D i).1 (newV B D i).2 (headV (D.readL ((B.a + i : Nat) : Int)) B.n i) := rfl
      obtain ⟨X, hX⟩ : ∃ X, X = headV (D.readL ((B.a + i : Nat) : Int)) B.n i := ⟨_, rfl⟩
      obtain ⟨BI, hBI⟩ : ∃ BI, BI = (newV B D i).1 := ⟨_, rfl⟩
      obtain ⟨fi, hfi⟩ : ∃ fi, fi = (newV B D i).2 := ⟨_, rfl⟩
      have hrd := bread_any (B := (newV B D i).1) i hkd ⟨c, sv, ce, rfl, hbp, hx.keep hkm.size⟩ okI dok Ho.out (by omega) (by rw [hsm.a]; omega) (by rw [hsm.size]; exact Hz.out) _ rfl
      rw [hsm.n, hsm.a, ← hX] at hrd
      rw [← hX, ← hBI, ← hfi] at hnx
      rw [← hBI] at hbp
      rw [← hfi]
      have hXl : ∀ g p, X = some (g, p) → g < 18446744073709551616 ∧ p ≤ 1024 := fun g p e => by rw [hX] at e; exact headV_lt e
      unfold bp at hrd
      clear hX hsm okI
      have Hrd := Lib.hid hrd
      have Hbp := Lib.hid hbp
      have Hkd := Lib.hid hkd
      have Hkm := Lib.hid hkm
      have Hnx := Lib.hid hnx
      have HXl := Lib.hid hXl
      have HBI := Lib.hid hBI
      have Hfi := Lib.hid hfi
      clear hrd hbp hkd hkm hnx hXl hBI hfi
      go_wp2_with fail
      refine Hrd.out.mono ?_
      rintro e w1 ⟨rfl, hk1⟩
      cases X with
      | none =>
        unfold hdVal
        simp only [Option.isSome, Option.getD]
        have Hk1 := Lib.hid hk1
        clear hk1
        go_wp2_with fail
        go_quiet (fail)
        go_wp2_with fail
        go_roundw
        case rel =>
          have hk2 := (Hk1.out.alloc (.cells #[.int .u64 0, .int .i64 0] 60)).drewN nq
          exact ⟨i + 1, by simp, by omega, by rw [Hnx.out, nstep], Hkd.out.same hk2, by rw [Hnx.out, nstep]; exact Hbp.out.same hk2, Hkm.out.trans hk2 (fun _ _ e => e.elim)⟩
        case measure => simp [intOf]; omega
      | some x =>
        obtain ⟨g, p⟩ := x
        obtain ⟨hg, hp⟩ := HXl.out g p rfl
        unfold hdVal
        simp only [Option.isSome, Option.getD]
        obtain ⟨w2, hw2⟩ : ∃ w2, w2 = w1.alloc (.cells #[.int .u64 g, .int .i64 p] 60) := ⟨_, rfl⟩
        have hk2 : Keeps nowhere wr w2 := by rw [hw2]; exact hk1.alloc _
        have hb2 := (Hbp.out.same hk1).same ((Keeps.refl nowhere w1).alloc (.cells #[.int .u64 g, .int .i64 p] 60))
        have c4 := hb2.cell 4
        have c5 := hb2.cell 5
        have f4 := hb2.box.frozen 4
        have f5 := hb2.box.frozen 5
        simp at c4 c5
        clear hb2 hk1
        have hst : ∀ nq, DK X (((w2.drewN nq).setCell ⟨s, 4, none⟩ (.int .u64 g)).setCell ⟨s, 5, none⟩ (.int .i64 p)) d F D ∧ BAt (((w2.drewN nq).setCell ⟨s, 4, none⟩ (.int .u64 g)).setCell ⟨s, 5, none⟩ (.int .i64 p)) s d c sv ce { BI with gen := g, pages := p } ∧ Keeps (MS s c) w (((w2.drewN nq).setCell ⟨s, 4, none⟩ (.int .u64 g)).setCell ⟨s, 5, none⟩ (.int .i64 p)) := fun nq => by
          have hk3 := hk2.drewN nq
          have hb3 := Hbp.out.same hk3
          obtain ⟨h1, h2⟩ := BAt.head hb3 g p
          exact ⟨(Hkd.out.same hk3).keepAll h2 (fun k hk e => ap k e hk) (fun k e => hb3.notRaw k e), h1, (Hkm.out.trans hk3 (fun _ _ e => e.elim)).trans h2 (fun _ _ e => e)⟩
        rw [hw2] at hst hk2
        clear hw2
        have Hst := Lib.hid hst
        have Hk2 := Lib.hid hk2
        clear hst hk2
        have hyes : (!fi || sgt g BI.gen) = true → nstep BI fi (some (g, p)) = ({ BI with gen := g, pages := p }, true) := fun e => if_pos e
        have hno : ¬ (!fi || sgt g BI.gen) = true → nstep BI fi (some (g, p)) = (BI, fi) := fun e => if_neg e
        cases fi with
        | false =>
          have hnx := Hnx.out.trans (hyes rfl)
          clear hyes hno
          have Hnx := Lib.hid hnx
          clear hnx
          go_wp2_with fail
          go_quiet (fail)
          go_wp2_with fail
          go_roundw
          case rel =>
            obtain ⟨h1, h2, h3⟩ := Hst.out nq
            exact ⟨i + 1, by simp, by omega, by rw [Hnx.out], h1, by rw [Hnx.out]; exact h2, h3⟩
          case measure => simp [intOf]; omega
        | true =>
          obtain ⟨u, hu⟩ : ∃ u, u = IntKind.u64.wrap ((g : Int) - BI.gen) := ⟨_, rfl⟩
          obtain ⟨t, ht⟩ : ∃ t, t = IntKind.i64.wrap u := ⟨_, rfl⟩
          have hs : sgt g BI.gen = decide (t > 0) := by unfold sgt; rw [ht, hu]
          have hu' := hu.symm
          have ht' := ht.symm
          clear hu ht
          by_cases h0 : t > 0
          · have hnx := Hnx.out.trans (hyes (by rw [hs, decide_eq_true h0]; rfl))
            clear hyes hno hs
            have Hnx := Lib.hid hnx
            clear hnx
            go_wp2_with fail
            go_quiet (fail)
            go_wp2_with fail
            go_roundw
            case rel =>
              obtain ⟨h1, h2, h3⟩ := Hst.out nq
              exact ⟨i + 1, by simp, by omega, by rw [Hnx.out], h1, by rw [Hnx.out]; exact h2, h3⟩
            case measure => simp [intOf]; omega
          · have hnx := Hnx.out.trans (hno (by rw [hs, decide_eq_false h0]; simp))
            clear hyes hno hs
            have Hnx := Lib.hid hnx
            clear hnx
            go_wp2_with fail
            go_quiet (fail)
            go_wp2_with fail
            go_roundw
            case rel =>
              have hk3 := Hk2.out.drewN nq
              exact ⟨i + 1, by simp, by omega, by rw [Hnx.out], Hkd.out.same hk3, by rw [Hnx.out]; exact Hbp.out.same hk3, Hkm.out.trans hk3 (fun _ _ e => e.elim)⟩
            case measure => simp [intOf]; omega
    · obtain rfl : i = m := by omega
      have Hkd := Lib.hid hkd
      have Hbp := Lib.hid hbp
      have Hkm := Lib.hid hkm
      clear hkd hbp hkm
      go_wp2_with fail
      go_ret
      exact ⟨rfl, Hkd.out, Hbp.out, Hkm.out⟩
theorem bnewest_any (hk : DK X w d F D) (h : BP X w s d M B) (ap : ∀ k, M k → ¬ F k) (ok : BOk B) (dok : DOk D) (ho : D.off = false) (hr : B.a + min 2 B.n ≤ D.kept.length) (hz : D.size = B.size) :
    Calls Tryz.prog 27 #[bp s] w fun e w' => e = .returned (.bool (newestV B D).2) ∧ DK X w' d F D ∧ BP X w' s d M (newestV B D).1 ∧ Keeps M w w' := by
  obtain ⟨c, sv, ce, rfl, h, hx⟩ := h
  exact (bnewest_at hk h hx ap ok dok ho hr hz).mono fun e w' ⟨h1, h2, h3, h4⟩ => ⟨h1, h2, ⟨c, sv, ce, rfl, h3, hx.keep h4.size⟩, h4⟩
end
end Go.Proofs.YtnddaildicmneaaGreat
/-
  pages: Write.
-/
namespace Go.Proofs.YtnddaildicmneaaGreat
open Go.Proofs Go.RowKit Go.Sort Go.Maps

def putC (l : List (Nat × List UInt8)) (p : Nat) (L : List UInt8) : List (Nat × List UInt8) := (l.filter fun x => !decide (x.1 = p)) ++ [(p, L)]
def writeOk (B : BookV) (pg : Int) (L : List UInt8) : Bool := inP B.pages pg && decide (L.length = B.size - 16)
def writeE (B : BookV) (pg : Int) (L : List UInt8) : Int := if writeOk B pg L = true then 0 else 1
def writeB (B : BookV) (pg : Int) (L : List UInt8) : BookV := if writeOk B pg L = true then { B with changed := putC B.changed pg.toNat L } else B
theorem putC_len (l : List (Nat × List UInt8)) (p : Nat) (L : List UInt8) : (putC l p L).length ≤ l.length + 1 := by
  unfold putC
  rw [List.length_append]
  have := List.length_filter_le (fun x : Nat × List UInt8 => !decide (x.1 = p)) l
  simp; omega
theorem entI_put (ce : List EntV) (p : Nat) (v : Value) (L : List UInt8) : putA (entI ce) (p : Int) v = entI ((ce.filter fun x => !decide (x.1 = p)) ++ [(p, v, L)]) := by
  unfold putA entI
  rw [List.filter_map, List.map_append]
  congr 1
  congr 1
  congr 1
  funext x
  simp only [Function.comp_apply, Int.ofNat_inj]
theorem chs_put (ce : List EntV) (p : Nat) (v : Value) (L : List UInt8) : ((ce.filter fun x => !decide (x.1 = p)) ++ [(p, v, L)]).map (fun x => (x.1, x.2.2)) = putC (ce.map fun x => (x.1, x.2.2)) p L := by
  unfold putC
  rw [List.filter_map, List.map_append]
  rfl
section
variable {X : Nat → Prop} {w w' W0 wr : World} {s d c cm : Nat} {sv : Value} {ce pe : List EntV} {B : BookV} {S M F : Nat → Prop} {D : DiskV}
theorem BGo.same (h : BP X w s d M B) (hk : Keeps nowhere w w') : BGo X w s d M w' B := ⟨M, h.same hk, hk.mono (fun _ _ h => h.elim), fun _ h => .inl h⟩
set_option maxHeartbeats 4000000 in
theorem bwrite_any (pg : Int) (A : Option Addr) (n cp : Nat) (g : Option Nat) (L : List UInt8) (h : BP X w s d M B) (ok : BOk B) (hr : recB.Rd w (.slice A n cp) g L) (hc : B.changed.length ≤ 100000) :
    Calls Tryz.prog 9 #[bp s, .int .i64 pg, .slice A n cp] w fun e w' => e = .returned (.int .i64 (writeE B pg L)) ∧ BGo X w s d M w' (writeB B pg L) := by
  have hn : n = L.length := by obtain ⟨_, _, hv, -⟩ := id hr; injection hv
  have hin := bin_any pg h
  have z1 := ok.z1
  have z2 := ok.z2
  obtain ⟨c, sv, ce, hM, h, hx⟩ := h
  have c3 := h.cell 3
  simp at c3
  by_cases h1 : inP B.pages pg = true
  · rw [h1] at hin
    by_cases h2 : n = B.size - 16
    · have hw : writeOk B pg L = true := by unfold writeOk; rw [h1, ← hn, decide_eq_true h2]; rfl
      unfold writeE writeB
      rw [if_pos hw, if_pos hw]
      have e1 : IntKind.i64.wrap ((B.size : Int) - 16) = (n : Int) := by rw [IntWalk.i64_in _ (by omega)]; omega
      obtain ⟨p, rfl⟩ : ∃ p : Nat, pg = (p : Int) := Int.eq_ofNat_of_zero_le (by unfold inP at h1; simp at h1; omega)
      have hp1 : p < 1024 := by unfold inP at h1; simp at h1; have := ok.p1; omega
      rw [Int.toNat_natCast]
      have q7 : ∀ w', Keeps nowhere w.drew w' → w'.cell? ⟨s, 7, none⟩ = some (.map (some c)) := fun w' e => by simpa using (h.same ((Keeps.refl nowhere w).drew.more e)).cell 7
      have hclen : ce.length ≤ 100000 := by have := h.ch ▸ hc; simpa using this
      have hLl : L.length ≤ 1000000 := by omega
      unfold bp at hin ⊢
      clear h1 h2 hw z1 z2 ok hc
      have H := Lib.hid h
      have Hin := Lib.hid hin
      have Hr := Lib.hid hr
      have HM := Lib.hid hM
      have Hn := Lib.hid hn
      have Hp1 := Lib.hid hp1
      have Hclen := Lib.hid hclen
      have HLl := Lib.hid hLl
      clear h hin hr hM hn hp1 hclen hLl
      go_enter Tryz.func9, Tryz.ntmps9
      go_wp2_with fail
      refine Hin.out.mono ?_
      rintro e w' ⟨rfl, rfl⟩
      go_wp2_with fail
      refine wp_region_script [0, 1, 2, 3, 4, 5] [3] [.ps [0, 1, 2], .fs [3], .ps [4, 5], .es [6] true, .es [7] false] (Keeps nowhere w.drew) rfl (by kernel_rfl) ?_
      refine wpS_ps rfl fun K hK => ?_
      simp only [List.map_cons, List.map_nil, Option.getD_some, List.getElem?_toArray, List.getElem?_cons_zero, List.getElem?_cons_succ]
      iterate 3 (first | (apply quietO_cons _ rfl; (intro w' _; go_simp; rfl)) | apply quietO_skip rfl)
      refine hK _ ?_
      clear hK K
      simp only [Act.put, List.setIfInBounds_toArray, List.set_cons_zero, List.set_cons_succ]
      refine wpS_fs rfl (Keeps.refl _ _) fun K hK => ?_
      simp only [List.map_cons, List.map_nil, Option.getD_some, List.getElem?_toArray, List.getElem?_cons_zero, List.getElem?_cons_succ]
      iterate 1 (first | (apply quietO_cons _ rfl; (intro w' hs; have c_0 := q7 w' hs; go_simp; rfl)) | apply quietO_skip rfl)
      refine hK _ ?_
      clear hK K
      simp only [Act.put, List.setIfInBounds_toArray, List.set_cons_zero, List.set_cons_succ]
      refine wpS_ps rfl fun K hK => ?_
      simp only [List.map_cons, List.map_nil, Option.getD_some, List.getElem?_toArray, List.getElem?_cons_zero, List.getElem?_cons_succ]
      iterate 2 (first | (apply quietO_cons _ rfl; (intro w' _; go_simp; rfl)) | apply quietO_skip rfl)
      refine hK _ ?_
      clear hK K
      simp only [Act.put, List.setIfInBounds_toArray, List.set_cons_zero, List.set_cons_succ]
      clear q7
      refine wpS_es rfl fun K hK => ?_
      have HK := Lib.hid hK
      clear hK
      simp only [List.map_cons, List.map_nil, Option.getD_some, List.getElem?_toArray, List.getElem?_cons_zero, List.getElem?_cons_succ]
      go_wp2_with fail
      refine (clB_any _ _ L w.drew (Hr.out.same (Keeps.refl nowhere w).drew) (by have := HLl.out; omega)).mono ?_
      rintro e w3 ⟨v', rfl, hrow, hab, hk3⟩
      have hk03 := (Keeps.refl nowhere w).drew.more hk3
      have h3 := H.out.same hk03
      obtain ⟨w4, hput, hm4, hk4⟩ := h3.map.put (t := 61) (e := 33) Tryz.underlying61 (x := (p : Int)) (wfI_nat p (by have := Hp1.out; omega)) v' (by have := Hclen.out; simp [entI]; omega)
      have hput2 : (Instr.mapUpdate 61 (.map (some c)) (.int .i64 (p : Int)) v').run Tryz.prog w3 = .ok () w4 := hput
      have hnr : ∀ k, (k = c) → NotRaw w3 k := fun k e => by rw [e]; exact notRaw_map h3.map
      have hgo : BGo X w s d M w4 { B with changed := putC B.changed p L } := by
        rw [HM.out]
        refine ⟨MS s c, ⟨c, sv, (ce.filter fun x => !decide (x.1 = p)) ++ [(p, v', L)], rfl, ?_, hx.keep (Nat.le_trans hk03.size hk4.size)⟩, ?_, fun k e => .inl e⟩
        · refine ⟨h3.box.keep hk4 (fun e => h3.ne e), h3.sec.keep hk4 (fun b e hs => row_raw h3.sec (.inr rfl) (hnr b hs) e), by rw [entI_put] at hm4; exact hm4, fun x hx => ?_, ?_⟩
          · rcases List.mem_append.1 hx with hx | hx
            · have hx1 := (List.mem_filter.1 hx).1
              exact (h3.vals x hx1).keep hk4 (fun b e hs => row_raw (h3.vals x hx1) (.inl rfl) (hnr b hs) e)
            · rw [List.mem_singleton.1 hx]
              exact hrow.keep hk4 (fun b e hs => row_raw hrow (.inl rfl) (hnr b hs) e)
          · rw [chs_put, ← h3.ch]
        · exact (hk03.mono (T := MS s c) (fun _ _ h => h.elim)).trans hk4 (fun _ _ e => .inr e)
      clear hput hm4 h3 hrow hab
      have Hgo := Lib.hid hgo
      have Hk4 := Lib.hid hk4
      clear hgo hk4
      go_wp2_with fail
      refine HK.out _ _ (fun _ => hk3) ?_
      clear HK K
      refine wpS_es rfl fun K hK => ?_
      have HK := Lib.hid hK
      clear hK
      simp only [List.map_cons, List.map_nil, Option.getD_some, List.getElem?_toArray, List.getElem?_cons_zero, List.getElem?_cons_succ]
      go_wp2_with fail
      clear hput2
      go_wp2_with fail
      refine HK.out _ _ (fun h => by cases h) ?_
      clear HK K
      refine wpS_nil ?_
      go_wp2_with fail
      go_ret
      exact ⟨rfl, Hgo.out⟩
    · have hw : writeOk B pg L = false := by unfold writeOk; rw [← hn, decide_eq_false h2]; simp
      have e1 : IntKind.i64.wrap ((B.size : Int) - 16) = (B.size : Int) - 16 := IntWalk.i64_in _ (by omega)
      have e2 : ((n : Int) != (B.size : Int) - 16) = true := by simp; omega
      have e3 : ¬ (n : Int) = (B.size : Int) - 16 := by omega
      unfold writeE writeB
      rw [if_neg (by simp [hw]), if_neg (by simp [hw])]
      have hgo : ∀ w', w' = w → BGo X w s d M w' B := fun w' e => BGo.same ⟨c, sv, ce, hM, h, hx⟩ (by rw [e]; exact Keeps.refl _ _)
      unfold bp at hin ⊢
      clear h1 h2 hw z1 z2 ok hc
      have H := Lib.hid h
      have Hin := Lib.hid hin
      have Hr := Lib.hid hr
      have HM := Lib.hid hM
      have Hn := Lib.hid hn
      have Hgo := Lib.hid hgo
      clear h hin hr hM hn hgo
      go_enter Tryz.func9, Tryz.ntmps9
      go_wp2_with fail
      refine Hin.out.mono ?_
      rintro e w' ⟨rfl, rfl⟩
      go_wp2_with fail
      go_ret
      exact ⟨rfl, Hgo.out _ rfl⟩
  · have h1' : inP B.pages pg = false := by simpa using h1
    have hw : writeOk B pg L = false := by unfold writeOk; rw [h1']; rfl
    rw [h1'] at hin
    unfold writeE writeB
    rw [if_neg (by simp [hw]), if_neg (by simp [hw])]
    have hgo : ∀ w', w' = w → BGo X w s d M w' B := fun w' e => BGo.same ⟨c, sv, ce, hM, h, hx⟩ (by rw [e]; exact Keeps.refl _ _)
    unfold bp at hin ⊢
    clear h1 hw z1 z2 ok hc c3
    have H := Lib.hid h
    have Hin := Lib.hid hin
    have Hr := Lib.hid hr
    have HM := Lib.hid hM
    have Hn := Lib.hid hn
    have Hgo := Lib.hid hgo
    clear h hin hr hM hn hgo
    go_enter Tryz.func9, Tryz.ntmps9
    go_wp2_with fail
    refine Hin.out.mono ?_
    rintro e w' ⟨rfl, rfl⟩
    go_wp2_with fail
    go_ret
    exact ⟨rfl, Hgo.out _ rfl⟩
end
end Go.Proofs.YtnddaildicmneaaGreat
/-
  pages: Read.
-/
namespace Go.Proofs.YtnddaildicmneaaGreat
open Go.Proofs Go.RowKit Go.Sort Go.Maps

def readPg (B : BookV) (D : DiskV) (p : Nat) : List UInt8 := match B.changed.find? (fun x => decide (x.1 = p)) with | some x => x.2 | none => (D.readL ((B.plc p (boolF B.second p) : Nat) : Int)).take (B.size - 16)
theorem asc_entI (ce : List EntV) (p : Nat) : asc (entI ce) (p : Int) = (ce.find? fun x => decide (x.1 = p)).map (·.2.1) := by
  unfold asc entI
  rw [List.find?_map, Option.map_map]
  have e : ((fun q : Int × Value => decide (q.1 = (p : Int))) ∘ fun x : EntV => ((x.1 : Int), x.2.1)) = fun x => decide (x.1 = p) := by funext x; simp only [Function.comp_apply, Int.ofNat_inj]
  rw [e]; rfl
theorem find_chs (ce : List EntV) (p : Nat) : (ce.map fun x => (x.1, x.2.2)).find? (fun x => decide (x.1 = p)) = (ce.find? fun x => decide (x.1 = p)).map fun x => (x.1, x.2.2) := by
  rw [List.find?_map]; rfl
section
variable {X : Nat → Prop} {w w' W0 wr : World} {s d c cm : Nat} {sv : Value} {ce pe : List EntV} {B : BookV} {S M F : Nat → Prop} {D : DiskV}
def RetRd (w : World) (L : List UInt8) : Ending → World → Prop := fun e w' => ∃ A c g, e = .returned (.tuple #[.slice A L.length c, .int .i64 0]) ∧ recB.Rd w' (.slice A L.length c) g L ∧ Above w.heap.size g ∧ Keeps nowhere w w'
set_option maxHeartbeats 4000000 in
theorem breadp_bad (pg : Int) (h : BP X w s d M B) (hp : inP B.pages pg = false) : Calls Tryz.prog 22 #[bp s, .int .i64 pg] w fun e w' => e = .returned (.tuple #[.slice none 0 0, .int .i64 1]) ∧ w' = w := by
  have hin := bin_any pg h
  rw [hp] at hin
  unfold bp at hin ⊢
  have Hin := Lib.hid hin
  have H := Lib.hid h
  clear hin h
  go_enter Tryz.func22, Tryz.ntmps22
  go_wp2_with fail
  refine Hin.out.mono ?_
  rintro e w' ⟨rfl, rfl⟩
  go_wp2_with fail
  go_ret2
  exact ⟨rfl, rfl⟩
set_option maxRecDepth 20000 in
set_option maxHeartbeats 4000000 in
theorem breadp_any (p : Nat) (hk : DK X w d F D) (h : BP X w s d M B) (ok : BOk B) (dok : DOk D) (ho : D.off = false) (hz : D.size = B.size) (hp : p < B.pages) (hs : B.second.length = B.pages) (hr : B.plc p (boolF B.second p) < D.kept.length) (hcl : ∀ x ∈ B.changed, x.2.length ≤ 1000000) :
    Calls Tryz.prog 22 #[bp s, .int .i64 p] w (RetRd w (readPg B D p)) := by
  have hin := bin_any (p : Int) h
  have hip : inP B.pages p = true := by unfold inP; simp; omega
  rw [hip] at hin
  have hoff := dk_off hk
  rw [ho] at hoff
  have hplc := fun w1 (hk1 : Keeps nowhere w w1) => bplace_any p (boolF B.second p) (h.same hk1) ok (by have := ok.p1; omega)
  obtain ⟨b0, hb0⟩ : ∃ b, B.second[p]? = some b := ⟨_, List.getElem?_eq_getElem (by omega)⟩
  have hb0' : boolF B.second p = b0 := by unfold boolF; rw [hb0]; rfl
  have hrl : (D.readL ((B.plc p (boolF B.second p) : Nat) : Int)).length = B.size := by
    rw [← hz]
    obtain ⟨b, kv, kp, ks, vs, rfl, h, -⟩ := hk
    unfold DiskV.readL DiskV.read
    rw [if_neg (by simp [ho]), if_pos ⟨by omega, by omega⟩, Int.toNat_natCast]
    exact read_len h hr _
  have hre : D.readE ((B.plc p (boolF B.second p) : Nat) : Int) = 0 := by
    unfold DiskV.readE
    rw [if_neg (by simp [ho]), if_pos ⟨by omega, by omega⟩]
  have hrd := fun w1 (hk1 : Keeps nowhere w w1) => dk_read ((B.plc p (boolF B.second p) : Nat) : Int) (hk.same hk1) dok
  rw [hre] at hrd
  have hL : readPg B D p = match B.changed.find? (fun x => decide (x.1 = p)) with | some x => x.2 | none => (D.readL ((B.plc p (boolF B.second p) : Nat) : Int)).take (B.size - 16) := rfl
  obtain ⟨R, hR⟩ : ∃ R, R = D.readL ((B.plc p (boolF B.second p) : Nat) : Int) := ⟨_, rfl⟩
  obtain ⟨x, hx⟩ : ∃ x, x = B.plc p (boolF B.second p) := ⟨_, rfl⟩
  rw [← hR] at hL hrl hrd
  rw [← hx] at hrd hplc
  rw [hb0'] at hplc
  obtain ⟨G, hG⟩ : ∃ G, G = readPg B D p := ⟨_, rfl⟩
  rw [← hG] at hL ⊢
  have z1 := ok.z1
  have z2 := ok.z2
  obtain ⟨c, sv, ce, hM, h, hXo⟩ := h
  have hfc := find_chs ce p
  rw [← h.ch] at hfc
  have hlk := h.map.look_ok (t := 61) (e := 33) Tryz.underlying61 (z := .slice none 0 0) (by kernel_rfl) (x := (p : Int)) (wfI_nat p (by have := ok.p1; omega))
  change (Instr.lookup 61 (.map (some c)) (.int .i64 (p : Int)) true).run Tryz.prog w = _ at hlk
  rw [asc_entI] at hlk
  have c0 := h.cell 0
  have c3 := h.cell 3
  have c7 := h.cell 7
  simp at c0 c3 c7
  unfold bp at hin hplc ⊢
  unfold dp at c0 hrd hoff
  cases hf : ce.find? (fun x => decide (x.1 = p)) with
  | some y =>
    rw [hf] at hfc hlk
    simp only [Option.map_some, Option.getD_some, Option.isSome_some] at hfc hlk
    rw [hfc] at hL
    simp only at hL
    have hrow := h.vals y (List.mem_of_find?_eq_some hf)
    rw [← hL] at hrow
    have hGl : G.length ≤ 1000000 := by
      rw [hL]
      exact hcl (y.1, y.2.2) (List.mem_of_find?_eq_some hfc)
    obtain ⟨A1, c1, hyv, -⟩ := hrow.form
    rw [hyv] at hrow hlk
    have hcl := clB_any _ _ G w hrow.rd (by omega)
    clear hfc hf hplc hrd hL hb0 hb0' hrl hre z1 z2 ok
    have Hin := Lib.hid hin
    have Hoff := Lib.hid hoff
    have Hcl := Lib.hid hcl
    have H := Lib.hid h
    have HM := Lib.hid hM
    have HG := Lib.hid hG
    have Hk := Lib.hid hk
    have HR := Lib.hid hR
    have Hx := Lib.hid hx
    have Hrow := Lib.hid hrow
    have HGl := Lib.hid hGl
    clear hin hoff hcl h hM hG hk hR hx hrow hGl
    go_enter Tryz.func22, Tryz.ntmps22
    go_wp2_with fail
    refine Hin.out.mono ?_
    rintro e w' ⟨rfl, rfl⟩
    go_wp2_with fail
    refine Hoff.out.mono ?_
    rintro e w' ⟨rfl, rfl⟩
    go_wp2_with fail
    refine Hcl.out.mono ?_
    rintro e w2 ⟨v2, rfl, hrow2, hab, hk2⟩
    have hcp := clipB_any v2 G w2 hrow2
    have Hcp := Lib.hid hcp
    have Hk2 := Lib.hid hk2
    have Hab := Lib.hid hab
    clear hcp hk2 hab
    go_wp2_with fail
    refine Hcp.out.mono ?_
    rintro e w3 ⟨v3, g3, rfl, hr3, hg3, rfl⟩
    obtain ⟨A3, c3, rfl, -⟩ := id hr3
    have Hr3 := Lib.hid hr3
    have Hg3 := Lib.hid hg3
    clear hr3 hg3
    go_wp2_with fail
    go_ret2
    exact ⟨_, _, g3, rfl, Hr3.out, fun b hb => Hab.out b (Hg3.out b hb), Hk2.out⟩
  | none =>
    rw [hf] at hfc hlk
    simp only [Option.map_none, Option.getD_none, Option.isSome_none] at hfc hlk
    rw [hfc] at hL
    simp only at hL
    have hGl : G.length = B.size - 16 := by rw [hL, List.length_take]; omega
    obtain ⟨sA, sc, hsv, -⟩ := h.sec.form
    rw [hs] at hsv
    have hsec := h.sec
    rw [hsv] at hsec
    have hsr := hsec.rd
    obtain ⟨b1, o1, hsA, -⟩ := rdBo_cl hsr (Keeps.refl nowhere w) hb0
    subst hsA
    have q0 : ∀ w', Keeps nowhere w.drew w' → w'.cell? ⟨s, 0, none⟩ = some (.pointer (some ⟨d, 0, none⟩)) := fun w' e => by simpa [dp] using (h.same ((Keeps.refl nowhere w).drew.more e)).cell 0
    have q6 : ∀ w', Keeps nowhere w.drew w' → w'.cell? ⟨s, 6, none⟩ = some (.slice (some ⟨b1, o1, none⟩) B.pages sc) := fun w' e => by simpa [hsv] using (h.same ((Keeps.refl nowhere w).drew.more e)).cell 6
    have hc1 : w.drew.cell? ⟨b1, o1 + p, none⟩ = some (.bool b0) := by
      obtain ⟨b2, o2, e2, hc⟩ := rdBo_cl hsr (Keeps.refl nowhere w).drew hb0
      injection e2 with e2
      injection e2 with e3 e4
      rw [e3, e4]; exact hc
    have e1 : IntKind.i64.wrap ((B.size : Int) - 16) = ((B.size - 16 : Nat) : Int) := by rw [IntWalk.i64_in _ (by omega)]; omega
    have hpI : (p : Int) < (B.pages : Int) := by omega
    have hp0 : (0 : Int) ≤ (p : Int) := by omega
    have c3' : ∀ w2, Keeps nowhere w w2 → w2.cell? ⟨s, 3, none⟩ = some (.int .i64 B.size) := fun w2 e => by simpa using (h.same e).cell 3
    clear hfc hf hb0 hb0' hre c3 hsr hsec hsv
    have Hin := Lib.hid hin
    have Hoff := Lib.hid hoff
    have H := Lib.hid h
    have HM := Lib.hid hM
    have HG := Lib.hid hG
    have Hk := Lib.hid hk
    have HR := Lib.hid hR
    have Hx := Lib.hid hx
    have Hrd := Lib.hid hrd
    have Hplc := Lib.hid hplc
    have HL := Lib.hid hL
    have Hrl := Lib.hid hrl
    have HGl := Lib.hid hGl
    have C3' := Lib.hid c3'
    clear hin hoff h hM hG hk hR hx hrd hplc hL hrl hGl c3'
    go_enter Tryz.func22, Tryz.ntmps22
    go_wp2_with fail
    refine Hin.out.mono ?_
    rintro e w' ⟨rfl, rfl⟩
    go_wp2_with fail
    refine Hoff.out.mono ?_
    rintro e w' ⟨rfl, rfl⟩
    go_wp2_with fail
    clear hlk c7 c0
    refine wp_region_script [0, 1, 2, 3, 4, 5, 6, 7, 8, 9, 10, 11, 16, 17] [3, 9] [.ps [0, 1, 2], .fs [3], .ps [4, 5, 6, 7, 8], .fs [9], .ps [10, 11], .es [12] true, .es [13] true, .es [14, 15] false, .ps [16, 17], .es [18] false] (Keeps nowhere w.drew) rfl (by kernel_rfl) ?_
    refine wpS_ps rfl fun K hK => ?_
    simp only [List.map_cons, List.map_nil, Option.getD_some, List.getElem?_toArray, List.getElem?_cons_zero, List.getElem?_cons_succ]
    iterate 3 (first | (apply quietO_cons _ rfl; (intro w' _; go_simp; rfl)) | apply quietO_skip rfl)
    refine hK _ ?_
    clear hK K
    simp only [Act.put, List.setIfInBounds_toArray, List.set_cons_zero, List.set_cons_succ]
    refine wpS_fs rfl (Keeps.refl _ _) fun K hK => ?_
    simp only [List.map_cons, List.map_nil, Option.getD_some, List.getElem?_toArray, List.getElem?_cons_zero, List.getElem?_cons_succ]
    iterate 1 (first | (apply quietO_cons _ rfl; (intro w' hs; have c_0 := q0 w' hs; go_simp; rfl)) | apply quietO_skip rfl)
    refine hK _ ?_
    clear hK K
    simp only [Act.put, List.setIfInBounds_toArray, List.set_cons_zero, List.set_cons_succ]
    refine wpS_ps rfl fun K hK => ?_
    simp only [List.map_cons, List.map_nil, Option.getD_some, List.getElem?_toArray, List.getElem?_cons_zero, List.getElem?_cons_succ]
    iterate 5 (first | (apply quietO_cons _ rfl; (intro w' _; go_simp; rfl)) | apply quietO_skip rfl)
    refine hK _ ?_
    clear hK K
    simp only [Act.put, List.setIfInBounds_toArray, List.set_cons_zero, List.set_cons_succ]
    refine wpS_fs rfl (Keeps.refl _ _) fun K hK => ?_
    simp only [List.map_cons, List.map_nil, Option.getD_some, List.getElem?_toArray, List.getElem?_cons_zero, List.getElem?_cons_succ]
    iterate 1 (first | (apply quietO_cons _ rfl; (intro w' hs; have c_0 := q6 w' hs; go_simp; rfl)) | apply quietO_skip rfl)
    refine hK _ ?_
    clear hK K
    simp only [Act.put, List.setIfInBounds_toArray, List.set_cons_zero, List.set_cons_succ]
    refine wpS_ps rfl fun K hK => ?_
    simp only [List.map_cons, List.map_nil, Option.getD_some, List.getElem?_toArray, List.getElem?_cons_zero, List.getElem?_cons_succ]
    iterate 2 (first | (apply quietO_cons _ rfl; (intro w' _; go_simp; rfl)) | apply quietO_skip rfl)
    refine hK _ ?_
    clear hK K
    simp only [Act.put, List.setIfInBounds_toArray, List.set_cons_zero, List.set_cons_succ]
    clear q0 q6
    refine wpS_es rfl fun K hK => ?_
    have HK := Lib.hid hK
    clear hK
    simp only [List.map_cons, List.map_nil, Option.getD_some, List.getElem?_toArray, List.getElem?_cons_zero, List.getElem?_cons_succ]
    go_wp2_with fail
    refine HK.out _ _ (fun _ => Keeps.refl _ _) ?_
    clear HK K
    refine wpS_es rfl fun K hK => ?_
    have HK := Lib.hid hK
    clear hK
    simp only [List.map_cons, List.map_nil, Option.getD_some, List.getElem?_toArray, List.getElem?_cons_zero, List.getElem?_cons_succ]
    go_wp2_with fail
    refine (Hplc.out _ (Keeps.refl nowhere w).drew).mono ?_
    rintro e w2 ⟨rfl, hk2⟩
    have hk02 := (Keeps.refl nowhere w).drew.more hk2
    have Hk02 := Lib.hid hk02
    clear hk02
    go_wp2_with fail
    refine HK.out _ _ (fun _ => hk2) ?_
    clear HK K
    refine wpS_es rfl fun K hK => ?_
    have HK := Lib.hid hK
    clear hK
    simp only [List.map_cons, List.map_nil, Option.getD_some, List.getElem?_toArray, List.getElem?_cons_zero, List.getElem?_cons_succ]
    go_wp2_with fail
    refine (Hrd.out w2 Hk02.out).mono ?_
    rintro e w3 ⟨v3, g3, rfl, hr3, hg3, hk3⟩
    obtain ⟨A3, c3, rfl, hc3, -⟩ := id hr3
    rw [Hrl.out] at hr3 hc3
    have hr4 := hr3.take (B.size - 16) (by rw [Hrl.out]; omega)
    rw [← HL.out] at hr4
    have hcl := clB_any _ g3 G w3 hr4 (by have := HGl.out; omega)
    have hk03 := Hk02.out.more hk3
    have c33 := C3'.out w3 hk03
    have hle3 : ((B.size - 16 : Nat) : Int) ≤ (c3 : Int) := by omega
    have hle4 : B.size - 16 ≤ c3 := by omega
    have hRl := Hrl.out
    obtain ⟨z, hz'⟩ : ∃ z, z = B.size - 16 := ⟨_, rfl⟩
    rw [← hz'] at hcl hle3 hle4 e1
    rw [hRl]
    clear hRl
    have Hr3 := Lib.hid hr3
    have Hg3 := Lib.hid hg3
    have Hr4 := Lib.hid hr4
    have Hk3 := Lib.hid hk3
    have Hk03 := Lib.hid hk03
    have Hcl := Lib.hid hcl
    have Hz' := Lib.hid hz'
    have Hc3 := Lib.hid hc3
    clear hr3 hg3 hr4 hk3 hk03 hcl hz' hc3
    go_wp2_with fail
    refine HK.out _ _ (fun h => by cases h) ?_
    clear HK K
    refine wpS_ps rfl fun K hK => ?_
    simp only [List.map_cons, List.map_nil, Option.getD_some, List.getElem?_toArray, List.getElem?_cons_zero, List.getElem?_cons_succ]
    iterate 2 (first | (apply quietO_cons _ rfl; (intro w' _; go_simp; rfl)) | apply quietO_skip rfl)
    refine hK _ ?_
    clear hK K
    simp only [Act.put, List.setIfInBounds_toArray, List.set_cons_zero, List.set_cons_succ]
    refine wpS_es rfl fun K hK => ?_
    have HK := Lib.hid hK
    clear hK
    simp only [List.map_cons, List.map_nil, Option.getD_some, List.getElem?_toArray, List.getElem?_cons_zero, List.getElem?_cons_succ]
    go_wp2_with fail
    refine HK.out _ _ (fun h => by cases h) ?_
    clear HK K
    refine wpS_nil ?_
    go_wp2_with fail
    refine Hcl.out.mono ?_
    rintro e w4 ⟨v4, rfl, hrow4, hab, hk4⟩
    have hcp := clipB_any v4 G w4 hrow4
    have hk04 := Hk03.out.more hk4
    have hab0 : Above w.heap.size v4.ownBlock := fun b hb => Nat.le_trans Hk03.out.size (hab b hb)
    have Hcp := Lib.hid hcp
    have Hk4 := Lib.hid hk4
    have Hab := Lib.hid hab
    have Hk04 := Lib.hid hk04
    have Hab0 := Lib.hid hab0
    clear hcp hk4 hab hk04 hab0
    go_wp2_with fail
    refine Hcp.out.mono ?_
    rintro e w5 ⟨v5, g5, rfl, hr5, hg5, rfl⟩
    obtain ⟨A5, c5, rfl, -⟩ := id hr5
    have Hr5 := Lib.hid hr5
    have Hg5 := Lib.hid hg5
    clear hr5 hg5
    go_wp2_with fail
    go_ret2
    exact ⟨_, _, g5, rfl, Hr5.out, fun b hb => Hab0.out b (Hg5.out b hb), Hk04.out⟩
end
end Go.Proofs.YtnddaildicmneaaGreat
/-
  pages: Commit.
-/
namespace Go.Proofs.YtnddaildicmneaaGreat
open Go.Proofs Go.RowKit Go.Sort Go.Maps

def flipL (l : List Bool) (f : Nat → Bool) : List Bool := l.mapIdx fun i b => b != f i
theorem flipL_len (l : List Bool) (f : Nat → Bool) : (flipL l f).length = l.length := by simp [flipL]
theorem flipL_get (l : List Bool) (f : Nat → Bool) (i : Nat) : (flipL l f)[i]? = (l[i]?).map fun b => b != f i := by simp [flipL]
theorem flipL_none (l : List Bool) : flipL l (fun _ => false) = l := by
  refine List.ext_getElem? fun i => ?_
  rw [flipL_get]
  cases l[i]? <;> simp
theorem flipL_step {l : List Bool} {ss : List Int} {p : Nat} {b : Bool} (hp : (p : Int) ∉ ss) (hb : l[p]? = some b) :
    (flipL l fun i => decide ((i : Int) ∈ ss))[p]? = some b ∧ (flipL l fun i => decide ((i : Int) ∈ ss)).set p (!b) = flipL l fun i => decide ((i : Int) ∈ ss ++ [(p : Int)]) := by
  refine ⟨by rw [flipL_get, hb]; simp [hp], ?_⟩
  have hpl : p < l.length := (List.getElem?_eq_some_iff.1 hb).1
  refine List.ext_getElem? fun i => ?_
  rw [flipL_get]
  by_cases e : p = i
  · subst e
    rw [List.getElem?_set_self (by rw [flipL_len]; exact hpl), hb]
    simp
  · rw [List.getElem?_set_ne e, flipL_get]
    cases l[i]? with
    | none => rfl
    | some x =>
      have e2 : ¬ (i : Int) = (p : Int) := by omega
      simp [e2]
def nextL (B : BookV) : List Bool := flipL B.second fun i => decide (i ∈ B.changed.map (·.1))
theorem nextL_len (B : BookV) : (nextL B).length = B.second.length := flipL_len _ _
/-- what Commit lays -/
def commitR (B : BookV) (D : DiskV) : Int × DiskV := D.layV (wsOf B (nextL B) (ksOf B.changed) (lookL B.changed)) (hdOf B)
def commitB (B : BookV) (D : DiskV) : BookV := if (commitR B D).1 = 0 then { B with gen := B.gen + 1, second := nextL B, changed := [] } else B
/-- a book and its disk behind a method -/
structure BDGo (X : Nat → Prop) (w : World) (s d : Nat) (F M : Nat → Prop) (w' : World) (B : BookV) (D : DiskV) (F' M' : Nat → Prop) : Prop where
  dk : DK X w' d F' D
  bp : BP X w' s d M' B
  kp : Keeps (fun k => F k ∨ M k) w w'
  gf : ∀ k, F' k → F k ∨ w.heap.size ≤ k
  gm : ∀ k, M' k → M k ∨ w.heap.size ≤ k
  ap : ∀ k, M' k → ¬ F' k
section
variable {X : Nat → Prop} {w w' W0 wr : World} {s d c cm : Nat} {sv : Value} {ce pe : List EntV} {B : BookV} {S M F : Nat → Prop} {D : DiskV}
theorem setBo {w : World} {b n cap : Nat} {L : List Bool} (h : recBo.Row w (.slice (some ⟨b, 0, none⟩) n cap) L) (hn : n = L.length) {i : Nat} {u : Bool} (hi : L[i]? = some u) (x : Bool) :
    w.cell? ⟨b, i, none⟩ = some (.bool u) ∧ w.frozen? ⟨b, i, none⟩ = false ∧ recBo.Row (w.setCell ⟨b, i, none⟩ (.bool x)) (.slice (some ⟨b, 0, none⟩) n cap) (L.set i x) ∧ Keeps (only b) w (w.setCell ⟨b, i, none⟩ (.bool x)) := by
  subst hn
  have hil : i < L.length := (List.getElem?_eq_some_iff.1 hi).1
  obtain ⟨h1, h2, h3⟩ := h.store hil x
  obtain ⟨h4, h5⟩ := h1 0 (by decide)
  have ew : w.setCells b (i * recBo.n) (recBo.cs x) = w.setCell ⟨b, i, none⟩ (.bool x) := by show w.setCell ⟨b, i * 1, none⟩ _ = _; rw [Nat.mul_one]
  rw [ew] at h2 h3
  rw [Nat.add_zero, show i * recBo.n = i from Nat.mul_one i] at h4 h5
  have hat := h.at_ hi 0 (by decide)
  rw [show i * recBo.n = i from Nat.mul_one i, Nat.add_zero] at hat
  refine ⟨by simpa [recBo] using hat, h5, h2, h3⟩
theorem keysI_nat {c : Nat} (hm : KMap keyI w c (entI ce)) {D0 : DataW Value} {ss : List Int} (hK : KeysK keyI D0 ss) (hh : ∀ x, keyI.ok x → (Maps.has D0 (keyI.lit x) = true ↔ x ∈ (entI ce).map (·.1))) (p : Nat) : ((p : Int) ∈ ss) ↔ p ∈ (ce.map fun x => (x.1, x.2.2)).map (·.1) := by
  have hp := (hK.perm hm.ok hm.nd hh)
  rw [hp.mem_iff]
  simp only [entI, List.map_map, List.mem_map, Function.comp_apply]
  constructor
  · rintro ⟨x, hx, e⟩; exact ⟨x, hx, Int.ofNat_inj.1 e⟩
  · rintro ⟨x, hx, e⟩; exact ⟨x, hx, Int.ofNat_inj.2 e⟩
set_option maxRecDepth 20000 in
set_option maxHeartbeats 8000000 in
theorem bcommit_any (hk : DK X w d F D) (h : BP X w s d M B) (ap : ∀ k, M k → ¬ F k) (ok : BOk B) (hg : B.gen + 1 < 18446744073709551616) (lok : LOk D 8000) (ho : D.off = false) (hz : D.size = B.size) (hs : B.second.length = B.pages) (hp1 : 1 ≤ B.pages) (hp : ∀ x ∈ B.changed, x.1 < B.pages) (hcl : B.changed.length ≤ 1024) :
    Calls Tryz.prog 12 #[bp s] w fun e w' => e = .returned (.int .i64 (commitR B D).1) ∧ ∃ F' M', BDGo X w s d F M w' (commitB B D) (commitR B D).2 F' M' := by
  have hoff := dk_off hk
  rw [ho] at hoff
  have hBP := h
  obtain ⟨c, sv, ce, hM, h, hXo⟩ := h
  have hch := h.ch
  have c0 := h.cell 0
  have c6 := h.cell 6
  simp at c0 c6
  obtain ⟨N, hN⟩ : ∃ N, N = B.pages := ⟨_, rfl⟩
  have hsr := h.sec.rd
  obtain ⟨sA, sc, hsv, -⟩ := h.sec.form
  subst hsv
  have hcl6 := clBo_any _ _ B.second w hsr (by have := ok.p1; omega)
  obtain ⟨R, hR⟩ : ∃ R, R = commitR B D := ⟨_, rfl⟩
  obtain ⟨CB, hCB⟩ : ∃ CB, CB = commitB B D := ⟨_, rfl⟩
  rw [← hR, ← hCB]
  obtain ⟨r1, hr1⟩ : ∃ r1, r1 = R.1 := ⟨_, rfl⟩
  rw [← hr1]
  unfold bp
  unfold dp at c0 hoff
  rw [hs, ← hN] at hcl6 c6
  clear hsr
  have H := Lib.hid h
  have Hoff := Lib.hid hoff
  have Hcl6 := Lib.hid hcl6
  have HM := Lib.hid hM
  have HN := Lib.hid hN
  have Hch := Lib.hid hch
  have Hk := Lib.hid hk
  have HR := Lib.hid hR
  have HCB := Lib.hid hCB
  have HBP := Lib.hid hBP
  have Hr1 := Lib.hid hr1
  have HXo := Lib.hid hXo
  clear h hoff hcl6 hM hN hch hk hR hCB hBP hr1 hXo
  go_enter Tryz.func12, Tryz.ntmps12
  go_wp2_with fail
  refine Hoff.out.mono ?_
  rintro e w' ⟨rfl, rfl⟩
  go_wp2_with fail
  refine Hcl6.out.mono ?_
  rintro e w1 ⟨nv, rfl, hnx, hab, hk1⟩
  have h1 := H.out.same hk1
  obtain ⟨D0, hown, hsz, hhas⟩ := h1.map.has
  have c7 := h1.cell 7
  simp at c7
  have hnl : B.second.length = N := by rw [HN.out]; exact hs
  obtain ⟨q, nc, rfl⟩ : ∃ q nc, nv = .slice (some ⟨q, 0, none⟩) N nc := by
    rcases hnx.blk with ⟨rfl, e⟩ | ⟨q, nc, rst, rfl, -⟩
    · rw [e] at hnl
      have := HN.out
      simp at hnl
      omega
    · exact ⟨q, nc, by rw [hnl]⟩
  have hqw : w.heap.size ≤ q := hab q rfl
  rw [← flipL_none B.second] at hnx
  have Hnx := Lib.hid hnx
  have Hab := Lib.hid hab
  have Hk1 := Lib.hid hk1
  have H1 := Lib.hid h1
  have Hown := Lib.hid hown
  have Hsz := Lib.hid hsz
  have Hhas := Lib.hid hhas
  have Hnl := Lib.hid hnl
  have Hqw := Lib.hid hqw
  clear hnx hab hk1 h1 hown hsz hhas hnl hqw
  go_wp2_with (first
    | (at_range; refine wpList_range_own _ rfl _ 61 rfl 3 33 keyI.keyed Tryz.underlying61 rdAny c (entI ce).length D0 rfl Hown.out ?_; intro w2 hrg0 hg0 hs0)
    | go_in)
  go_frame
  go_loopw [4] (fun _ wr => ∃ (left : Lit → Bool) (cnt : Nat) (ss : List Int), wr.ranges Tryz.prog 3 rdAny c w1.heap.size (entI ce).length D0 left cnt ∧ CollK keyI D0 left ss ∧ recBo.Row wr (.slice (some ⟨q, 0, none⟩) N nc) (flipL B.second fun i => decide ((i : Int) ∈ ss)) ∧ Keeps nowhere w wr) (fun _ wr => wr.rangeLeft c w1.heap.size)
  case atStart =>
    have hk2 : Keeps nowhere w1 w2 := (Keeps.refl nowhere w1).grown hg0 (fun k e _ => by cases e)
    exact ⟨_, _, [], hrg0, CollK.start keyI D0, by simpa using Hnx.out.same hk2, Hk1.out.more hk2⟩
  case round =>
    obtain ⟨left, cnt, ss, hrg, hC, hrow, hkr⟩ := hrel
    go_wp2_with (first
      | (at_next; refine wpList_next_ranges _ rfl _ rfl 3 keyI.keyed rdAny (fun x : Int => Value.int .i64 x) id (fun key kl hk => by obtain ⟨x, hx, _⟩ := keyI.inv _ _ hk; exact ⟨x, hx⟩) (fun v _ _ => ⟨v, rfl⟩) c w1.heap.size _ _ _ _ rfl hrg ?_ ?_)
      | go_in)
    · intro hc0 hl0
      have hKK := hC.keys hl0
      have hnx : (flipL B.second fun i => decide ((i : Int) ∈ ss)) = nextL B := by
        unfold nextL
        congr 1
        funext i
        rw [Bool.eq_iff_iff, decide_eq_true_iff, decide_eq_true_iff, Hch.out]
        exact keysI_nat H1.out.map hKK Hhas.out i
      rw [hnx] at hrow
      have hb := H.out.same hkr
      have c7 := hb.cell 7
      simp at c7
      have hchO : chOf ce = B.changed := Hch.out.symm
      have hlay := blay_any (some ⟨q, 0, none⟩) N nc (nextL B) (Hk.out.same hkr) (HBP.out.same hkr) ap ok hg lok hz hrow (by rw [nextL_len]; exact Hnl.out.symm) HN.out hb.map (ap c (by rw [HM.out]; exact .inr rfl)) hb.vals (fun x hx => hp (x.1, x.2.2) (by rw [Hch.out]; exact List.mem_map.2 ⟨x, hx, rfl⟩)) (by rw [Hch.out] at hcl; simpa using hcl) (fun k e hxk => by
        have e2 : q = k := by simpa [Value.ownBlock] using e
        have := HXo.out.2 k hxk
        have := Hqw.out
        omega)
      rw [hchO] at hlay
      change Calls Tryz.prog _ _ wr (LayPost X wr s d F M B (nextL B) (commitR B D)) at hlay
      rw [← HR.out] at hlay
      unfold bp at hlay
      have hlt := (Hk.out.same hkr).lt
      clear hb hnx hrow hC hrg hKK hc0 hl0 c0 c6 hchO hp
      have Hlay := Lib.hid hlay
      have Hkr := Lib.hid hkr
      have Hlt := Lib.hid hlt
      clear hlay hkr hlt
      go_wp2_with fail
      refine Hlay.out.mono ?_
      rintro e w4 ⟨rfl, F4, hdk4, hbp4, hkp4, hgf4, hap4⟩
      have hkp := (Hkr.out.mono (T := fun k => F k ∨ M k) (fun _ _ h => h.elim)).trans hkp4 (fun _ _ e => e)
      have hgf : ∀ k, F4 k → F k ∨ w.heap.size ≤ k := fun k e => (hgf4 k e).imp id (fun e => Nat.le_trans Hkr.out.size e)
      have hr1 := Hr1.out
      rw [← hr1]
      by_cases h0 : R.1 = 0
      · rw [if_pos h0] at hbp4
        obtain rfl : r1 = 0 := hr1.trans h0
        have hab := babort_any hbp4
        unfold bp at hab
        have hCE : CB = { B with gen := B.gen + 1, second := nextL B, changed := [] } := by
          rw [HCB.out]
          unfold commitB
          rw [← HR.out, if_pos h0]
        clear h0 hr1
        have Hab := Lib.hid hab
        have Hdk4 := Lib.hid hdk4
        have Hbp4 := Lib.hid hbp4
        have Hkp := Lib.hid hkp
        have Hkp4 := Lib.hid hkp4
        have Hgf := Lib.hid hgf
        have Hap4 := Lib.hid hap4
        have HCE := Lib.hid hCE
        have Hgf4 := Lib.hid hgf4
        clear hab hdk4 hbp4 hkp hkp4 hgf hap4 hCE hgf4
        go_wp2_with fail
        refine Hab.out.mono ?_
        rintro e w5 ⟨rfl, M5, hb5, hk5, hg5⟩
        have hnr := Hbp4.out.notRaw
        have hdk5 := Hdk4.out.keepAll hk5 (fun k hf hm => Hap4.out k hm hf) hnr
        have Hb5 := Lib.hid hb5
        have Hk5 := Lib.hid hk5
        have Hg5 := Lib.hid hg5
        have Hdk5 := Lib.hid hdk5
        clear hb5 hk5 hg5 hdk5
        go_wp2_with fail
        go_ret
        refine ⟨rfl, F4, M5, Hdk5.out, by rw [HCE.out]; exact Hb5.out, Hkp.out.trans Hk5.out (fun _ _ e => .inr e), Hgf.out, fun k e => (Hg5.out k e).imp id (fun e => Nat.le_trans Hkp.out.size e), fun k e hf => ?_⟩
        rcases Hg5.out k e with e | e
        · exact Hap4.out k e hf
        · exact absurd (Hdk4.out.lt k hf) (by omega)
      · rw [if_neg h0] at hbp4
        have hr0 : ¬ r1 = 0 := fun e => h0 (hr1.symm.trans e)
        have hr0' : (r1 != 0) = true := by simpa using hr0
        have hCE : CB = B := by
          rw [HCB.out]
          unfold commitB
          rw [← HR.out, if_neg h0]
        clear h0 hr1
        have Hdk4 := Lib.hid hdk4
        have Hbp4 := Lib.hid hbp4
        have Hkp := Lib.hid hkp
        have Hkp4 := Lib.hid hkp4
        have Hgf := Lib.hid hgf
        have Hap4 := Lib.hid hap4
        have HCE := Lib.hid hCE
        have Hgf4 := Lib.hid hgf4
        clear hdk4 hbp4 hkp hkp4 hgf hap4 hCE hgf4
        go_wp2_with fail
        go_ret
        exact ⟨rfl, F4, M, Hdk4.out, by rw [HCE.out]; exact Hbp4.out, Hkp.out, Hgf.out, fun k e => .inl e, Hap4.out⟩
    · intro xi v kl yd yp w3 cnt' hkey hlk hv hat hrg2 hlt hg3 hs3 hen
      obtain ⟨x', ex, hok⟩ := keyI.inv _ _ hkey
      obtain rfl : xi = x' := keyI.inj xi x' ex
      have e0 : keyI.lit xi = kl := Option.some.inj ((keyI.litOf hok).symm.trans hkey)
      subst e0
      have hin := (Hhas.out xi hok).1 (has_true_of_atKey hat)
      obtain ⟨p, hpc, rfl⟩ : ∃ p : Nat, p ∈ B.changed.map (·.1) ∧ xi = (p : Int) := by
        obtain ⟨z, hz, e⟩ := List.mem_map.1 hin
        obtain ⟨u, hu, rfl⟩ := List.mem_map.1 hz
        exact ⟨u.1, by rw [Hch.out]; exact List.mem_map.2 ⟨(u.1, u.2.2), List.mem_map.2 ⟨u, hu, rfl⟩, rfl⟩, e.symm⟩
      have hpN : p < N := by
        obtain ⟨x, hx, e⟩ := List.mem_map.1 hpc
        rw [HN.out, ← e]; exact hp x hx
      have hnot : (p : Int) ∉ ss := fun hm => by
        have := (hC.2.2 (p : Int) hok).1 hm
        rw [hlk] at this
        exact absurd this.2 (by decide)
      obtain ⟨b0, hb0⟩ : ∃ b, B.second[p]? = some b := ⟨_, List.getElem?_eq_getElem (by rw [Hnl.out]; exact hpN)⟩
      obtain ⟨g1, g2⟩ := flipL_step hnot hb0
      have hC2 := hC.step hok hlk hat
      have hk3 : Keeps nowhere w w3 := hkr.grown hg3 (fun k e hlt => by injection e with e; have := Hk1.out.size; omega)
      have hrow3 := hrow.keep (S := fun k => k = w1.heap.size) ((Keeps.refl _ wr).grown hg3 (fun k e _ => by injection e with e; exact e.symm)) (fun b e e2 => by
        have e3 : q = b := by simpa [Value.ownBlock] using e
        have := (Hnx.out.lt q rfl)
        omega)
      obtain ⟨f1, f2, f3, f4⟩ := setBo hrow3 (by rw [flipL_len]; exact Hnl.out.symm) g1 (!b0)
      rw [g2] at f3
      obtain ⟨w4, hw4⟩ : ∃ w4, w4 = w3.setCell ⟨q, p, none⟩ (.bool (!b0)) := ⟨_, rfl⟩
      have hk4 : Keeps nowhere w w4 := by rw [hw4]; exact hk3.setCell (p := ⟨q, p, none⟩) (fun e => absurd e (by have := Hqw.out; simp; omega)) _
      have hrg4 := hrg2.of_walks (KeepsWalks.setCell w3 ⟨q, p, none⟩ (.bool (!b0)))
      rw [← hw4] at f3 f4 hrg4
      have hpNI : (p : Int) < (N : Int) := by omega
      have hp0 : (0 : Int) ≤ (p : Int) := by omega
      have hle := hrg.left_eq
      have hle4 := hrg4.left_eq
      clear hC hin hkr hrow hk3 hrow3 g1 g2 hb0 hnot hrg hrg2 hg3 hs3 hat hlk hkey hok ex hpc f4 hpN
      have HC2 := Lib.hid hC2
      have Hk4 := Lib.hid hk4
      have F3 := Lib.hid f3
      have Hrg4 := Lib.hid hrg4
      have Hle := Lib.hid hle
      have Hle4 := Lib.hid hle4
      have Hw4 := Lib.hid hw4
      have Hlt := Lib.hid hlt
      clear hC2 hk4 f3 hrg4 hle hle4 hw4 hlt
      go_wp2_with fail
      rw [← Hw4.out]
      exact ⟨⟨_, _, _, Hrg4.out, HC2.out, F3.out, Hk4.out⟩, by rw [Hle.out, Hle4.out]; exact Hlt.out⟩
end
end Go.Proofs.YtnddaildicmneaaGreat
/-
  Rows of one-cell records: make.
-/
namespace Go.Proofs.YtnddaildicmneaaGreat
open Go.RowKit

section
variable {P : Program} {ops : Array Oper} {rest : List Oper} {o : Oper} {a : Act} {Q : Exit → Act → World → Prop}
theorem RecT.made_one {α : Type} (R : RecT α) (x : α) (z : Value) (hz : R.cs x = [z]) (n : Nat) : (madeCells #[z] (n * 1)).toList = R.cells (List.replicate n x) := by
  rw [Nat.mul_one]
  apply List.ext_getElem?
  intro j
  have e : R.cells (List.replicate n x) = List.replicate n z := by
    unfold RecT.cells
    rw [List.flatMap_replicate, hz]
    simp
  rw [e]
  by_cases hj : j < n
  · simp [madeCells, hj, Nat.mod_one]
  · rw [List.getElem?_eq_none (by simp [madeCells]; omega), List.getElem?_eq_none (by simp; omega)]
/-- make of a row of records of one cell -/
theorem RecT.wpList_make_one {α : Type} (R : RecT α) (x : α) (z : Value) (hx : R.cs x = [z]) (hzc : z.cells = #[z]) {ts : TypeId} (ht : P.underlying ts = some (.slice R.t)) {by_ : Nat} (hinfo : (P.info? R.t).map (fun i => (i.zero, i.size, i.bytes)) = some (some z, 1, by_)) (hby : by_ ≤ 100)
    (w : World) (hgd : o.guard = none) (l c : Operand) (hop : o.op = Op.makeSlice ts l c) (n : Nat) (L : Int) (hl : a.eval l = .int .i64 L) (hc : a.eval c = .int .i64 L) (hL : L = (n : Int)) (hn : n ≤ 1000000000)
    (hK : ∀ w', R.Row w' (.slice (some ⟨w.heap.size, 0, none⟩) n n) (List.replicate n x) → Keeps nowhere w w' → wpList P ops Q rest (a.put o.dst (.slice (some ⟨w.heap.size, 0, none⟩) n n)) w') : wpList P ops Q (o :: rest) a w := by
  obtain ⟨i0, hi, hz0, hz1, hz2⟩ := info_parts hinfo
  have h1n : R.n = 1 := by rw [← R.len x, hx]; rfl
  refine wpList_make_full _ hgd l c ts hop 0 R.t i0 z 1 ht hi hz0 hz1 .i64 .i64 L L n hl hc hL hL (by rw [hz2]; have : by_ * n ≤ 100 * 1000000000 := Nat.mul_le_mul hby hn; omega) (by unfold maxLen; omega) (Nat.zero_le _) fun w' h1 h2 => hK w' ?_ ((Keeps.refl _ w).grown h2 (fun _ h => by cases h))
  unfold RecT.Row
  rw [hzc, R.made_one x z hx] at h1
  rw [h1n, show (List.replicate n x).length = n by simp]
  exact h1
end
end Go.Proofs.YtnddaildicmneaaGreat
/-
  pages: Format.
-/
namespace Go.Proofs.YtnddaildicmneaaGreat
open Go.Proofs Go.RowKit Go.Sort Go.Maps

theorem write_unarmed {D : DiskV} {x : Nat × List UInt8} (ho : D.off = false) (ha : D.armed = false) (hx : x.1 < D.kept.length) (hl : x.2.length = D.size) : D.write (x.1 : Int) x.2 = (0, D.wrote x.1 x.2) := by
  unfold DiskV.write
  rw [if_neg (by simp [ho]), if_pos ⟨by omega, by omega, hl⟩, if_neg (by simp [ha]), Int.toNat_natCast]
theorem writes_unarmed {ws : List (Nat × List UInt8)} : ∀ {D : DiskV}, D.off = false → D.armed = false → (∀ x ∈ ws, x.1 < D.kept.length ∧ x.2.length = D.size) → (D.writesL ws).1 = 0 := by
  induction ws with
  | nil => intro D _ _ _; rfl
  | cons x r ih =>
    intro D ho ha hr
    obtain ⟨h1, h2⟩ := hr x (by simp)
    have e := write_unarmed ho ha h1 h2
    rw [writesL_cons0 (by rw [e]), e]
    exact ih (D := D.wrote x.1 x.2) ho ha (fun y hy => hr y (by simp [hy]))
theorem lay_unarmed {D : DiskV} {ws : List (Nat × List UInt8)} {hd : Nat × List UInt8} (ho : D.off = false) (ha : D.armed = false) (hp : D.pend = []) (hr : ∀ x ∈ ws, x.1 < D.kept.length ∧ x.2.length = D.size) (hh : hd.1 < D.kept.length) (hl : hd.2.length = D.size) : (D.layV ws hd).1 = 0 := by
  have hw : Works D := ⟨ho, fun e => by rw [ha] at e; cases e⟩
  have h0 := writes_unarmed ho ha hr
  unfold DiskV.layV
  rw [if_pos h0]
  rcases writes_end hw hr with ⟨-, q⟩ | ⟨e, -⟩
  · have es : ((D.writesL ws).2).syncs = (0, (D.writesL ws).2.sync) := by unfold DiskV.syncs; rw [if_neg (by simp [q.w.off])]
    rw [es, if_pos rfl]
    have e1 := write_unarmed (D := (D.writesL ws).2.sync) (x := hd) q.w.off (q.armed.trans ha) (by show hd.1 < (settleN _ _ _ _).length; rw [settleN_len, q.kept]; exact hh) (by rw [hl]; exact q.size.symm)
    rw [e1, if_pos rfl]
    unfold DiskV.syncs
    rw [if_neg]
    show ¬ (D.writesL ws).2.off = true
    simp [q.w.off]
  · omega
def allE (p : Nat) : List EntV := (List.range p).map fun i => (i, .slice none 0 0, [])
theorem allE_put (i : Nat) : putA (entI (allE i)) (i : Int) (.slice none 0 0) = entI (allE (i + 1)) := by
  rw [putA_new]
  · simp [allE, entI, List.range_succ]
  · intro x hx e
    obtain ⟨y, hy, rfl⟩ := List.mem_map.1 hx
    obtain ⟨j, hj, rfl⟩ := List.mem_map.1 hy
    have := List.mem_range.1 hj
    simp only at e
    omega
theorem fitsI_iff (n p : Int) : fitsI n p = true ↔ 1 ≤ p ∧ p ≤ 1024 ∧ 3 * p + 16 ≤ n := by
  unfold fitsI
  rw [decide_eq_true_iff]
  constructor
  · rintro ⟨h1, h2, h3, h4⟩
    exact ⟨h1, h2, by omega⟩
  · rintro ⟨h1, h2, h3⟩
    exact ⟨h1, h2, by omega, by omega⟩
/-- what Format lays -/
def fmtB (a n z p : Nat) : BookV := ⟨a, n, z, 0, p, List.replicate p false, []⟩
def fmtR (D : DiskV) (a n p : Nat) : Int × DiskV := D.layV (wsOf (fmtB a n D.size p) (List.replicate p false) (ksOf (chOf (allE p))) (lookL (chOf (allE p)))) (hdOf (fmtB a n D.size p))
section
variable {X : Nat → Prop} {w w' W0 wr : World} {s d c cm : Nat} {sv : Value} {ce pe : List EntV} {B : BookV} {S M F : Nat → Prop} {D : DiskV}
theorem BP.setPages (h : BP X w s d M B) (p : Nat) : (∃ u, w.cell? ⟨s, 5, none⟩ = some u) ∧ w.frozen? ⟨s, 5, none⟩ = false ∧ BP X (w.setCell ⟨s, 5, none⟩ (.int .i64 p)) s d M { B with pages := p } ∧ Keeps M w (w.setCell ⟨s, 5, none⟩ (.int .i64 p)) := by
  obtain ⟨c, sv, ce, rfl, h, hXo⟩ := h
  have hks : Keeps (only s) w (w.setCell ⟨s, 5, none⟩ (.int .i64 p)) := (Keeps.refl (only s) w).setCell (p := ⟨s, 5, none⟩) (fun _ => rfl) _
  have hnr : ∀ k, only s k → NotRaw w k := fun k e => by have e2 : k = s := e; rw [e2]; exact h.notRaw s (.inl rfl)
  have hb := h.box.set_ 5 (.int .i64 p)
  refine ⟨⟨_, by simpa using h.cell 5⟩, h.box.frozen 5, ⟨c, sv, ce, rfl, ⟨by simpa using hb, h.sec.keep hks (fun b e hs => row_raw h.sec (.inr rfl) (hnr b hs) e), h.map.keep hks (fun e => h.ne (show c = s from e).symm), fun x hx => (h.vals x hx).keep hks (fun b e hs => row_raw (h.vals x hx) (.inl rfl) (hnr b hs) e), h.ch⟩, hXo.keep hks.size⟩, hks.mono fun _ _ e => .inl e⟩
theorem BP.setSecond (h : BP X w s d M B) {nv : Value} {L : List Bool} (hr : recBo.Row w nv L) (hnX : ∀ k, nv.ownBlock = some k → ¬ X k) : (∃ A n c, w.cell? ⟨s, 6, none⟩ = some (.slice A n c)) ∧ w.frozen? ⟨s, 6, none⟩ = false ∧ BP X (w.setCell ⟨s, 6, none⟩ nv) s d M { B with second := L } ∧ Keeps M w (w.setCell ⟨s, 6, none⟩ nv) := by
  obtain ⟨c, sv, ce, rfl, h, hXo⟩ := h
  have hks : Keeps (only s) w (w.setCell ⟨s, 6, none⟩ nv) := (Keeps.refl (only s) w).setCell (p := ⟨s, 6, none⟩) (fun _ => rfl) _
  have hnr : ∀ k, only s k → NotRaw w k := fun k e => by have e2 : k = s := e; rw [e2]; exact h.notRaw s (.inl rfl)
  have hb := h.box.set_ 6 nv
  obtain ⟨A, cp, hsv, -⟩ := h.sec.form
  refine ⟨⟨A, _, cp, by rw [← hsv]; simpa using h.cell 6⟩, h.box.frozen 6, ⟨c, nv, ce, rfl, ⟨by simpa using hb, hr.keep hks (fun b e hs => row_raw hr (.inr rfl) (hnr b hs) e), h.map.keep hks (fun e => h.ne (show c = s from e).symm), fun x hx => (h.vals x hx).keep hks (fun b e hs => row_raw (h.vals x hx) (.inl rfl) (hnr b hs) e), h.ch⟩, hnX, fun k hk => Nat.lt_of_lt_of_le (hXo.2 k hk) hks.size⟩, hks.mono fun _ _ e => .inl e⟩
set_option maxRecDepth 20000 in
set_option maxHeartbeats 8000000 in
theorem bformat_ok (a n p : Nat) (hk : DK X w d F D) (lok : LOk D 8000) (hz1 : 64 ≤ D.size) (ho : D.off = false) (hon : a + n ≤ D.kept.length) (hf : fitsN n p) (hN : (newestV (onB a n D.size) D).1 = onB a n D.size) (hr0 : (fmtR D a n p).1 = 0) :
    Calls Tryz.prog 7 #[dp d, .int .i64 a, .int .i64 n, .int .i64 p] w fun e w' => ∃ s F' M', e = .returned (.tuple #[bp s, .int .i64 0]) ∧ BDGo X w s d F nowhere w' ⟨a, n, D.size, 1, p, List.replicate p false, []⟩ (fmtR D a n p).2 F' M' := by
  obtain ⟨f1, f2, f3⟩ := hf
  have dok := lok.ok
  have hK := dok.kept
  have hft := fits_any (n : Int) (p : Int) w (by omega)
  rw [(fitsI_iff (n : Int) (p : Int)).2 ⟨by omega, by omega, by omega⟩] at hft
  have hon1 := bon_any (a : Int) (n : Int) hk hK (by omega)
  have hoe : onE D.kept.length D.off (a : Int) (n : Int) = 0 := by
    unfold onE
    rw [if_pos ⟨by omega, by omega, by omega, by omega⟩, ho]; rfl
  have okB : BOk (onB a n D.size) := ⟨hz1, dok.size, by show a + n ≤ _; omega, by show 0 ≤ _; omega, by show 0 < _; omega⟩
  unfold dp at *
  obtain ⟨R, hR⟩ : ∃ R, R = fmtR D a n p := ⟨_, rfl⟩
  rw [← hR] at hr0 ⊢
  unfold OnP at hon1
  rw [hoe] at hon1
  have Hk := Lib.hid hk
  have Hft := Lib.hid hft
  have Hon1 := Lib.hid hon1
  have HR := Lib.hid hR
  have HN := Lib.hid hN
  clear hk hft hon1 hR hN
  go_enter Tryz.func7, Tryz.ntmps7
  go_wp2_with fail
  refine Hft.out.mono ?_
  rintro e w' ⟨rfl, rfl⟩
  go_wp2_with fail
  refine Hon1.out.mono ?_
  rintro e w1 ⟨hk1, ⟨h0, -⟩ | ⟨-, s, c, rfl, hat, hMl⟩⟩
  · exact absurd rfl h0
  rw [Int.toNat_natCast, Int.toNat_natCast] at hat
  obtain ⟨M, hM⟩ : ∃ M, M = MS s c := ⟨_, rfl⟩
  have hbp : BP X w1 s d M (onB a n D.size) := ⟨c, _, _, hM, hat, (fun k e => by cases e), (Hk.out.same hk1).xlt⟩
  rw [← hM] at hMl
  clear hat hM
  have ap : ∀ k, M k → ¬ F k := fun k hm hf => by have := Hk.out.lt k hf; have := hMl k hm; omega
  have hnw := bnewest_any (Hk.out.same hk1) hbp ap okB dok ho (by show a + min 2 n ≤ _; omega) rfl
  unfold bp at hnw ⊢
  rw [HN.out] at hnw
  have Hbp := Lib.hid hbp
  have Hk1 := Lib.hid hk1
  have HMl := Lib.hid hMl
  have Hnw := Lib.hid hnw
  clear hbp hk1 hMl hnw
  go_wp2_with fail
  refine Hnw.out.mono ?_
  rintro e w2 ⟨rfl, hdk2, hbp2, hkM2⟩
  obtain ⟨⟨u5, c5⟩, f5, hbp3, hk3⟩ := hbp2.setPages p
  have hdk3 := hdk2.keepAll hk3 (fun k hf hm => ap k hm hf) hbp2.notRaw
  have hk03 : Keeps nowhere w (w2.setCell ⟨s, 5, none⟩ (.int .i64 p)) := (Hk1.out.trans hkM2 (fun k hl hm => by have := HMl.out k hm; omega)).trans hk3 (fun k hl hm => by have := HMl.out k hm; omega)
  obtain ⟨w3, hw3⟩ : ∃ w3, w3 = w2.setCell ⟨s, 5, none⟩ (.int .i64 p) := ⟨_, rfl⟩
  rw [← hw3] at hbp3 hk3 hdk3 hk03
  have Hdk2 := Lib.hid hdk2
  have Hbp2 := Lib.hid hbp2
  have HkM2 := Lib.hid hkM2
  have Hbp3 := Lib.hid hbp3
  have Hk3 := Lib.hid hk3
  have Hdk3 := Lib.hid hdk3
  have Hk03 := Lib.hid hk03
  have Hw3 := Lib.hid hw3
  clear hdk2 hbp2 hkM2 hbp3 hk3 hdk3 hk03 hw3
  go_wp2_with (at_make; refine recBo.wpList_make_one false (.bool false) rfl rfl Tryz.underlying34 infoBo (by omega) _ rfl _ _ rfl p (p : Int) rfl rfl rfl (by omega) ?_)
  intro w4 hx4 hk4
  rw [← Hw3.out] at hk4
  obtain ⟨q, hq⟩ : ∃ q, q = w2.heap.size := ⟨_, rfl⟩
  rw [← hq] at hx4
  simp only [← hq]
  have hbp4 := Hbp3.out.same hk4
  have hdk4 := Hdk3.out.same hk4
  obtain ⟨⟨A6, n6, e6, c6⟩, f6, hbp5, hk5⟩ := hbp4.setSecond hx4 (fun k e hxk => by
    have e2 : q = k := by simpa [Value.ownBlock] using e
    have := Hk.out.xlt k hxk
    have := Hk03.out.size
    have : w3.heap.size = q := by rw [hq, Hw3.out]; simp
    omega)
  have hdk5 := hdk4.keepAll hk5 (fun k hf hm => ap k hm hf) hbp4.notRaw
  have hk05 := (Hk03.out.more hk4).trans hk5 (fun k hl hm => by have := HMl.out k hm; omega)
  obtain ⟨w5, hw5⟩ : ∃ w5, w5 = w4.setCell ⟨s, 6, none⟩ (.slice (some ⟨q, 0, none⟩) p p) := ⟨_, rfl⟩
  rw [← hw5] at hbp5 hk5 hdk5 hk05
  have hmm := @run_makeMap Tryz.prog
  obtain ⟨cm, hcm⟩ : ∃ cm, cm = w5.heap.size := ⟨_, rfl⟩
  have hnm := KMap.new keyI w5
  have hka : Keeps nowhere w5 (w5.alloc (.map #[] 0)) := (Keeps.refl nowhere w5).alloc _
  obtain ⟨w6, hw6⟩ : ∃ w6, w6 = w5.alloc (.map #[] 0) := ⟨_, rfl⟩
  rw [← hw6] at hnm hka
  rw [← hcm] at hnm
  have hdk6 := hdk5.same hka
  have hbp6 := hbp5.same hka
  have hk06 := hk05.more hka
  have hc0 : w.heap.size ≤ cm := by rw [hcm]; exact hk05.size
  have hsz4 : w4.heap.size = cm := by rw [hcm, hw5]; simp
  clear hx4 hbp4 hdk4
  have Hk4 := Lib.hid hk4
  have Hk5 := Lib.hid hk5
  have Hdk5 := Lib.hid hdk5
  have Hbp5 := Lib.hid hbp5
  have Hk05 := Lib.hid hk05
  have Hnm := Lib.hid hnm
  have Hka := Lib.hid hka
  have Hdk6 := Lib.hid hdk6
  have Hbp6 := Lib.hid hbp6
  have Hk06 := Lib.hid hk06
  have Hc0 := Lib.hid hc0
  have Hw5 := Lib.hid hw5
  have Hw6 := Lib.hid hw6
  have Hcm := Lib.hid hcm
  have Hq := Lib.hid hq
  have Hsz4 := Lib.hid hsz4
  clear hk4 hk5 hdk5 hbp5 hk05 hnm hka hdk6 hbp6 hk06 hc0 hw5 hw6 hcm hq hsz4
  go_upto_region 11 with fail
  rw [← Hw5.out]
  simp only [Hsz4.out]
  rw [← Hw6.out]
  clear c5 c6 f5 f6
  go_loopw [43] (fun iv wr => ∃ i : Nat, iv = .int .i64 i ∧ i ≤ p ∧ KMap keyI wr cm (entI (allE i)) ∧ Keeps (only cm) w6 wr) (fun iv _ => p - (intOf iv).toNat)
  case atStart => exact ⟨0, rfl, Nat.zero_le _, Hnm.out, Keeps.refl _ _⟩
  case round =>
    obtain ⟨i, rfl, hi, hm, hkr⟩ := hrel
    by_cases hlt : i < p
    · have hltI : (i : Int) < p := by omega
      have hi1 : IntKind.i64.wrap ((i : Int) + 1) = i + 1 := IntWalk.i64_in _ (by omega)
      obtain ⟨w7, hput, hm7, hk7⟩ := hm.put (t := 61) (e := 33) Tryz.underlying61 (x := (i : Int)) (wfI_nat i (by omega)) (.slice none 0 0) (by simp [entI, allE]; omega)
      have hput2 : (Instr.mapUpdate 61 (.map (some cm)) (.int .i64 (i : Int)) (.slice none 0 0)).run Tryz.prog wr = .ok () w7 := hput
      rw [allE_put] at hm7
      have hkr7 := hkr.trans hk7 (fun k _ e => e)
      clear hput hm hkr
      have Hm7 := Lib.hid hm7
      have Hk7 := Lib.hid hk7
      have Hkr7 := Lib.hid hkr7
      clear hm7 hk7 hkr7
      go_wp2_with fail
      go_roundw
      case rel => exact ⟨i + 1, by simp, by omega, Hm7.out, Hkr7.out⟩
      case measure => simp [intOf]; omega
    · obtain rfl : i = p := by omega
      have hltI : ¬ (i : Int) < i := by omega
      have hcl : ∀ k, M k → k < cm := fun k hm => by rw [Hcm.out]; exact Hbp5.out.lt k hm
      have hfl : ∀ k, F k → k < cm := fun k hf => by rw [Hcm.out]; exact Hdk5.out.lt k hf
      have hnr : ∀ k, only cm k → NotRaw w6 k := fun k e => by rw [show k = cm from e]; exact notRaw_map Hnm.out
      have hbpr := Hbp6.out.keepAll hkr (fun k hm e => by have := hcl k hm; have e2 : k = cm := e; omega) hnr
      have hdkr := Hdk6.out.keepAll hkr (fun k hf e => by have := hfl k hf; have e2 : k = cm := e; omega) hnr
      have hkr0 : Keeps nowhere w wr := Hk06.out.trans hkr (fun k hl e => by have e2 : k = cm := e; have := Hc0.out; omega)
      clear hkr
      have Hm := Lib.hid hm
      have Hbpr := Lib.hid hbpr
      have Hdkr := Lib.hid hdkr
      have Hkr0 := Lib.hid hkr0
      have Hcl := Lib.hid hcl
      have Hfl := Lib.hid hfl
      have Hnr := Lib.hid hnr
      clear hm hbpr hdkr hkr0 hcl hfl hnr
      go_wp2_with (at_make; refine recBo.wpList_make_one false (.bool false) rfl rfl Tryz.underlying34 infoBo (by omega) _ rfl _ _ rfl i (i : Int) rfl rfl rfl (by omega) ?_)
      intro w8 hx8 hk8
      obtain ⟨q8, hq8⟩ : ∃ q, q = wr.heap.size := ⟨_, rfl⟩
      rw [← hq8] at hx8
      simp only [← hq8]
      have hlay := blay_any (some ⟨q8, 0, none⟩) i i (List.replicate i false) (Hdkr.out.same hk8) (Hbpr.out.same hk8) ap ⟨hz1, dok.size, by show a + n ≤ _; omega, by show i ≤ _; omega, by show 0 < _; omega⟩ (by show 0 + 1 < _; omega) lok rfl hx8 (by simp) rfl (pe := allE i) (Hm.out.same hk8) (fun hf => by have := Hfl.out cm hf; omega) (fun x hx => by
        obtain ⟨j, hj, rfl⟩ := List.mem_map.1 hx
        exact RecT.Row.nil _ _) (fun x hx => by
        obtain ⟨j, hj, rfl⟩ := List.mem_map.1 hx
        exact List.mem_range.1 hj) (by simp [allE]; omega) (fun k e hxk => by
        have e2 : q8 = k := by simpa [Value.ownBlock] using e
        have := Hk.out.xlt k hxk
        have := Hkr0.out.size
        omega)
      change Calls Tryz.prog _ _ w8 (LayPost X w8 s d F M (fmtB a n D.size i) (List.replicate i false) (fmtR D a n i)) at hlay
      rw [← HR.out] at hlay
      have hk08 := Hkr0.out.more hk8
      unfold bp LayPost at hlay
      rw [hr0] at hlay
      clear hx8 hltI
      have Hlay := Lib.hid hlay
      have Hk8 := Lib.hid hk8
      have Hq8 := Lib.hid hq8
      have Hk08 := Lib.hid hk08
      clear hlay hk8 hq8 hk08
      go_wp2_with fail
      refine Hlay.out.mono ?_
      rintro e w9 ⟨rfl, F9, hdk9, hbp9, hkp9, hgf9, hap9⟩
      rw [if_pos trivial] at hbp9
      have hkp : Keeps (fun k => F k ∨ nowhere k) w w9 := (Hk08.out.mono (T := fun k => F k ∨ nowhere k) (fun _ _ h => h.elim)).trans hkp9 (fun k hl e => e.elim (fun e => .inl e) (fun e => by have := HMl.out k e; omega))
      have hgf : ∀ k, F9 k → F k ∨ w.heap.size ≤ k := fun k e => (hgf9 k e).imp id (fun e => Nat.le_trans Hk08.out.size e)
      have Hdk9 := Lib.hid hdk9
      have Hbp9 := Lib.hid hbp9
      have Hkp := Lib.hid hkp
      have Hgf := Lib.hid hgf
      have Hap9 := Lib.hid hap9
      have Hkp9 := Lib.hid hkp9
      have Hgf9 := Lib.hid hgf9
      clear hdk9 hbp9 hkp hgf hap9 hkp9 hgf9
      go_wp2_with fail
      go_ret2
      exact ⟨s, F9, M, rfl, Hdk9.out, Hbp9.out, Hkp.out, Hgf.out, fun k e => .inr (HMl.out k e), Hap9.out⟩
set_option maxHeartbeats 4000000 in
theorem bformat_bad (a n p : Int) (hk : DK X w d F D) (hK : D.kept.length ≤ 1000000) (ho : D.off = false) (ha : a ≤ 9223372036854775807) (hn : n ≤ 9223372036854775807) (hb : ¬ (0 ≤ a ∧ 0 ≤ n ∧ n ≤ D.kept.length ∧ a ≤ D.kept.length - n ∧ 1 ≤ p ∧ p ≤ 1024 ∧ 3 * p + 16 ≤ n)) :
    Calls Tryz.prog 7 #[dp d, .int .i64 a, .int .i64 n, .int .i64 p] w fun e w' => e = .returned (.tuple #[.pointer none, .int .i64 1]) ∧ Keeps nowhere w w' := by
  have hft := fits_any n p w hn
  have hon1 := bon_any a n hk hK ha
  unfold dp at *
  by_cases hf : fitsI n p = true
  · rw [hf] at hft
    have h3 := (fitsI_iff n p).1 hf
    have hoe : onE D.kept.length D.off a n = 1 := by
      unfold onE
      rw [if_neg]
      rintro ⟨h1, h2, h4, h5⟩
      exact hb ⟨h4, by omega, h2, h5, h3⟩
    unfold OnP at hon1
    rw [hoe] at hon1
    clear hb h3 hf hoe
    have Hk := Lib.hid hk
    have Hft := Lib.hid hft
    have Hon1 := Lib.hid hon1
    clear hk hft hon1
    go_enter Tryz.func7, Tryz.ntmps7
    go_wp2_with fail
    refine Hft.out.mono ?_
    rintro e w' ⟨rfl, rfl⟩
    go_wp2_with fail
    refine Hon1.out.mono ?_
    rintro e w1 ⟨hk1, ⟨-, rfl⟩ | ⟨h0, -⟩⟩
    · have Hk1 := Lib.hid hk1
      clear hk1
      go_wp2_with fail
      go_ret2
      exact ⟨rfl, Hk1.out⟩
    · exact absurd h0 (by decide)
  · have hf' : fitsI n p = false := by simpa using hf
    rw [hf'] at hft
    clear hon1 hb hf hf'
    have Hk := Lib.hid hk
    have Hft := Lib.hid hft
    clear hk hft
    go_enter Tryz.func7, Tryz.ntmps7
    go_wp2_with fail
    refine Hft.out.mono ?_
    rintro e w' ⟨rfl, rfl⟩
    go_wp2_with fail
    go_ret2
    exact ⟨rfl, Keeps.refl _ _⟩
end
end Go.Proofs.YtnddaildicmneaaGreat
/-
  pages: Open.
-/
namespace Go.Proofs.YtnddaildicmneaaGreat
open Go.Proofs Go.RowKit Go.Sort Go.Maps

/-- the bytes of the table -/
def tabB (B : BookV) (D : DiskV) (i : Nat) : List UInt8 := (List.range i).flatMap fun j => D.readL ((B.tab B.gen + j : Nat) : Int)
theorem tabB_succ (B : BookV) (D : DiskV) (i : Nat) : tabB B D (i + 1) = tabB B D i ++ D.readL ((B.tab B.gen + i : Nat) : Int) := by
  unfold tabB
  rw [List.range_succ, List.flatMap_append]
  simp
def bitsL (b : List UInt8) (i : Nat) : List Bool := (List.range i).map (bitAt b)
theorem bitsL_succ (b : List UInt8) (i : Nat) : bitsL b (i + 1) = bitsL b i ++ [bitAt b i] := by simp [bitsL, List.range_succ]
theorem bitsL_len (b : List UInt8) (i : Nat) : (bitsL b i).length = i := by simp [bitsL]
def openN (D : DiskV) (a n : Nat) : BookV := (newestV (onB a n D.size) D).1
/-- what Open hands back -/
def openB (D : DiskV) (a n : Nat) : BookV := { openN D a n with second := bitsL (tabB (openN D a n) D (openN D a n).T) (openN D a n).pages }
theorem bit_and (x m : Nat) (hx : x < 256) : bits .and .u8 ((x : Int) / 2 ^ m) 1 = ((x / 2 ^ m % 2 : Nat) : Int) := by
  have h1 : x / 2 ^ m < 256 := Nat.lt_of_le_of_lt (Nat.div_le_self _ _) hx
  have h2 : bits .and .u8 ((x / 2 ^ m : Nat) : Int) 1 = ((x / 2 ^ m &&& 1 : Nat) : Int) := u8_and_nat _ 1 h1 (by omega)
  rw [show ((x : Int) / 2 ^ m) = ((x / 2 ^ m : Nat) : Int) by simp, h2, nat_mask1]
section
variable {X : Nat → Prop} {w w' W0 wr : World} {s d c cm : Nat} {sv : Value} {ce pe : List EntV} {B : BookV} {S M F : Nat → Prop} {D : DiskV}
/-- onto the row of the marks -/
theorem BAt.appSecond (h : BAt w s d c sv [] B) (hk : Keeps (fun b => sv.ownBlock = some b) w w') {nv : Value} {L : List Bool} (hr : recBo.Row w' nv L) :
    (∃ A n cp, w'.cell? ⟨s, 6, none⟩ = some (.slice A n cp)) ∧ w'.frozen? ⟨s, 6, none⟩ = false ∧ BAt (w'.setCell ⟨s, 6, none⟩ nv) s d c nv [] { B with second := L } ∧ Keeps (fun k => k = s ∨ sv.ownBlock = some k) w (w'.setCell ⟨s, 6, none⟩ nv) := by
  have hns : sv.ownBlock ≠ some s := own_blk_ne h.sec h.box (by decide)
  have hbox := h.box.keep hk hns
  have hmap := h.map.keep hk (fun e => by
    rcases h.sec.blk with ⟨rfl, -⟩ | ⟨b, cp, rst, rfl, hb, -⟩
    · cases e
    · simp only [Value.ownBlock, Option.some.injEq] at e
      exact h.map.ne_blk hb e)
  have hks : Keeps (only s) w' (w'.setCell ⟨s, 6, none⟩ nv) := (Keeps.refl (only s) w').setCell (p := ⟨s, 6, none⟩) (fun _ => rfl) _
  have hb := hbox.set_ 6 nv
  have hnr : ∀ k, only s k → NotRaw w' k := fun k e => by have e2 : k = s := e; rw [e2]; exact notRaw_box hbox (by decide) (by decide)
  obtain ⟨A, cp, hsv, -⟩ := h.sec.form
  refine ⟨⟨A, _, cp, by rw [← hsv]; simpa using hbox.cell 6⟩, hbox.frozen 6, ⟨by simpa using hb, hr.keep hks (fun b e hs => row_raw hr (.inr rfl) (hnr b hs) e), hmap.keep hks (fun e => h.ne (show c = s from e).symm), fun x hx => (by cases hx), h.ch⟩, (hk.mono (fun _ _ e => .inr e)).trans hks (fun _ _ e => .inl e)⟩
set_option maxRecDepth 20000 in
set_option maxHeartbeats 8000000 in
theorem bopen_ok (a n : Nat) (hk : DK X w d F D) (dok : DOk D) (hz1 : 64 ≤ D.size) (ho : D.off = false) (h1n : 1 ≤ n) (hon : a + n ≤ D.kept.length) (hfd : (newestV (onB a n D.size) D).2 = true) (hft : fitsN n (openN D a n).pages) :
    Calls Tryz.prog 18 #[dp d, .int .i64 a, .int .i64 n] w fun e w' => ∃ s M', e = .returned (.tuple #[bp s, .int .i64 0]) ∧ DK X w' d F D ∧ BP X w' s d M' (openB D a n) ∧ (∀ k, M' k → w.heap.size ≤ k) ∧ Keeps nowhere w w' := by
  have hK := dok.kept
  have hon1 := bon_any (a : Int) (n : Int) hk hK (by omega)
  have hoe : onE D.kept.length D.off (a : Int) (n : Int) = 0 := by
    unfold onE
    rw [if_pos ⟨by omega, by omega, by omega, by omega⟩, ho]; rfl
  have okB : BOk (onB a n D.size) := ⟨hz1, dok.size, by show a + n ≤ _; omega, by show 0 ≤ _; omega, by show 0 < _; omega⟩
  have okN : BOk (openN D a n) := newV_ok okB D _
  have hsm : SameB (onB a n D.size) (openN D a n) := newV_same _ D _
  unfold dp at *
  unfold OnP at hon1
  rw [hoe] at hon1
  obtain ⟨f1, f2, f3⟩ := hft
  have Hk := Lib.hid hk
  have Hon1 := Lib.hid hon1
  have Hfd := Lib.hid hfd
  have Hsm := Lib.hid hsm
  clear hk hon1 hfd hsm
  go_enter Tryz.func18, Tryz.ntmps18
  go_wp2_with fail
  refine Hon1.out.mono ?_
  rintro e w1 ⟨hk1, ⟨h0, -⟩ | ⟨-, s, c, rfl, hat, hMl⟩⟩
  · exact absurd rfl h0
  rw [Int.toNat_natCast, Int.toNat_natCast] at hat
  have ap : ∀ k, MS s c k → ¬ F k := fun k hm hf => by have := Hk.out.lt k hf; have := hMl k hm; omega
  have hnw := bnewest_at (Hk.out.same hk1) hat ⟨fun k e => (by cases e), (Hk.out.same hk1).xlt⟩ ap okB dok ho (by show a + min 2 n ≤ _; omega) rfl
  rw [Hfd.out] at hnw
  unfold bp at hnw ⊢
  have Hat := Lib.hid hat
  have Hk1 := Lib.hid hk1
  have HMl := Lib.hid hMl
  have Hnw := Lib.hid hnw
  clear hat hk1 hMl hnw
  go_wp2_with fail
  refine Hnw.out.mono ?_
  rintro e w2 ⟨rfl, hdk2, hat2, hkM2⟩
  change BAt w2 s d c (.slice none 0 0) [] (openN D a n) at hat2
  obtain ⟨B, hB⟩ : ∃ B, B = openN D a n := ⟨_, rfl⟩
  rw [← hB] at hat2 okN f1 f2 f3
  have hk02 : Keeps nowhere w w2 := Hk1.out.trans hkM2 (fun k hl hm => by have := HMl.out k hm; omega)
  have htb := fun w3 (hk : Keeps nowhere w2 w3) => btables_any (⟨c, _, _, rfl, hat2.same hk, fun k e => (by cases e), (Hk.out.same (hk02.more hk)).xlt⟩ : BP X w3 s d (MS s c) B) okN
  have hta := fun w3 (hk : Keeps nowhere w2 w3) => btable_any B.gen (⟨c, _, _, rfl, hat2.same hk, fun k e => (by cases e), (Hk.out.same (hk02.more hk)).xlt⟩ : BP X w3 s d (MS s c) B) okN okN.g
  obtain ⟨T, hT⟩ : ∃ T, T = B.T := ⟨_, rfl⟩
  obtain ⟨t0, ht0⟩ : ∃ t, t = B.tab B.gen := ⟨_, rfl⟩
  simp only [← hT] at htb
  simp only [← ht0] at hta
  unfold bp at htb hta
  have Hdk2 := Lib.hid hdk2
  have Hat2 := Lib.hid hat2
  have HkM2 := Lib.hid hkM2
  have Hk02 := Lib.hid hk02
  have HB := Lib.hid hB
  have Hta := Lib.hid hta
  have Htb := Lib.hid htb
  have HT := Lib.hid hT
  have Ht0 := Lib.hid ht0
  clear hdk2 hat2 hkM2 hk02 hB hta htb hT ht0
  go_wp2_with fail
  refine (Htb.out w2 (Keeps.refl _ _)).mono ?_
  rintro e w3 ⟨rfl, hk3⟩
  have hk03 := Hk02.out.more hk3
  have hrow0 : recB.Row w3 (.slice none 0 0) (tabB B D 0) := RecT.Row.nil _ _
  have hBa : B.a = a := by rw [HB.out]; exact Hsm.out.a
  have hBn : B.n = n := by rw [HB.out]; exact Hsm.out.n
  have hBz : B.size = D.size := by rw [HB.out]; exact Hsm.out.size
  have hT2 : T ≤ 2 := by rw [HT.out]; exact tabN_le f2 okN.z1
  have htl : t0 + T ≤ D.kept.length := by
    have : B.gen % 2 * T ≤ 1 * T := Nat.mul_le_mul_right _ (by omega)
    rw [Ht0.out]
    show B.a + 2 + B.gen % 2 * B.T + T ≤ _
    rw [← HT.out]
    omega
  have hrl : ∀ x, x < D.kept.length → (D.readL (x : Int)).length = D.size := fun x hx => by
    obtain ⟨b, kv, kp, ks, vs, -, h, -⟩ := Hdk2.out
    unfold DiskV.readL DiskV.read
    rw [if_neg (by simp [ho]), if_pos ⟨by omega, by omega⟩, Int.toNat_natCast]
    exact read_len h hx _
  have htbl : ∀ i, i ≤ T → (tabB B D i).length = i * D.size := fun i => by
    induction i with
    | zero => intro _; simp [tabB]
    | succ i ih =>
      intro hi
      rw [tabB_succ, List.length_append, ih (by omega), hrl _ (by rw [← Ht0.out]; omega), Nat.succ_mul]
  have hzz := dok.size
  have Hk3 := Lib.hid hk3
  have Hk03 := Lib.hid hk03
  have Hrow0 := Lib.hid hrow0
  have HBa := Lib.hid hBa
  have HBn := Lib.hid hBn
  have HBz := Lib.hid hBz
  have Hrl := Lib.hid hrl
  have Htbl := Lib.hid htbl
  clear hk3 hk03 hrow0 hBa hBn hBz hrl htbl
  go_upto_region 8 with fail
  go_loopw [10, 30] (fun bv iv wr => ∃ i : Nat, iv = .int .i64 i ∧ i ≤ T ∧ recB.Row wr bv (tabB B D i) ∧ Above w3.heap.size bv.ownBlock ∧ Keeps nowhere w3 wr) (fun _ iv _ => T - (intOf iv).toNat)
  case atStart => exact ⟨0, rfl, Nat.zero_le _, Hrow0.out, Above.none _, Keeps.refl _ _⟩
  case round =>
    obtain ⟨i, rfl, hi, hrow, hab, hkr⟩ := hrel
    obtain ⟨bA, bc, hbv, -⟩ := hrow.form
    subst hbv
    obtain ⟨bn, hbn⟩ : ∃ bn, bn = (tabB B D i).length := ⟨_, rfl⟩
    rw [← hbn] at hrow hab ⊢
    have hk2r := Hk3.out.more hkr
    by_cases hlt : i < T
    · have hltI : (i : Int) < T := by omega
      have hi1 : IntKind.i64.wrap ((i : Int) + 1) = i + 1 := IntWalk.i64_in _ (by omega)
      obtain ⟨x, hx⟩ : ∃ x, x = t0 + i := ⟨_, rfl⟩
      have e1 : IntKind.i64.wrap ((t0 : Int) + i) = (x : Int) := by rw [IntWalk.i64_in _ (by omega)]; omega
      have hre : D.readE (x : Int) = 0 := by
        unfold DiskV.readE
        rw [if_neg (by simp [ho]), if_pos ⟨by omega, by omega⟩]
      have hrd := fun w4 (hk : Keeps nowhere wr w4) => dk_read (x : Int) (Hdk2.out.same (hk2r.more hk)) dok
      simp only [hre] at hrd
      have q0 : ∀ w', Keeps nowhere wr.drew w' → w'.cell? ⟨s, 0, none⟩ = some (.pointer (some ⟨d, 0, none⟩)) := fun w' e => by simpa [dp] using (Hat2.out.same (hk2r.drew.more e)).cell 0
      have q4 : ∀ w', Keeps nowhere wr.drew w' → w'.cell? ⟨s, 4, none⟩ = some (.int .u64 B.gen) := fun w' e => by simpa using (Hat2.out.same (hk2r.drew.more e)).cell 4
      unfold dp at hrd
      have Hrow := Lib.hid hrow
      have Hab := Lib.hid hab
      have Hkr := Lib.hid hkr
      have Hk2r := Lib.hid hk2r
      have Hrd := Lib.hid hrd
      have Hbn := Lib.hid hbn
      have Hx := Lib.hid hx
      clear hrow hab hkr hk2r hrd hbn hx
      go_wp2_with fail
      refine wp_region_script [0, 1, 2, 3, 4, 5, 6, 7, 8, 9, 11, 12, 15, 16] [3, 9] [.ps [0, 1, 2], .fs [3], .ps [4, 5, 6, 7, 8], .fs [9], .ps [11], .es [10] true, .ps [12], .es [13, 14] false, .ps [15, 16], .es [17, 18] false] (Keeps nowhere wr.drew) rfl (by kernel_rfl) ?_
      refine wpS_ps rfl fun K hK => ?_
      simp only [List.map_cons, List.map_nil, Option.getD_some, List.getElem?_toArray, List.getElem?_cons_zero, List.getElem?_cons_succ]
      iterate 3 (first | (apply quietO_cons _ rfl; (intro w' _; go_simp; rfl)) | apply quietO_skip rfl)
      refine hK _ ?_
      clear hK K
      simp only [Act.put, List.setIfInBounds_toArray, List.set_cons_zero, List.set_cons_succ]
      refine wpS_fs rfl (Keeps.refl _ _) fun K hK => ?_
      simp only [List.map_cons, List.map_nil, Option.getD_some, List.getElem?_toArray, List.getElem?_cons_zero, List.getElem?_cons_succ]
      iterate 1 (first | (apply quietO_cons _ rfl; (intro w' hs; have c_0 := q0 w' hs; go_simp; rfl)) | apply quietO_skip rfl)
      refine hK _ ?_
      clear hK K
      simp only [Act.put, List.setIfInBounds_toArray, List.set_cons_zero, List.set_cons_succ]
      refine wpS_ps rfl fun K hK => ?_
      simp only [List.map_cons, List.map_nil, Option.getD_some, List.getElem?_toArray, List.getElem?_cons_zero, List.getElem?_cons_succ]
      iterate 5 (first | (apply quietO_cons _ rfl; (intro w' _; go_simp; rfl)) | apply quietO_skip rfl)
      refine hK _ ?_
      clear hK K
      simp only [Act.put, List.setIfInBounds_toArray, List.set_cons_zero, List.set_cons_succ]
      refine wpS_fs rfl (Keeps.refl _ _) fun K hK => ?_
      simp only [List.map_cons, List.map_nil, Option.getD_some, List.getElem?_toArray, List.getElem?_cons_zero, List.getElem?_cons_succ]
      iterate 1 (first | (apply quietO_cons _ rfl; (intro w' hs; have c_0 := q4 w' hs; go_simp; rfl)) | apply quietO_skip rfl)
      refine hK _ ?_
      clear hK K
      simp only [Act.put, List.setIfInBounds_toArray, List.set_cons_zero, List.set_cons_succ]
      refine wpS_ps rfl fun K hK => ?_
      simp only [List.map_cons, List.map_nil, Option.getD_some, List.getElem?_toArray, List.getElem?_cons_zero, List.getElem?_cons_succ]
      iterate 1 (first | (apply quietO_cons _ rfl; (intro w' _; go_simp; rfl)) | apply quietO_skip rfl)
      refine hK _ ?_
      clear hK K
      simp only [Act.put, List.setIfInBounds_toArray, List.set_cons_zero, List.set_cons_succ]
      clear q0 q4
      refine wpS_es rfl fun K hK => ?_
      have HK := Lib.hid hK
      clear hK
      simp only [List.map_cons, List.map_nil, Option.getD_some, List.getElem?_toArray, List.getElem?_cons_zero, List.getElem?_cons_succ]
      go_wp2_with fail
      refine (Hta.out _ (Hk2r.out.drew)).mono ?_
      rintro e w5 ⟨rfl, hk5⟩
      have hk05 := (Keeps.refl nowhere wr).drew.more hk5
      have Hk05 := Lib.hid hk05
      clear hk05
      go_wp2_with fail
      refine HK.out _ _ (fun _ => hk5) ?_
      clear HK K
      refine wpS_ps rfl fun K hK => ?_
      simp only [List.map_cons, List.map_nil, Option.getD_some, List.getElem?_toArray, List.getElem?_cons_zero, List.getElem?_cons_succ]
      iterate 1 (first | (apply quietO_cons _ rfl; (intro w' _; go_simp; rfl)) | apply quietO_skip rfl)
      refine hK _ ?_
      clear hK K
      simp only [Act.put, List.setIfInBounds_toArray, List.set_cons_zero, List.set_cons_succ]
      refine wpS_es rfl fun K hK => ?_
      have HK := Lib.hid hK
      clear hK
      simp only [List.map_cons, List.map_nil, Option.getD_some, List.getElem?_toArray, List.getElem?_cons_zero, List.getElem?_cons_succ]
      go_wp2_with fail
      refine (Hrd.out w5 Hk05.out).mono ?_
      rintro e w6 ⟨v6, g6, rfl, hr6, hg6, hk6⟩
      obtain ⟨A6, c6, rfl, -⟩ := id hr6
      have hk06 := Hk05.out.more hk6
      have hrow6 := Hrow.out.same hk06
      obtain ⟨n6, hn6⟩ : ∃ n6, n6 = (D.readL (x : Int)).length := ⟨_, rfl⟩
      rw [← hn6] at hr6 ⊢
      have hlb : (tabB B D i).length + (D.readL (x : Int)).length ≤ 100000000 := by
        rw [Htbl.out i hi, Hrl.out x (by have := Hx.out; omega)]
        have : i * D.size ≤ 2 * 1000000 := Nat.mul_le_mul (by omega) hzz
        omega
      have Hr6 := Lib.hid hr6
      have Hg6 := Lib.hid hg6
      have Hk06 := Lib.hid hk06
      have Hrow6 := Lib.hid hrow6
      have Hn6 := Lib.hid hn6
      have Hlb := Lib.hid hlb
      clear hr6 hg6 hk06 hrow6 hn6 hlb
      go_wp2_with fail
      refine HK.out _ _ (fun h => by cases h) ?_
      clear HK K
      refine wpS_ps rfl fun K hK => ?_
      simp only [List.map_cons, List.map_nil, Option.getD_some, List.getElem?_toArray, List.getElem?_cons_zero, List.getElem?_cons_succ]
      iterate 2 (first | (apply quietO_cons _ rfl; (intro w' _; go_simp; rfl)) | apply quietO_skip rfl)
      refine hK _ ?_
      clear hK K
      simp only [Act.put, List.setIfInBounds_toArray, List.set_cons_zero, List.set_cons_succ]
      refine wpS_es rfl fun K hK => ?_
      have HK := Lib.hid hK
      clear hK
      simp only [List.map_cons, List.map_nil, Option.getD_some, List.getElem?_toArray, List.getElem?_cons_zero, List.getElem?_cons_succ]
      go_wp2_with fail
      refine HK.out _ _ (fun h => by cases h) ?_
      clear HK K
      refine wpS_nil ?_
      go_wp2_with (at_builtin; go_must (refine RecT.wpList_append (R := recB) Tryz.underlying33 infoB rfl (by decide) rfl (.tmp 50) (.tmp 51) rfl _ (tabB B D i) rfl Hrow6.out _ _ (D.readL (x : Int)) rfl Hr6.out Hlb.out ?_))
      intro v7 w7 hrow7 hk7 hfr7
      rw [Hx.out, Ht0.out, ← tabB_succ] at hrow7
      have hab7 : Above w3.heap.size v7.ownBlock := fun b hb => (hfr7 b hb).elim (fun e => Hab.out b e) (fun e => Nat.le_trans (Nat.le_trans Hkr.out.size Hk06.out.size) e)
      have hk37 : Keeps nowhere w3 w7 := (Hkr.out.more Hk06.out).trans hk7 (fun k hl e => by have := Hab.out k e; omega)
      have Hrow7 := Lib.hid hrow7
      have Hab7 := Lib.hid hab7
      have Hk37 := Lib.hid hk37
      have Hk7 := Lib.hid hk7
      have Hfr7 := Lib.hid hfr7
      clear hrow7 hab7 hk37 hk7 hfr7
      go_wp2_with fail
      go_roundw
      case rel => exact ⟨i + 1, by simp, by omega, Hrow7.out, Hab7.out, Hk37.out⟩
      case measure => simp [intOf]; omega
    · obtain rfl : i = T := by omega
      have hltI : ¬ (i : Int) < i := by omega
      have hBs : B.second = [] := by rw [HB.out]; exact Hsm.out.second
      have hB0 : B = { B with second := bitsL (tabB B D i) 0 } := by
        cases B
        simp only at hBs
        subst hBs
        rfl
      have hatr := Hat2.out.same hk2r
      have c5 := hatr.cell 5
      simp at c5
      rw [hB0] at hatr
      have hdkr := Hdk2.out.same hk2r
      have hk0r := Hk03.out.more hkr
      have hge : B.pages ≤ 8 * bn := by
        rw [hbn, Htbl.out i (Nat.le_refl _), HT.out]
        have h9 := tabN_ge (pages := B.pages) okN.z1
        rw [HBz.out] at h9
        unfold BookV.T
        rw [HBz.out]
        exact h9
      have habw : Above w.heap.size (Value.slice bA bn bc).ownBlock := fun b hb => Nat.le_trans Hk03.out.size (hab b hb)
      obtain ⟨Lb, hLb⟩ : ∃ Lb, Lb = tabB B D i := ⟨_, rfl⟩
      rw [← hLb] at hrow hbn hatr
      obtain ⟨P, hP⟩ : ∃ P, P = B.pages := ⟨_, rfl⟩
      rw [← hP] at c5 f1 f2 f3 hge
      clear hltI hlt hi hab hkr hk2r hB0 hBs
      have Hrow := Lib.hid hrow
      have Hatr := Lib.hid hatr
      have Hdkr := Lib.hid hdkr
      have Hk0r := Lib.hid hk0r
      have Hbn := Lib.hid hbn
      have Habw := Lib.hid habw
      have HLb := Lib.hid hLb
      have HP := Lib.hid hP
      clear hrow hatr hdkr hk0r hbn habw hLb hP
      go_upto_region 14 with fail
      clear c5
      go_loopw [59] (fun iv wr2 => ∃ (k : Nat) (sv : Value), iv = .int .i64 k ∧ k ≤ P ∧ BAt wr2 s d c sv [] { B with second := bitsL Lb k } ∧ Above w.heap.size sv.ownBlock ∧ recB.Row wr2 (.slice bA bn bc) Lb ∧ Keeps nowhere w wr2) (fun iv _ => P - (intOf iv).toNat)
      case atStart => exact ⟨0, _, rfl, Nat.zero_le _, Hatr.out, Above.none _, Hrow.out, Hk0r.out⟩
      case round =>
        obtain ⟨k, sv, rfl, hi, hat, hab, hrow, hkr⟩ := hrel
        by_cases hlt : k < P
        · have hltI : (k : Int) < P := by omega
          have hi1 : IntKind.i64.wrap ((k : Int) + 1) = k + 1 := IntWalk.i64_in _ (by omega)
          obtain ⟨j, hj⟩ : ∃ j, j = k / 8 := ⟨_, rfl⟩
          obtain ⟨m, hm⟩ : ∃ m, m = k % 8 := ⟨_, rfl⟩
          have hm8 : m < 8 := by omega
          have hjn : j < bn := by omega
          have hjI : (j : Int) < bn := by omega
          have hj0 : (0 : Int) ≤ j := by omega
          have hquo : Int.tdiv (k : Int) 8 = (j : Int) := by rw [Int.tdiv_eq_ediv_of_nonneg (by omega)]; omega
          have hquo2 : (k : Int) / 8 = (j : Int) := by omega
          have hrem : Int.tmod (k : Int) 8 = (m : Int) := by rw [Int.tmod_eq_emod_of_nonneg (by omega)]; omega
          have hrem2 : (k : Int) % 8 = (m : Int) := by omega
          have hjw : IntKind.i64.wrap (j : Int) = j := IntWalk.i64_in _ (by omega)
          have hmw : IntKind.i64.wrap (m : Int) = m := IntWalk.i64_in _ (by omega)
          obtain ⟨u, hu⟩ : ∃ u, Lb[j]? = some u := ⟨_, List.getElem?_eq_getElem (by rw [← Hbn.out]; exact hjn)⟩
          obtain ⟨bb, hbA, hcu⟩ : ∃ bb, bA = some ⟨bb, 0, none⟩ ∧ ∀ w', Keeps nowhere wr w' → w'.cell? ⟨bb, j, none⟩ = some (bv u) := by
            rcases hrow.blk with ⟨e, -⟩ | ⟨bb, cp, rst, e, -⟩
            · injection e with _ e2 _; omega
            · injection e with e1 _ _
              refine ⟨bb, e1, fun w' hk => ?_⟩
              have hr2 := hrow.same hk
              rw [e1] at hr2
              have hat := hr2.at_ hu 0 (by decide)
              rw [show j * recB.n = j from Nat.mul_one j, Nat.add_zero] at hat
              simpa [recB] using hat
          subst hbA
          obtain ⟨x, hx⟩ : ∃ x, x = u.toNat := ⟨_, rfl⟩
          have hbv : bv u = .int .u8 (x : Int) := by unfold bv; rw [hx]
          rw [hbv] at hcu
          have hx8 : x < 256 := by rw [hx]; exact u.toNat_lt
          have hbit := bit_and x m hx8
          have hbt : bitAt Lb k = decide (x / 2 ^ m % 2 = 1) := by unfold bitAt; rw [← hj, ← hm, hu, hx]; rfl
          have hy2 : x / 2 ^ m % 2 < 2 := Nat.mod_lt _ (by omega)
          obtain ⟨y, hy⟩ : ∃ y, y = x / 2 ^ m % 2 := ⟨_, rfl⟩
          rw [← hy] at hbit hbt hy2
          have hyb : ((y : Int) == 1) = bitAt Lb k := by rw [hbt]; rcases (by omega : y = 0 ∨ y = 1) with rfl | rfl <;> rfl
          obtain ⟨tb, htb⟩ : ∃ tb, tb = bitAt Lb k := ⟨_, rfl⟩
          rw [← htb] at hyb
          obtain ⟨sA, sc, hsv, -⟩ := hat.sec.form
          subst hsv
          have hsn : (bitsL Lb k).length = k := bitsL_len _ _
          simp only [hsn] at hat hab
          have q6 : ∀ w', Keeps nowhere wr.drew w' → w'.cell? ⟨s, 6, none⟩ = some (.slice sA k sc) := fun w' e => by simpa using (hat.same ((Keeps.refl nowhere wr).drew.more e)).cell 6
          have qb : ∀ w', Keeps nowhere wr.drew w' → w'.cell? ⟨bb, j, none⟩ = some (.int .u8 (x : Int)) := fun w' e => hcu w' ((Keeps.refl nowhere wr).drew.more e)
          clear hcu hbv hsn hj hm hx hy hy2 hbt hu
          have Hat := Lib.hid hat
          have Hab := Lib.hid hab
          have Hrow := Lib.hid hrow
          have Hkr := Lib.hid hkr
          have Htb := Lib.hid htb
          clear hat hab hrow hkr htb
          go_wp2_with fail
          refine wp_region_script [0, 1, 2, 3, 4, 5, 6, 7, 8, 9, 10, 11, 12, 13, 14] [4, 9] [.ps [0, 1, 2, 3], .fs [4], .ps [5, 6, 7, 8], .fs [9], .ps [10, 11, 12, 13, 14], .es [15] true, .es [16, 17, 18, 19] false] (Keeps nowhere wr.drew) rfl (by kernel_rfl) ?_
          refine wpS_ps rfl fun K hK => ?_
          simp only [List.map_cons, List.map_nil, Option.getD_some, List.getElem?_toArray, List.getElem?_cons_zero, List.getElem?_cons_succ]
          iterate 4 (first | (apply quietO_cons _ rfl; (intro w' _; go_simp; rfl)) | apply quietO_skip rfl)
          refine hK _ ?_
          clear hK K
          simp only [Act.put, List.setIfInBounds_toArray, List.set_cons_zero, List.set_cons_succ]
          refine wpS_fs rfl (Keeps.refl _ _) fun K hK => ?_
          simp only [List.map_cons, List.map_nil, Option.getD_some, List.getElem?_toArray, List.getElem?_cons_zero, List.getElem?_cons_succ]
          iterate 1 (first | (apply quietO_cons _ rfl; (intro w' hs; have c_0 := q6 w' hs; go_simp; rfl)) | apply quietO_skip rfl)
          refine hK _ ?_
          clear hK K
          simp only [Act.put, List.setIfInBounds_toArray, List.set_cons_zero, List.set_cons_succ]
          refine wpS_ps rfl fun K hK => ?_
          simp only [List.map_cons, List.map_nil, Option.getD_some, List.getElem?_toArray, List.getElem?_cons_zero, List.getElem?_cons_succ]
          iterate 4 (first | (apply quietO_cons _ rfl; (intro w' _; go_simp; rfl)) | apply quietO_skip rfl)
          refine hK _ ?_
          clear hK K
          simp only [Act.put, List.setIfInBounds_toArray, List.set_cons_zero, List.set_cons_succ]
          refine wpS_fs rfl (Keeps.refl _ _) fun K hK => ?_
          simp only [List.map_cons, List.map_nil, Option.getD_some, List.getElem?_toArray, List.getElem?_cons_zero, List.getElem?_cons_succ]
          iterate 1 (first | (apply quietO_cons _ rfl; (intro w' hs; have c_0 := qb w' hs; go_simp; rfl)) | apply quietO_skip rfl)
          refine hK _ ?_
          clear hK K
          simp only [Act.put, List.setIfInBounds_toArray, List.set_cons_zero, List.set_cons_succ]
          refine wpS_ps rfl fun K hK => ?_
          simp only [List.map_cons, List.map_nil, Option.getD_some, List.getElem?_toArray, List.getElem?_cons_zero, List.getElem?_cons_succ]
          iterate 5 (first | (apply quietO_cons _ rfl; (intro w' _; go_simp; rfl)) | apply quietO_skip rfl)
          refine hK _ ?_
          clear hK K
          simp only [Act.put, List.setIfInBounds_toArray, List.set_cons_zero, List.set_cons_succ]
          clear q6 qb
          have hkd := (Keeps.refl nowhere wr).drew.alloc (.cells #[.bool tb] 4)
          have hat5 := Hat.out.same hkd
          have hrow5 := Hrow.out.same hkd
          have hkr5 := Hkr.out.more hkd
          have hrd5 := RecT.Rd.one recBo wr.drew tb
          have hsec5 := hat5.sec
          have hlb : (bitsL Lb k).length + [tb].length ≤ 100000000 := by rw [bitsL_len]; simp; omega
          have Hkd := Lib.hid hkd
          have Hat5 := Lib.hid hat5
          have Hrow5 := Lib.hid hrow5
          have Hkr5 := Lib.hid hkr5
          have Hrd5 := Lib.hid hrd5
          have Hsec5 := Lib.hid hsec5
          have Hlb := Lib.hid hlb
          clear hkd hat5 hrow5 hkr5 hrd5 hsec5 hlb
          refine wpS_es rfl fun K hK => ?_
          have HK := Lib.hid hK
          clear hK
          simp only [List.map_cons, List.map_nil, Option.getD_some, List.getElem?_toArray, List.getElem?_cons_zero, List.getElem?_cons_succ]
          go_wp2_with fail
          refine HK.out _ _ (fun _ => (Keeps.refl _ _).alloc _) ?_
          clear HK K
          refine wpS_es rfl fun K hK => ?_
          have HK := Lib.hid hK
          clear hK
          simp only [List.map_cons, List.map_nil, Option.getD_some, List.getElem?_toArray, List.getElem?_cons_zero, List.getElem?_cons_succ]
          go_wp2_with (at_builtin; go_must (refine RecT.wpList_append (R := recBo) Tryz.underlying34 infoBo rfl (by decide) rfl (.tmp 66) (.tmp 77) rfl _ (bitsL Lb k) rfl Hsec5.out _ _ [tb] rfl Hrd5.out Hlb.out ?_))
          intro nv w6 hrow6 hk6 hfr6
          rw [Htb.out, ← bitsL_succ] at hrow6
          obtain ⟨⟨A6, n6, cp6, cc6⟩, ff6, hat6, hkk6⟩ := Hat5.out.appSecond hk6 hrow6
          obtain ⟨nA, nc, rfl, -⟩ := hrow6.form
          obtain ⟨nn, hnn⟩ : ∃ nn, nn = (bitsL Lb (k + 1)).length := ⟨_, rfl⟩
          rw [← hnn] at hat6 hkk6 hfr6 hrow6 ⊢
          have hownb : ∀ b, (Value.slice sA k sc).ownBlock = some b → w.heap.size ≤ b := Hab.out
          have hs0 : w.heap.size ≤ s := HMl.out s (.inl rfl)
          have hab6 : Above w.heap.size (Value.slice nA nn nc).ownBlock := fun b hb => (hfr6 b hb).elim (fun e => hownb b e) (fun e => by
            have h9 := Hkr.out.size
            have e2 : wr.heap.size + 1 ≤ b := by simpa using e
            omega)
          have hraw6 : ∀ b, (b = s ∨ (Value.slice sA k sc).ownBlock = some b) → w.heap.size ≤ b := fun b e => e.elim (fun e => by omega) (hownb b)
          have hkr6 := Hkr5.out.trans hkk6 (fun b hl e => by have := hraw6 b e; omega)
          have hown6 : ∀ (v : Value) (g : Option Nat), recB.Row (wr.drew.alloc (.cells #[.bool tb] 4)) v Lb → ∀ b, v.ownBlock = some b → ¬ (b = s ∨ (Value.slice sA k sc).ownBlock = some b) := fun v g hr b e hs => by
            rcases hs with hs | hs
            · subst hs
              exact own_blk_ne hr Hat5.out.box (by decide) e
            · rcases Hsec5.out.blk with ⟨e2, -⟩ | ⟨b2, cp2, rst, e2, hb2, -⟩
              · rw [e2] at hs; cases hs
              · rw [e2] at hs
                simp only [Value.ownBlock, Option.some.injEq] at hs
                subst hs
                exact own_blk_ne hr hb2 (by decide) e
          have hrow7 := Hrow5.out.keep hkk6 (hown6 _ none Hrow5.out)
          have Hat6 := Lib.hid hat6
          have Hkk6 := Lib.hid hkk6
          have Hfr6 := Lib.hid hfr6
          have Hrow6 := Lib.hid hrow6
          have Hab6 := Lib.hid hab6
          have Hkr6 := Lib.hid hkr6
          have Hrow7 := Lib.hid hrow7
          have Hk6 := Lib.hid hk6
          have Hnn := Lib.hid hnn
          clear hat6 hkk6 hfr6 hrow6 hab6 hkr6 hrow7 hk6 hnn
          go_wp2_with fail
          clear cc6 ff6
          go_wp2_with fail
          refine HK.out _ _ (fun h => by cases h) ?_
          clear HK K
          refine wpS_nil ?_
          go_wp2_with fail
          go_roundw
          case rel => exact ⟨k + 1, _, by simp, by omega, Hat6.out, Hab6.out, Hrow7.out, Hkr6.out⟩
          case measure => simp [intOf]; omega
        · obtain rfl : k = P := by omega
          have hltI : ¬ (k : Int) < k := by omega
          have hC : ({ B with second := bitsL Lb k } : BookV) = openB D a n := by rw [HLb.out, HP.out, HT.out, HB.out]; rfl
          have Hat := Lib.hid hat
          have Hab := Lib.hid hab
          have Hrow := Lib.hid hrow
          have Hkr := Lib.hid hkr
          have HC := Lib.hid hC
          clear hat hab hrow hkr hC
          go_wp2_with fail
          go_ret2
          exact ⟨s, rfl, Hk.out.same Hkr.out, _, ⟨c, sv, [], rfl, by rw [← HC.out]; exact Hat.out, fun x e hxk => (by have := Hab.out x e; have := Hk.out.xlt x hxk; omega), (Hk.out.same Hkr.out).xlt⟩, HMl.out, Hkr.out⟩
end
end Go.Proofs.YtnddaildicmneaaGreat
/-
  pages: Open where there is no book; Changed.
-/
namespace Go.Proofs.YtnddaildicmneaaGreat
open Go.Proofs Go.RowKit Go.Sort Go.Maps

section
variable {X : Nat → Prop} {w w' W0 wr : World} {s d c cm : Nat} {sv : Value} {ce pe : List EntV} {B : BookV} {S M F : Nat → Prop} {D : DiskV}
set_option maxHeartbeats 4000000 in
theorem bopen_bad (a n : Int) (hk : DK X w d F D) (hK : D.kept.length ≤ 1000000) (ho : D.off = false) (ha : a ≤ 9223372036854775807) (hb : ¬ (1 ≤ n ∧ n ≤ D.kept.length ∧ 0 ≤ a ∧ a ≤ D.kept.length - n)) :
    Calls Tryz.prog 18 #[dp d, .int .i64 a, .int .i64 n] w fun e w' => e = .returned (.tuple #[.pointer none, .int .i64 1]) ∧ Keeps nowhere w w' := by
  have hon1 := bon_any a n hk hK ha
  have hoe : onE D.kept.length D.off a n = 1 := by
    unfold onE
    rw [if_neg hb]
  unfold dp at *
  unfold OnP at hon1
  rw [hoe] at hon1
  clear hb hoe
  have Hk := Lib.hid hk
  have Hon1 := Lib.hid hon1
  clear hk hon1
  go_enter Tryz.func18, Tryz.ntmps18
  go_wp2_with fail
  refine Hon1.out.mono ?_
  rintro e w1 ⟨hk1, ⟨-, rfl⟩ | ⟨h0, -⟩⟩
  · have Hk1 := Lib.hid hk1
    clear hk1
    go_wp2_with fail
    go_ret2
    exact ⟨rfl, Hk1.out⟩
  · exact absurd h0 (by decide)
set_option maxHeartbeats 4000000 in
theorem bopen_none (a n : Nat) (hk : DK X w d F D) (dok : DOk D) (hz1 : 64 ≤ D.size) (ho : D.off = false) (h1n : 1 ≤ n) (hon : a + n ≤ D.kept.length) (hfd : (newestV (onB a n D.size) D).2 = false) :
    Calls Tryz.prog 18 #[dp d, .int .i64 a, .int .i64 n] w fun e w' => e = .returned (.tuple #[.pointer none, .int .i64 2]) ∧ Keeps nowhere w w' := by
  have hK := dok.kept
  have hon1 := bon_any (a : Int) (n : Int) hk hK (by omega)
  have hoe : onE D.kept.length D.off (a : Int) (n : Int) = 0 := by
    unfold onE
    rw [if_pos ⟨by omega, by omega, by omega, by omega⟩, ho]; rfl
  have okB : BOk (onB a n D.size) := ⟨hz1, dok.size, by show a + n ≤ _; omega, by show 0 ≤ _; omega, by show 0 < _; omega⟩
  unfold dp at *
  unfold OnP at hon1
  rw [hoe] at hon1
  have Hk := Lib.hid hk
  have Hon1 := Lib.hid hon1
  have Hfd := Lib.hid hfd
  clear hk hon1 hfd
  go_enter Tryz.func18, Tryz.ntmps18
  go_wp2_with fail
  refine Hon1.out.mono ?_
  rintro e w1 ⟨hk1, ⟨h0, -⟩ | ⟨-, s, c, rfl, hat, hMl⟩⟩
  · exact absurd rfl h0
  rw [Int.toNat_natCast, Int.toNat_natCast] at hat
  have ap : ∀ k, MS s c k → ¬ F k := fun k hm hf => by have := Hk.out.lt k hf; have := hMl k hm; omega
  have hnw := bnewest_at (Hk.out.same hk1) hat ⟨fun k e => (by cases e), (Hk.out.same hk1).xlt⟩ ap okB dok ho (by show a + min 2 n ≤ _; omega) rfl
  rw [Hfd.out] at hnw
  unfold bp at hnw ⊢
  have Hat := Lib.hid hat
  have Hk1 := Lib.hid hk1
  have HMl := Lib.hid hMl
  have Hnw := Lib.hid hnw
  clear hat hk1 hMl hnw
  go_wp2_with fail
  refine Hnw.out.mono ?_
  rintro e w2 ⟨rfl, hdk2, hat2, hkM2⟩
  have hk02 : Keeps nowhere w w2 := Hk1.out.trans hkM2 (fun k hl hm => by have := HMl.out k hm; omega)
  have Hdk2 := Lib.hid hdk2
  have Hat2 := Lib.hid hat2
  have HkM2 := Lib.hid hkM2
  have Hk02 := Lib.hid hk02
  clear hdk2 hat2 hkM2 hk02
  go_wp2_with fail
  go_ret2
  exact ⟨rfl, Hk02.out⟩
theorem clipI_any (v : Value) (l : List Int) (w : World) (hr : recI.Row w v l) : Calls Tryz.prog 39 #[v] w fun e w' => ∃ A gb, e = .returned (.slice A l.length l.length) ∧ recI.Rd w' (.slice A l.length l.length) gb l ∧ (∀ b, gb = some b → v.ownBlock = some b) ∧ w' = w := by
  have hrd := hr.rd
  obtain ⟨A, c, rfl, h1, h2, h4⟩ := hr.form
  have hRd : recI.Rd w (.slice A l.length l.length) (Value.ownBlock (.slice A l.length c)) l := by
    obtain ⟨A', c', hv, k1, k2, k3, k4, k5⟩ := hrd
    injection hv with e1 e2 e3
    subst e1 e3
    exact ⟨A, _, rfl, Nat.le_refl _, Nat.le_trans k1 k2, k3, k4, fun h => by have := k5 h; omega⟩
  have h1' : (l.length : Int) ≤ c := by omega
  clear h4
  obtain ⟨L, hL⟩ : ∃ L, L = l.length := ⟨_, rfl⟩
  rw [← hL] at hRd h1' h1 ⊢
  have Hr := Lib.hid hr
  have Hrd := Lib.hid hrd
  have HRd := Lib.hid hRd
  have HL := Lib.hid hL
  clear hr hrd hRd hL
  go_enter Tryz.func39, Tryz.ntmps39
  go_wp2_with fail
  go_ret
  exact ⟨_, _, rfl, HRd.out, fun b hb => hb, rfl⟩
set_option maxHeartbeats 4000000 in
theorem bchanged_any (h : BP X w s d M B) (hl : B.changed.length ≤ 100000) :
    Calls Tryz.prog 21 #[bp s] w fun e w' => ∃ A g, e = .returned (.slice A B.changed.length B.changed.length) ∧ recI.Rd w' (.slice A B.changed.length B.changed.length) g ((ksOf B.changed).map (fun n : Nat => (n : Int))) ∧ Above w.heap.size g ∧ Keeps nowhere w w' := by
  obtain ⟨c, sv, ce, hM, h, hXo⟩ := h
  have hch : chOf ce = B.changed := h.ch.symm
  have hcl : ce.length = B.changed.length := by rw [h.ch]; simp
  have hkeys := ikeys_any w c
  have hsort := isorted_any h.map (by simp [entI]; omega)
  rw [srt_ks, hch] at hsort
  have c7 := h.cell 7
  simp at c7
  have hkl : ((ksOf B.changed).map (fun n : Nat => (n : Int))).length = B.changed.length := by rw [List.length_map, ks_len]
  unfold bp
  unfold keysVal at hkeys hsort
  have Hkeys := Lib.hid hkeys
  have Hsort := Lib.hid hsort
  have H := Lib.hid h
  have HM := Lib.hid hM
  have Hch := Lib.hid hch
  have Hkl := Lib.hid hkl
  have Hcl := Lib.hid hcl
  clear hkeys hsort h hM hch hkl hcl
  go_enter Tryz.func21, Tryz.ntmps21
  go_wp2_with fail
  refine Hkeys.out.mono ?_
  rintro e w1 ⟨rfl, rfl⟩
  go_wp2_with fail
  refine Hsort.out.mono ?_
  rintro e w2 ⟨v, rfl, hr, hk2, hab⟩
  have hcp := clipI_any v _ w2 hr
  rw [Hkl.out] at hcp
  have Hr := Lib.hid hr
  have Hk2 := Lib.hid hk2
  have Hab := Lib.hid hab
  have Hcp := Lib.hid hcp
  clear hr hk2 hab hcp
  go_wp2_with fail
  refine Hcp.out.mono ?_
  rintro e w3 ⟨A, g, rfl, hr3, hg, rfl⟩
  have Hr3 := Lib.hid hr3
  have Hg := Lib.hid hg
  clear hr3 hg
  go_wp2_with fail
  go_ret
  exact ⟨A, g, rfl, Hr3.out, fun b hb => Hab.out b (Hg.out b hb), Hk2.out⟩
end
end Go.Proofs.YtnddaildicmneaaGreat
/-
  pages: plain words: what is opened, read, laid.
-/
namespace Go.Proofs.YtnddaildicmneaaGreat
open Go.RowKit

theorem readL_pend {D : DiskV} (hp : D.pend = []) (ho : D.off = false) {x : Nat} (hx : x < D.kept.length) : D.readL (x : Int) = (D.kept[x]?).getD [] := by
  unfold DiskV.readL DiskV.read
  rw [if_neg (by simp [ho]), if_pos ⟨by omega, by omega⟩, Int.toNat_natCast, hp]
  rfl
theorem readL_at {D : DiskV} (hp : D.pend = []) (ho : D.off = false) {x : Nat} {L : List UInt8} (hx : D.kept[x]? = some L) : D.readL (x : Int) = L := by
  rw [readL_pend hp ho (List.getElem?_eq_some_iff.1 hx).1, hx]; rfl
theorem sgt_down {g : Nat} (h : g + 1 < 18446744073709551616) : sgt g (g + 1) = false := by
  unfold sgt
  have e : IntKind.u64.wrap ((g : Int) - ((g + 1 : Nat) : Int)) = 18446744073709551615 := by rw [IntKind.wrap_u64]; omega
  rw [e]; decide
theorem sgt_up {g : Nat} : sgt (g + 1) g = true := by
  unfold sgt
  have e : IntKind.u64.wrap (((g + 1 : Nat) : Int) - (g : Int)) = 1 := by rw [IntKind.wrap_u64]; omega
  rw [e]; decide
theorem headV_n {L : List UInt8} {n s : Nat} {h : Nat × Nat} (e : headV L n s = some h) : fitsN n h.2 := (headV_par e).2
theorem newest_lies {D : DiskV} {B : BookV} {vals : List (List UInt8)} (h : Lies D.kept B vals) (hp : D.pend = []) (ho : D.off = false) (hg : B.gen < 18446744073709551616) (hz : D.size = B.size) :
    newestV (onB B.a B.n D.size) D = ({ onB B.a B.n D.size with gen := B.gen, pages := B.pages }, true) := by
  obtain ⟨f1, f2, f3⟩ := h.f.f
  have hm : min 2 B.n = 2 := by omega
  have hrn := h.f.rng
  unfold newestV
  rw [show (onB B.a B.n D.size).n = B.n from rfl, hm]
  have hhd := headV_head (gen := B.gen) (pages := B.pages) (size := B.size) (n := B.n) hg h.f.f h.f.z
  have e1 : D.readL ((B.a + B.gen % 2 : Nat) : Int) = headL B.gen B.pages B.size := readL_at hp ho h.head
  obtain ⟨Lo, hLo⟩ : ∃ L, D.kept[B.a + (B.gen + 1) % 2]? = some L := ⟨_, List.getElem?_eq_getElem (by omega)⟩
  have e2 : D.readL ((B.a + (B.gen + 1) % 2 : Nat) : Int) = Lo := readL_at hp ho hLo
  have hot := h.other Lo hLo
  unfold newV
  rw [show (onB B.a B.n D.size).a = B.a from rfl, show (onB B.a B.n D.size).n = B.n from rfl]
  rcases Nat.mod_two_eq_zero_or_one B.gen with e | e
  · have e' : (B.gen + 1) % 2 = 1 := by omega
    rw [e] at e1 hhd
    rw [e'] at e2 hot
    have hn1 : newV (onB B.a B.n D.size) D 1 = ({ onB B.a B.n D.size with gen := B.gen, pages := B.pages }, true) := by
      unfold newV newV
      rw [show (onB B.a B.n D.size).a = B.a from rfl, show (onB B.a B.n D.size).n = B.n from rfl, e1, hhd]
      rfl
    rw [hn1, e2]
    cases hx : headV Lo B.n 1 with
    | none => rfl
    | some y =>
      obtain ⟨g, q⟩ := y
      have hg1 := hot (g, q) hx
      simp only at hg1
      have hs := sgt_down (g := g) (by omega)
      unfold nstep
      simp only
      rw [if_neg]
      show ¬ (!true || sgt g B.gen) = true
      rw [← hg1, hs]; decide
  · have e' : (B.gen + 1) % 2 = 0 := by omega
    rw [e] at e1 hhd
    rw [e'] at e2 hot
    have hn1 : ∃ Y, newV (onB B.a B.n D.size) D 1 = Y ∧ SameB (onB B.a B.n D.size) Y.1 ∧ (Y.2 = true → Y.1.gen + 1 = B.gen) := by
      refine ⟨_, rfl, newV_same _ _ _, ?_⟩
      unfold newV newV
      rw [show (onB B.a B.n D.size).a = B.a from rfl, show (onB B.a B.n D.size).n = B.n from rfl, e2]
      cases hx : headV Lo B.n 0 with
      | none => intro h; cases h
      | some y =>
        obtain ⟨g, q⟩ := y
        intro _
        exact hot (g, q) hx
    obtain ⟨Y, hY, hs, hgen⟩ := hn1
    rw [hY, e1, hhd]
    unfold nstep
    simp only
    rw [if_pos]
    · congr 1
      obtain ⟨s1, s2, s3, s4, s5⟩ := hs
      obtain ⟨⟨a, n, z, g, p, sec, ch⟩, fd⟩ := Y
      simp only at s1 s2 s3 s4 s5 ⊢
      rw [s1, s2, s3, s4, s5]
    · cases hf : Y.2 with
      | false => rfl
      | true =>
        have hgg := hgen hf
        rw [← hgg, sgt_up]; rfl
theorem tabB_lies {D : DiskV} {B : BookV} {vals : List (List UInt8)} (h : Lies D.kept B vals) (hp : D.pend = []) (ho : D.off = false) : ∀ i, i ≤ B.T → tabB B D i = (List.range i).flatMap (chunkL (tabL B.second (B.T * B.size)) B.size)
  | 0, _ => rfl
  | i + 1, hi => by
    rw [tabB_succ, tabB_lies h hp ho i (by omega), readL_at hp ho (h.tabs i (by omega)), List.range_succ, List.flatMap_append]
    simp
theorem bits_lies {D : DiskV} {B : BookV} {vals : List (List UInt8)} (h : Lies D.kept B vals) (hp : D.pend = []) (ho : D.off = false) : bitsL (tabB B D B.T) B.pages = B.second := by
  have hge : B.pages ≤ 8 * (B.T * B.size) := tabN_ge h.f.z
  rw [tabB_lies h hp ho B.T (Nat.le_refl _), chunks_all B.T (by rw [tabL_len]; exact Nat.le_refl _), List.take_of_length_le (by rw [tabL_len]; exact Nat.le_refl _)]
  unfold bitsL
  refine List.ext_getElem? fun i => ?_
  by_cases hi : i < B.pages
  · rw [List.getElem?_map, List.getElem?_range hi, Option.map_some, bitAt_tabL _ (by omega)]
    have hl : i < B.second.length := by rw [h.f.slen]; exact hi
    unfold boolF
    rw [List.getElem?_eq_getElem hl]; rfl
  · rw [List.getElem?_eq_none (by simp; omega), List.getElem?_eq_none (by rw [h.f.slen]; omega)]
/-- Open finds the book -/
theorem open_lies {D : DiskV} {B : BookV} {vals : List (List UInt8)} (h : Lies D.kept B vals) (hp : D.pend = []) (ho : D.off = false) (hg : B.gen < 18446744073709551616) (hz : D.size = B.size) :
    (newestV (onB B.a B.n D.size) D).2 = true ∧ fitsN B.n (openN D B.a B.n).pages ∧ openB D B.a B.n = { B with changed := [] } := by
  have hN := newest_lies h hp ho hg hz
  have e : openN D B.a B.n = { onB B.a B.n D.size with gen := B.gen, pages := B.pages } := by unfold openN; rw [hN]
  refine ⟨by rw [hN], by rw [e]; exact h.f.f, ?_⟩
  unfold openB
  rw [e]
  have hb := bits_lies h hp ho
  have e3 : ({ onB B.a B.n D.size with gen := B.gen, pages := B.pages } : BookV) = ⟨B.a, B.n, B.size, B.gen, B.pages, [], []⟩ := by rw [hz]; rfl
  rw [e3]
  have e4 : tabB (⟨B.a, B.n, B.size, B.gen, B.pages, [], []⟩ : BookV) D (⟨B.a, B.n, B.size, B.gen, B.pages, [], []⟩ : BookV).T = tabB B D B.T := rfl
  simp only
  rw [e4, hb]
def curV (B : BookV) (vals : List (List UInt8)) : List (List UInt8) := vals.mapIdx fun p v => match B.changed.find? (fun x => decide (x.1 = p)) with | some x => x.2 | none => v
theorem curV_len (B : BookV) (vals : List (List UInt8)) : (curV B vals).length = vals.length := by simp [curV]
theorem curV_get (B : BookV) (vals : List (List UInt8)) (p : Nat) : (curV B vals)[p]? = (vals[p]?).map fun v => match B.changed.find? (fun x => decide (x.1 = p)) with | some x => x.2 | none => v := by simp [curV]
theorem read_lies {D : DiskV} {B : BookV} {vals : List (List UInt8)} (h : Lies D.kept B vals) (hp : D.pend = []) (ho : D.off = false) {p : Nat} (hpp : p < B.pages) : (curV B vals)[p]? = some (readPg B D p) := by
  obtain ⟨v, hv⟩ : ∃ v, vals[p]? = some v := ⟨_, List.getElem?_eq_getElem (by rw [h.vlen]; exact hpp)⟩
  obtain ⟨s, hs⟩ : ∃ s, B.second[p]? = some s := ⟨_, List.getElem?_eq_getElem (by rw [h.f.slen]; exact hpp)⟩
  obtain ⟨L, hL, e⟩ := h.page p v s hv hs
  rw [curV_get, hv, Option.map_some]
  unfold readPg
  congr 1
  have hb : boolF B.second p = s := by unfold boolF; rw [hs]; rfl
  rw [hb, readL_at hp ho hL, e]
  all_goals (cases B.changed.find? (fun x => decide (x.1 = p)) <;> rfl)
end Go.Proofs.YtnddaildicmneaaGreat
/-
  pages: plain words: a commit is whole; what Format leaves.
-/
namespace Go.Proofs.YtnddaildicmneaaGreat
open Go.RowKit

/-- what is changed is in order -/
structure ChOk (B : BookV) : Prop where
  nd : (B.changed.map (·.1)).Nodup
  rng : ∀ x ∈ B.changed, x.1 < B.pages
  len : ∀ x ∈ B.changed, x.2.length = B.size - 16
theorem find_key {l : List (Nat × List UInt8)} (hn : (l.map (·.1)).Nodup) {p : Nat} {L : List UInt8} (h : (p, L) ∈ l) : l.find? (fun x => decide (x.1 = p)) = some (p, L) := by
  induction l with
  | nil => cases h
  | cons y l ih =>
    rw [List.map_cons, List.nodup_cons] at hn
    rw [List.find?_cons]
    by_cases e : y.1 = p
    · rw [decide_eq_true e]
      rcases List.mem_cons.1 h with h | h
      · rw [h]
      · exact absurd (List.mem_map.2 ⟨_, h, e.symm⟩) hn.1
    · rw [decide_eq_false e]
      rcases List.mem_cons.1 h with h | h
      · rw [← h] at e; exact absurd rfl e
      · exact ih hn.2 h
theorem find_no {l : List (Nat × List UInt8)} {p : Nat} (h : p ∉ l.map (·.1)) : l.find? (fun x => decide (x.1 = p)) = none := by
  rw [List.find?_eq_none]
  intro x hx
  simp only [decide_eq_true_eq]
  exact fun e => h (List.mem_map.2 ⟨x, hx, e⟩)
theorem ChOk.put {B : BookV} (h : ChOk B) {p : Nat} {L : List UInt8} (hp : p < B.pages) (hl : L.length = B.size - 16) : ChOk { B with changed := putC B.changed p L } := by
  refine ⟨?_, fun x hx => ?_, fun x hx => ?_⟩
  · show ((putC B.changed p L).map (·.1)).Nodup
    unfold putC
    rw [List.map_append]
    refine List.nodup_append.2 ⟨h.nd.sublist ((List.filter_sublist).map _), by simp, ?_⟩
    intro a ha b hb e
    obtain ⟨x, hx, rfl⟩ := List.mem_map.1 ha
    have h2 := (List.mem_filter.1 hx).2
    simp at h2 hb
    exact h2 (e.trans hb)
  · rcases List.mem_append.1 hx with hx | hx
    · exact h.rng x (List.mem_filter.1 hx).1
    · rw [List.mem_singleton.1 hx]; exact hp
  · rcases List.mem_append.1 hx with hx | hx
    · exact h.len x (List.mem_filter.1 hx).1
    · rw [List.mem_singleton.1 hx]; exact hl
theorem find_putC (l : List (Nat × List UInt8)) (p q : Nat) (L : List UInt8) : (putC l p L).find? (fun x => decide (x.1 = q)) = if p = q then some (p, L) else l.find? (fun x => decide (x.1 = q)) := by
  unfold putC
  rw [List.find?_append, List.find?_filter]
  by_cases e : p = q
  · subst e
    rw [if_pos rfl]
    have : ∀ f : (Nat × List UInt8) → Bool, (∀ x, f x = false) → l.find? f = none := fun f hf => by
      rw [List.find?_eq_none]
      intro x _
      simp [hf x]
    rw [this _ (fun x => by by_cases h : x.1 = p <;> simp [h])]
    simp
  · rw [if_neg e]
    have h1 : ([(p, L)] : List (Nat × List UInt8)).find? (fun x => decide (x.1 = q)) = none := by simp [e]
    rw [h1, Option.or_none]
    congr 1
    funext x
    by_cases h : x.1 = q
    · have : ¬ x.1 = p := fun e2 => e (e2.symm.trans h)
      simp [h]
      exact fun e3 => e e3.symm
    · simp [h]
theorem curV_put {B : BookV} {vals : List (List UInt8)} {p : Nat} {L : List UInt8} : curV { B with changed := putC B.changed p L } vals = (curV B vals).set p L := by
  refine List.ext_getElem? fun i => ?_
  rw [curV_get]
  by_cases e : p = i
  · subst e
    by_cases hi : p < vals.length
    · rw [List.getElem?_set_self (by rw [curV_len]; exact hi), List.getElem?_eq_getElem hi, Option.map_some]
      rw [find_putC, if_pos rfl]
    · rw [List.getElem?_eq_none (by omega), List.getElem?_eq_none (by simp [curV_len]; omega)]; rfl
  · rw [List.getElem?_set_ne e, curV_get]
    rw [find_putC, if_neg e]
theorem curV_nil {B : BookV} {vals : List (List UInt8)} (h : B.changed = []) : curV B vals = vals := by
  refine List.ext_getElem? fun i => ?_
  rw [curV_get, h]
  cases vals[i]? <;> rfl
theorem lookL_of {B : BookV} (h : ChOk B) {p : Nat} {L : List UInt8} (hm : (p, L) ∈ B.changed) : lookL B.changed p = L := by
  unfold lookL
  rw [find_key h.nd hm]; rfl
/-- a commit on a disk that works -/
theorem commit_lies {D : DiskV} {B : BookV} {vals : List (List UInt8)} (h : Lies D.kept B vals) (hw : Works D) (hp : D.pend = []) (hz : D.size = B.size) (hg : B.gen + 1 < 18446744073709551616) (hc : ChOk B) :
    ((commitR B D).1 = 0 ∧ Laid D (wsOf B (nextL B) (ksOf B.changed) (lookL B.changed)) (hdOf B) (commitR B D).2 ∧ Lies (commitR B D).2.kept (commitB B D) (curV B vals)) ∨
    ((commitR B D).1 = 22 ∧ Fell D (wsOf B (nextL B) (ksOf B.changed) (lookL B.changed)) (commitR B D).2 ∧ commitB B D = B ∧ Lies (commitR B D).2.kept B vals) := by
  have hks : ∀ p ∈ ksOf B.changed, p < B.pages := fun p hp => by
    obtain ⟨L, hL⟩ := ks_mem.1 hp
    exact hc.rng _ hL
  have hnd : (ksOf B.changed).Nodup := (ks_perm _).nodup_iff.2 hc.nd
  have hrn := h.f.rng
  have hrr : ∀ x ∈ wsOf B (nextL B) (ksOf B.changed) (lookL B.changed), x.1 < D.kept.length ∧ x.2.length = D.size := fun x hx => by
    have := ws_rng h.f hks hx
    exact ⟨by omega, by rw [hz]; exact this.2.2⟩
  have hpl := h.f.places
  have hhd : (hdOf B).1 < D.kept.length := by show B.a + (B.gen + 1) % 2 < _; omega
  have hhl : (hdOf B).2.length = D.size := by rw [hz]; exact padL_len _ _
  rcases lay_ends hw hp hrr hhd hhl with ⟨e, q⟩ | ⟨e, q⟩
  · refine .inl ⟨e, q, ?_⟩
    have e' : (commitR B D).1 = 0 := e
    unfold commitB
    rw [if_pos e']
    change Lies (D.layV _ _).2.kept _ _
    rw [q.kept]
    have hmem : ∀ p, p ∈ ksOf B.changed ↔ p ∈ B.changed.map (·.1) := fun p => (ks_perm _).mem_iff
    refine laid_lies h.f h.len hks hnd (by rw [nextL_len]; exact h.f.slen) hg ?_ (curV B vals) (by rw [curV_len]; exact h.vlen) ?_ ?_ []
    · intro L hL x hx
      rw [h.head] at hL
      have hL := Option.some.inj hL
      rw [← hL, headV_head (by omega) h.f.f h.f.z] at hx
      rw [← Option.some.inj hx]
    · intro p v hpk hv
      obtain ⟨L, hL⟩ := ks_mem.1 hpk
      rw [lookL_of hc hL]
      have hl := hc.len _ hL
      rw [padL_take hl (by omega)]
      rw [curV_get] at hv
      obtain ⟨v0, -, e2⟩ := Option.map_eq_some_iff.1 hv
      rw [find_key hc.nd hL] at e2
      exact e2
    · intro p v s hpk hv hs
      rw [hmem] at hpk
      rw [curV_get] at hv
      obtain ⟨v0, hv0, e2⟩ := Option.map_eq_some_iff.1 hv
      rw [find_no hpk] at e2
      simp only at e2
      unfold nextL at hs
      rw [flipL_get] at hs
      obtain ⟨s0, hs0, e3⟩ := Option.map_eq_some_iff.1 hs
      rw [decide_eq_false hpk] at e3
      have e4 : s0 = s := by simpa using e3
      rw [← e2]
      exact h.page p v0 s hv0 (by rw [hs0, e4])
  · refine .inr ⟨e, q, ?_, ?_⟩
    · unfold commitB
      rw [if_neg]
      show ¬ (D.layV _ _).1 = 0
      omega
    · obtain ⟨i, kf, hi, ek⟩ := q.kept
      rw [hp] at ek
      show Lies (D.layV _ _).2.kept B vals
      rw [ek]
      refine fell_lies h hks (fun p hpk s hs => ?_) kf _
      unfold boolF nextL
      rw [flipL_get, hs, Option.map_some, Option.getD_some, decide_eq_true ((ks_perm _).mem_iff.1 hpk)]
      cases s <;> decide
theorem commit_beside {D : DiskV} {B : BookV} {vals : List (List UInt8)} (h : Lies D.kept B vals) (hw : Works D) (hp : D.pend = []) (hz : D.size = B.size) (hc : ChOk B) {x : Nat} (hx : x < B.a ∨ B.a + B.n ≤ x) : (commitR B D).2.kept[x]? = D.kept[x]? := by
  have hks : ∀ p ∈ ksOf B.changed, p < B.pages := fun p hp => by
    obtain ⟨L, hL⟩ := ks_mem.1 hp
    exact hc.rng _ hL
  have hrn := h.f.rng
  have hrr : ∀ x ∈ wsOf B (nextL B) (ksOf B.changed) (lookL B.changed), x.1 < D.kept.length ∧ x.2.length = D.size := fun x hx => by
    have := ws_rng h.f hks hx
    exact ⟨by omega, by rw [hz]; exact this.2.2⟩
  have hpl := h.f.places
  have hh1 : (hdOf B).1 = B.a + (B.gen + 1) % 2 := rfl
  have hhl : (hdOf B).2.length = D.size := by rw [hz]; exact padL_len _ _
  rcases lay_ends hw hp hrr (by rw [hh1]; omega) hhl with ⟨e, q⟩ | ⟨e, q⟩
  · show (D.layV _ _).2.kept[x]? = _
    rw [q.kept, List.getElem?_set_ne (by rw [hh1]; omega)]
    exact ws_beside h.f hks _ _ hx
  · obtain ⟨i, kf, hi, ek⟩ := q.kept
    rw [hp] at ek
    show (D.layV _ _).2.kept[x]? = _
    rw [ek]
    exact ws_beside h.f hks _ _ hx
end Go.Proofs.YtnddaildicmneaaGreat
