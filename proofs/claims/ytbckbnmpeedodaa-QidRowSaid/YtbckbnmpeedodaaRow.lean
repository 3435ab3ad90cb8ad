/-
  loggialaw3.QidRow: the walk.
-/
import Derived.Test.YtbckbnmpeedodaaKnown3
import Derived.Test.YtbckbnmpeedodaaRegion
import Derived.Deep.LoopGhost
namespace Go.Proofs.Ytbckbnmpeedodaa
open Go.RowKit

/-- A slice of qids that came in. -/
def QArr (w : World) (A : Option Addr) (qs : List Q) : Prop :=
  (∀ q ∈ qs, q.ok) ∧ (0 < qs.length → ∃ b off, A = some ⟨b, off, none⟩ ∧ b < w.heap.size ∧ ∀ i q, qs[i]? = some q →
    w.cell? ⟨b, off + i * 3, none⟩ = some (.int .u8 q.t) ∧ w.cell? ⟨b, off + i * 3 + 1, none⟩ = some (.int .u32 q.v) ∧ w.cell? ⟨b, off + i * 3 + 2, none⟩ = some (.int .u64 q.p))

/-- their bytes, one behind the other -/
def qsBytes (qs : List Q) : List UInt8 := qs.flatMap Q.bytes
theorem qsBytes_len (qs : List Q) : (qsBytes qs).length = 13 * qs.length := by
  induction qs with
  | nil => rfl
  | cons q qs ih => simp only [qsBytes, List.flatMap_cons, List.length_append, Q.bytes_len, List.length_cons] at ih ⊢; omega
theorem qsBytes_take (qs : List Q) (k : Nat) (q : Q) (h : qs[k]? = some q) : qsBytes (qs.take (k + 1)) = qsBytes (qs.take k) ++ q.bytes := by
  obtain ⟨hk, rfl⟩ := List.getElem?_eq_some_iff.1 h
  unfold qsBytes
  rw [List.take_succ_eq_append_getElem hk, List.flatMap_append, List.flatMap_cons, List.flatMap_nil, List.append_nil]
theorem qsBytes_drop (qs : List Q) (k : Nat) (q : Q) (h : qs[k]? = some q) : qsBytes (qs.drop k) = q.bytes ++ qsBytes (qs.drop (k + 1)) := by
  obtain ⟨hk, rfl⟩ := List.getElem?_eq_some_iff.1 h
  unfold qsBytes
  rw [List.drop_eq_getElem_cons hk, List.flatMap_cons]

set_option maxHeartbeats 2000000 in
theorem row_long (A : Option Addr) (n c : Nat) (hn : 60 < n) (hm : n ≤ 9223372036854775807) (w : World) : Calls Try.prog 10 #[.slice A n c] w (Yes w) := by
  go_enter Try.func10, Try.ntmps10
  go_wp2_with fail
  refine (known3 _).mono ?_
  rintro e w0 ⟨rfl, hk0⟩
  have Hk0 := Lib.hid hk0
  clear hk0
  go_wp2_with fail
  go_ret
  exact ⟨rfl, Hk0.out⟩

set_option maxHeartbeats 2000000 in
theorem row_walk (A : Option Addr) (qs : List Q) (c : Nat) (hn : qs.length ≤ 60) (w : World) (hA : QArr w A qs) : Calls Try.prog 10 #[.slice A qs.length c] w (Yes w) := by
  obtain ⟨hok, hcells⟩ := hA
  have hlen60 : ¬ (60 : Int) < qs.length := by omega
  have hd60 : decide ((60 : Int) < qs.length) = false := by simp; omega
  have Hok := Lib.hid hok
  have Hcells := Lib.hid hcells
  clear hok hcells
  go_enter Try.func10, Try.ntmps10
  go_wp2_with fail
  refine (known3 _).mono ?_
  rintro e w1 ⟨rfl, hk1⟩
  have ho1 := OutAt.new w1
  have hk1' := hk1.alloc (.cells #[.slice none 0 0] 30)
  have hs1 := hk1.size
  clear hk1
  have Ho1 := Lib.hid ho1
  have Hk1' := Lib.hid hk1'
  clear ho1 hk1'
  go_wp2_with fail
  go_loopw [4] (fun i wr => ∃ (k : Nat) (g : Option Nat), k ≤ qs.length ∧ i = .int .i64 k ∧ OutAt wr w1.heap.size g (qsBytes (qs.take k)) ∧ Above w.heap.size g ∧ Keeps nowhere w wr) (fun i _ => qs.length - (intOf i).toNat)
  case atStart => exact ⟨0, none, Nat.zero_le _, rfl, by simpa [qsBytes] using Ho1.out, Above.none _, Hk1'.out⟩
  case round =>
    obtain ⟨k, g, hk, rfl, ho, hg, hkp⟩ := hrel
    by_cases hlt : k < qs.length
    · obtain ⟨b, off, rfl, hb, hc⟩ := Hcells.out (by omega)
      obtain ⟨q, hq⟩ : ∃ q, qs[k]? = some q := ⟨qs[k], List.getElem?_eq_getElem hlt⟩
      obtain ⟨c0, c1, c2⟩ := hc k q hq
      have hqok := Hok.out q (List.mem_of_getElem? hq)
      have d0 := (hkp.cell (p := ⟨b, off + k * 3, none⟩) hb (fun h => h)).trans c0
      have d1 := (hkp.cell (p := ⟨b, off + k * 3 + 1, none⟩) hb (fun h => h)).trans c1
      have d2 := (hkp.cell (p := ⟨b, off + k * 3 + 2, none⟩) hb (fun h => h)).trans c2
      have hbl : (qsBytes (qs.take k)).length ≤ 800 := by rw [qsBytes_len]; simp; omega
      have hi0 : (0 : Int) ≤ (k : Int) := by omega
      have hi1 : (k : Int) < qs.length := by omega
      clear c0 c1 c2 hc
      have Ho := Lib.hid ho
      have Hg := Lib.hid hg
      have Hkp := Lib.hid hkp
      have Hq := Lib.hid hq
      have Hqok := Lib.hid hqok
      clear ho hg hkp hq hqok
      go_wp2_with fail
      refine (qid_put _ _ _ q Hqok.out _ Ho.out (by omega)).mono ?_
      rintro e w2 ⟨rfl, g2, ho2, hg2, hk2⟩
      have hsb := qsBytes_take qs k q Hq.out
      rw [← hsb] at ho2
      have hg2' := Hg.out.of_from hg2 Hkp.out.size
      have hk2' := Hkp.out.fresh2 hk2 hs1 Hg.out
      clear hg2 hk2 hsb
      have Ho2 := Lib.hid ho2
      have Hg2' := Lib.hid hg2'
      have Hk2' := Lib.hid hk2'
      clear ho2 hg2' hk2'
      go_wp2_with fail
      go_roundw
      case rel => exact ⟨k + 1, g2, by omega, by go_num, Ho2.out, Hg2'.out, Hk2'.out⟩
      case measure => simp [intOf]; omega
    · obtain rfl : k = qs.length := by omega
      rw [List.take_length] at ho
      have hbl := qsBytes_len qs
      have Ho := Lib.hid ho
      have Hg := Lib.hid hg
      have Hkp := Lib.hid hkp
      have Hbl := Lib.hid hbl
      clear ho hg hkp hbl
      go_wp2_with fail
      refine (out_bytes _ _ _ _ Ho.out (by rw [Hbl.out]; omega)).mono ?_
      rintro e w2 ⟨v2, g2, rfl, hr2, hg2, hk2⟩
      obtain ⟨A2, c2, rfl, _⟩ := hr2.form
      have hl2 : ((qsBytes qs).map bv).length = 13 * qs.length := by rw [List.length_map, Hbl.out]
      rw [hl2]
      rw [hl2] at hr2
      have hk2' := Hkp.out.more hk2
      clear hk2 hg2 hl2
      have Hr2 := Lib.hid hr2
      have Hk2' := Lib.hid hk2'
      clear hr2 hk2'
      go_wp2_with fail
      refine (in_of _ _ _ _ Hr2.out (by rw [Hbl.out]; omega)).mono ?_
      rintro e w3 ⟨p3, g3, rfl, hi3, hp3, hg3, hk3⟩
      have hk3' := Hk2'.out.more hk3
      have hpw : Hid (w.heap.size ≤ p3) := Nat.le_trans Hk2'.out.size hp3
      clear hk3 hp3 hg3
      have Hi3 := Lib.hid hi3
      have Hk3' := Lib.hid hk3'
      clear hi3 hk3'
      go_wp2_with fail
      go_loopw [7] (fun i wr => ∃ k : Nat, k ≤ qs.length ∧ i = .int .i64 k ∧ InAt wr p3 g3 (qsBytes (qs.drop k)) 0 ∧ Keeps nowhere w wr) (fun i _ => qs.length - (intOf i).toNat)
      case atStart => exact ⟨0, Nat.zero_le _, rfl, by simpa using Hi3.out, Hk3'.out⟩
      case round =>
        obtain ⟨k, hk, rfl, hi, hkp⟩ := hrel
        by_cases hlt : k < qs.length
        · obtain ⟨b, off, rfl, hb, hc⟩ := Hcells.out (by omega)
          obtain ⟨q, hq⟩ : ∃ q, qs[k]? = some q := ⟨qs[k], List.getElem?_eq_getElem hlt⟩
          obtain ⟨c0, c1, c2⟩ := hc k q hq
          have hqok := Hok.out q (List.mem_of_getElem? hq)
          have hbp : b ≠ p3 := by have := hpw.out; omega
          have hbl : b < wr.heap.size := Nat.lt_of_lt_of_le hb hkp.size
          have cell0 : ∀ w', Keeps (only p3) wr.drew w' → w'.cell? ⟨b, off + k * 3, none⟩ = some (.int .u8 q.t) := fun w' hs => (hs.cell (p := ⟨b, off + k * 3, none⟩) hbl hbp).trans ((hkp.cell (p := ⟨b, off + k * 3, none⟩) hb (fun h => h)).trans c0)
          have cell1 : ∀ w', Keeps (only p3) wr.drew w' → w'.cell? ⟨b, off + k * 3 + 1, none⟩ = some (.int .u32 q.v) := fun w' hs => (hs.cell (p := ⟨b, off + k * 3 + 1, none⟩) hbl hbp).trans ((hkp.cell (p := ⟨b, off + k * 3 + 1, none⟩) hb (fun h => h)).trans c1)
          have cell2 : ∀ w', Keeps (only p3) wr.drew w' → w'.cell? ⟨b, off + k * 3 + 2, none⟩ = some (.int .u64 q.p) := fun w' hs => (hs.cell (p := ⟨b, off + k * 3 + 2, none⟩) hbl hbp).trans ((hkp.cell (p := ⟨b, off + k * 3 + 2, none⟩) hb (fun h => h)).trans c2)
          have hi0 : (0 : Int) ≤ (k : Int) := by omega
          have hi1 : (k : Int) < qs.length := by omega
          have hsb := qsBytes_drop qs k q hq
          rw [hsb] at hi
          clear c0 c1 c2 hc hsb
          have Hi := Lib.hid hi
          have Hkp := Lib.hid hkp
          have Hq := Lib.hid hq
          have Hqok := Lib.hid hqok
          have Cell0 := Lib.hid cell0
          have Cell1 := Lib.hid cell1
          have Cell2 := Lib.hid cell2
          clear hi hkp hq hqok cell0 cell1 cell2
          go_wp2_with fail
          refine wp_region_script [0, 2, 3, 4, 5, 6] [5] [.ps [0, 2, 3, 4], .fs [5], .es [1] true, .ps [6]] (Keeps (only p3) wr.drew) rfl (by kernel_rfl) ?_
          refine wpS_ps rfl fun K hK => ?_
          simp only [List.map_cons, List.map_nil, Option.getD_some, List.getElem?_toArray, List.getElem?_cons_zero, List.getElem?_cons_succ]
          iterate 4 (first | (apply quietO_cons _ rfl; (intro w' _; go_simp; rfl)) | apply quietO_skip rfl)
          refine hK _ ?_
          clear hK K
          simp only [Act.put, List.setIfInBounds_toArray, List.set_cons_zero, List.set_cons_succ]
          refine wpS_fs rfl (Keeps.refl _ _) fun K hK => ?_
          simp only [List.map_cons, List.map_nil, Option.getD_some, List.getElem?_toArray, List.getElem?_cons_zero, List.getElem?_cons_succ]
          iterate 1 (first | (apply quietO_cons _ rfl; (intro w' hs; have c_0 := Cell0.out w' hs; have c_1 := Cell1.out w' hs; have c_2 := Cell2.out w' hs; go_simp; rfl)) | apply quietO_skip rfl)
          refine hK _ ?_
          clear hK K
          simp only [Act.put, List.setIfInBounds_toArray, List.set_cons_zero, List.set_cons_succ]
          refine wpS_es rfl fun K hK => ?_
          have HK := Lib.hid hK
          clear hK
          simp only [List.map_cons, List.map_nil, Option.getD_some, List.getElem?_toArray, List.getElem?_cons_zero, List.getElem?_cons_succ]
          go_wp2_with fail
          refine (qid_take _ _ _ _ wr.drew (by exact Hi.out)).mono ?_
          rintro e w4 ⟨he4, hi4, hk4⟩
          rw [qTake_b _ _ Hqok.out] at he4
          rw [qL3_b, qe3_b] at hi4
          subst he4
          have hk4' := Hkp.out.drew.fresh hk4 hpw.out
          simp only [Q.val]
          have Hi4 := Lib.hid hi4
          have Hk4 := Lib.hid hk4
          have Hk4' := Lib.hid hk4'
          clear hi4 hk4 hk4'
          go_wp2_with fail
          refine HK.out _ _ (fun _ => Hk4.out) ?_
          clear HK K
          refine wpS_ps rfl fun K hK => ?_
          simp only [List.map_cons, List.map_nil, Option.getD_some, List.getElem?_toArray, List.getElem?_cons_zero, List.getElem?_cons_succ]
          iterate 1 (first | (apply quietO_cons _ rfl; (intro w' _; go_simp; rfl)) | apply quietO_skip rfl)
          refine hK _ ?_
          clear hK K
          simp only [Act.put, List.setIfInBounds_toArray, List.set_cons_zero, List.set_cons_succ]
          refine wpS_nil ?_
          go_wp2_with fail
          go_roundw
          case rel => exact ⟨k + 1, by omega, by go_num, Hi4.out, Hk4'.out⟩
          case measure => simp [intOf]; omega
        · obtain rfl : k = qs.length := by omega
          rw [List.drop_length] at hi
          have Hi := Lib.hid hi
          have Hkp := Lib.hid hkp
          clear hi hkp
          go_wp2_with fail
          refine (in_left _ _ _ _ _ Hi.out).mono ?_
          rintro e w7 ⟨he7, rfl⟩
          obtain rfl : e = .returned (.int .i64 0) := he7
          go_wp2_with fail
          refine (in_err _ _ _ _ _ Hi.out).mono ?_
          rintro e w7 ⟨rfl, rfl⟩
          go_wp2_with fail
          go_ret
          exact ⟨rfl, Hkp.out⟩
end Go.Proofs.Ytbckbnmpeedodaa
