/-
  disk: Bytes.
-/
import Derived.Test.YtnddaildicmneaaDk13
import Derived.Test.YtnddaildicmneaaCatB
namespace Go.Proofs.Ytnddaildicmneaa
open Go.Proofs Go.RowKit Go.Sort Go.Maps

theorem recB_cells (l : List UInt8) : recB.cells l = l.map bv := by
  unfold RecT.cells
  induction l with
  | nil => rfl
  | cons x l ih => rw [List.flatMap_cons, ih]; rfl
theorem recS_cells (l : List SlV) : recS.cells l = l.map SlV.v := by
  unfold RecT.cells
  induction l with
  | nil => rfl
  | cons x l ih => rw [List.flatMap_cons, ih]; rfl
theorem ownB_row {w : World} {v : Value} {L : List UInt8} : OwnB w v L ↔ recB.Row w v L := by
  unfold OwnB RecT.Row
  rw [recB_cells]; rfl
/-- a row of one-cell records, as a slice that reads -/
theorem row_Rd {α : Type} {R : RecT α} {w : World} {v : Value} {l : List α} (h : R.Row w v l) (h1 : R.n = 1) : Rd w v v.ownBlock (R.cells l) := by
  have hl : (R.cells l).length = l.length := by rw [R.cells_len, h1, Nat.mul_one]
  rcases h.blk with ⟨rfl, rfl⟩ | ⟨b, cap, rest, rfl, hb, -, h2, h3⟩
  · exact .inl ⟨rfl, rfl, rfl⟩
  · refine .inr ⟨⟨b, 0, none⟩, cap, by rw [hl], fun b' e => by cases e; exact hb.lt, fun _ => ⟨rfl, rfl⟩, by rw [hl]; exact h2, h3, fun j u hj => ?_⟩
    rw [Addr.add_lit, Nat.zero_add, hb.cell]
    have hjl := (List.getElem?_eq_some_iff.1 hj).1
    rw [List.getElem?_toArray, List.getElem?_append_left hjl]
    exact hj
section
variable {w : World} {d b : Nat} {kv kp : Value} {ks : List SlV} {vs : List Value} {D : DiskV}
theorem DAt.parts (h : DAt w d b kv kp ks vs D) : Parts w (fun _ => True) (ks.map SlV.v) D.kept := by
  refine ⟨by rw [List.length_map]; exact h.klen, fun i v L hv hL => ?_⟩
  rw [List.getElem?_map] at hv
  cases hs : ks[i]? with
  | none => rw [hs] at hv; cases hv
  | some s =>
    rw [hs] at hv
    injection hv with hv
    subst hv
    have := row_Rd (h.sec i s L hs hL).1 rfl
    rw [recB_cells] at this
    exact ⟨_, this, fun _ _ => trivial⟩
set_option maxHeartbeats 1000000 in
theorem dbytes_any (h : DAt w d b kv kp ks vs D) (hp : 0 < D.kept.length) (hb : D.kept.flatten.length ≤ 100000000) :
    Calls Try.prog 37 #[.pointer (some ⟨d, 0, none⟩)] w fun e w' => ∃ v g, e = .returned v ∧ recB.Rd w' v g D.kept.flatten ∧ Above w.heap.size g ∧ Keeps nowhere w w' := by
  have hr := row_Rd h.kept rfl
  rw [recS_cells] at hr
  have hc := concat_any kv _ (ks.map SlV.v) D.kept (fun _ => True) w hr h.parts (by rw [List.length_map, h.klen]; exact hp) (by unfold tot; omega)
  have c1 := h.cell 1
  obtain ⟨A, c, rfl, -⟩ := h.kept.form
  rw [h.klen] at c1 hc
  obtain ⟨n, hn⟩ : ∃ n, n = D.kept.length := ⟨_, rfl⟩
  simp at c1
  rw [← hn] at c1 hc
  clear hr h
  have Hc := Lib.hid hc
  have Hn := Lib.hid hn
  clear hc hn
  go_enter Try.func37, Try.ntmps37
  go_wp2_with fail
  refine Hc.out.mono ?_
  rintro e w1 ⟨v, rfl, hown, hab, hk⟩
  have hrow := ownB_row.1 hown
  have hcl := clipB_any v _ w1 hrow
  clear hown
  have Hrow := Lib.hid hrow
  have Hab := Lib.hid hab
  have Hk := Lib.hid hk
  have Hcl := Lib.hid hcl
  clear hrow hab hk hcl
  go_wp2_with fail
  refine Hcl.out.mono ?_
  rintro e w2 ⟨v2, g2, rfl, hrd, hg, rfl⟩
  obtain ⟨A2, c2, rfl, -⟩ := id hrd
  obtain ⟨M, hM⟩ : ∃ M, M = D.kept.flatten.length := ⟨_, rfl⟩
  rw [← hM] at hrd ⊢
  have Hrd := Lib.hid hrd
  have Hg := Lib.hid hg
  have HM := Lib.hid hM
  clear hrd hg hM
  go_wp2_with fail
  go_ret
  exact ⟨_, g2, rfl, Hrd.out, fun b hb => Hab.out b (Hg.out b hb), Hk.out⟩
end
end Go.Proofs.Ytnddaildicmneaa
