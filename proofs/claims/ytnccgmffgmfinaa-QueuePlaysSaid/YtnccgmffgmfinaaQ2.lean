/-
  append of jobs; sched's Put.
-/
import Derived.Test.YtnccgmffgmfinaaQ1
import Derived.Maps.AppendAt
import Derived.Laws.AppendOwnNone
import Derived.Deep.AppendLies
namespace Go.Proofs.Ytnccgmffgmfinaa
open Go.RowKit Go.Shelf

theorem infoJob : (Try.prog.info? 45).map (fun i => (i.zero, i.size, i.bytes)) = some (some (.agg #[.int .i64 0, .int .u16 0, .int .u16 0, .bool false]), 4, 16) := by kernel_rfl

theorem JAt.get {w : World} {b a : Nat} {t : J} (h : JAt w b a t) (k : Nat) (hk : k < 4) : w.cell? ⟨b, a + k, none⟩ = t.cs[k]? := by
  obtain ⟨h0, h1, h2, h3⟩ := h
  rcases (by omega : k = 0 ∨ k = 1 ∨ k = 2 ∨ k = 3) with rfl | rfl | rfl | rfl
  · exact h0
  · exact h1
  · exact h2
  · exact h3
theorem cellsJ_at {l : List J} {j : Nat} {u : Value} (h : (cellsJ l)[j]? = some u) : ∃ t, l[j / 4]? = some t ∧ t.cs[j % 4]? = some u := by
  have hj : j < l.length * 4 := by have := (List.getElem?_eq_some_iff.1 h).1; rwa [cellsJ_len] at this
  obtain ⟨t, ht⟩ : ∃ t, l[j / 4]? = some t := ⟨_, List.getElem?_eq_getElem (by omega)⟩
  refine ⟨t, ht, ?_⟩
  rw [← cellsJ_get l (j / 4) t ht (j % 4) (Nat.mod_lt _ (by omega)), show j / 4 * 4 + j % 4 = j by omega]
  exact h
theorem JRd.cells {w : World} {b off cap : Nat} {g : Option Nat} {l : List J} (h : JRd w (.slice (some ⟨b, off, none⟩) l.length cap) g l) : ∀ j u, (cellsJ l)[j]? = some u → w.cell? ((⟨b, off, none⟩ : Addr).add j) = some u := by
  intro j u hj
  obtain ⟨t, ht, hu⟩ := cellsJ_at hj
  have hp : 0 < l.length := pos_of_get ht
  obtain ⟨A, cap', hv, _, _, _, h3⟩ := h
  obtain ⟨b', off', hA, _, hc⟩ := h3.1 hp
  injection hv with ha hn hc'
  subst ha
  injection hA with hA
  injection hA with hb ho
  subst hb ho
  have := (hc _ t ht).get (j % 4) (Nat.mod_lt _ (by omega))
  rw [Addr.add_lit, ← hu, ← this]
  congr 2; omega

section
variable {P : Program} {w : World}
theorem run_append_jobs (ty : TypeId) (v : Value) (l : List J) (hown : JRow w v l) (vx : Value) (gx : Option Nat) (m : List J) (hr : JRd w vx gx m) (hb : l.length + m.length ≤ 1000000) :
    ∃ v' w', (Builtin.append_ #[42, 42] ty #[v, vx]).run Try.prog w = .ok v' w' ∧ JRow w' v' (l ++ m) ∧ w.grownBy w' v.ownBlock ∧ From v.ownBlock w.heap.size v'.ownBlock := by
  obtain ⟨i0, hi, hz0, hz1, hz2⟩ := info_parts infoJob
  by_cases hm : m = []
  · subst hm
    obtain ⟨A, cap, rfl, h1, h2, _, h3⟩ := hr
    cases A with
    | none =>
      obtain rfl : cap = 0 := by obtain ⟨-, h⟩ := h3; exact h rfl
      refine ⟨v, w, run_append_owned_none (P := Try.prog) (w := w) 0 42 ty 45 i0 4 Try.underlying42 hi v l.length (cellsJ l) hown, by rw [List.append_nil]; exact hown, World.grownBy.refl w _, From.refl _ _⟩
    | some a =>
      obtain ⟨v', w', hrun, h2, h3, _, h5⟩ := run_append_own_at (P := Try.prog) w 0 42 ty 45 i0 _ 4 16 Try.underlying42 hi hz0 hz1 hz2 rfl (by decide) v l.length (cellsJ l) hown a 0 cap [] (by simp)
        (fun j u hj => by simp at hj) (fun u hu => by simp at hu) (by unfold maxLen; omega) (by simp at hb; omega) (Nat.zero_le _)
      refine ⟨v', w', hrun, by simpa [JRow] using h2, h3, fun b hb => h5.elim (fun e => .inl (by rw [← e, hb])) (fun e => .inr (by rw [hb] at e; injection e with e; omega))⟩
  · have hp : 0 < m.length := List.length_pos_iff.2 hm
    have hr' := hr
    obtain ⟨A, cap, rfl, h1, h2, _, h3, _⟩ := hr
    obtain ⟨b, off, rfl, _, _⟩ := h3 hp
    obtain ⟨v', w', hrun, h2, h3, _, h5⟩ := run_append_own_at (P := Try.prog) w 0 42 ty 45 i0 _ 4 16 Try.underlying42 hi hz0 hz1 hz2 rfl (by decide) v l.length (cellsJ l) hown ⟨b, off, none⟩ m.length cap (cellsJ m) (cellsJ_len m)
      hr'.cells (cellsJ_one m) (by unfold maxLen; omega) (by omega) (Nat.zero_le _)
    refine ⟨v', w', hrun, ?_, h3, fun b hb => h5.elim (fun e => .inl (by rw [← e, hb])) (fun e => .inr (by rw [hb] at e; injection e with e; omega))⟩
    unfold JRow
    rw [cellsJ_app, List.length_append]
    exact h2

variable {ops : Array Oper} {rest : List Oper} {o : Oper} {a : Act} {Q : Exit → Act → World → Prop}
theorem wpList_append_jobs (hgd : o.guard = none) (s x : Operand) (ho : o.op = .call { callee := .builtin .append, args := #[s, x], argTypes := #[42, 42] })
    (v : Value) (l : List J) (hs : a.eval s = v) (hown : JRow w v l) (vx : Value) (gx : Option Nat) (m : List J) (hx : a.eval x = vx) (hr : JRd w vx gx m) (hb : l.length + m.length ≤ 1000000)
    (h : ∀ v' w', JRow w' v' (l ++ m) → Keeps (fun b => v.ownBlock = some b) w w' → From v.ownBlock w.heap.size v'.ownBlock → wpList Try.prog ops Q rest (a.put o.dst v') w') : wpList Try.prog ops Q (o :: rest) a w :=
  wpList_plain hgd fun K hK => by
    obtain ⟨v', w', hrun, h2, h3, h4⟩ := run_append_jobs (w := w) o.type v l hown vx gx m hr hb
    unfold Oper.wp execOp
    simp only [ho, resolve, invoke, builtin, Sem.run_bind, Sem.run_pure, Result.andThen_ok, List.map_toArray, List.map_cons, List.map_nil, hs, hx, hrun]
    exact hK _ _ (h v' w' h2 ((Keeps.refl _ w).grown h3 (fun _ h _ => h)) h4)
theorem step_append_jobs {K : Act → World → Prop} {E : Prop} (hgd : o.guard = none) (s x : Operand) (ho : o.op = .call { callee := .builtin .append, args := #[s, x], argTypes := #[42, 42] })
    (v : Value) (l : List J) (hs : a.eval s = v) (hown : JRow w v l) (vx : Value) (gx : Option Nat) (m : List J) (hx : a.eval x = vx) (hr : JRd w vx gx m) (hb : l.length + m.length ≤ 1000000)
    (h : ∀ v' w', JRow w' v' (l ++ m) → Keeps (fun b => v.ownBlock = some b) w w' → From v.ownBlock w.heap.size v'.ownBlock → K (a.put o.dst v') w') :
    if Region.wanted o (yielded ops a.tmps) = true then Oper.wp Try.prog o a w K Q else E := by
  have hw : Region.wanted o (yielded ops a.tmps) = true := by simp [Region.wanted, hgd]
  rw [if_pos hw]
  obtain ⟨v', w', hrun, h2, h3, h4⟩ := run_append_jobs (w := w) o.type v l hown vx gx m hr hb
  unfold Oper.wp execOp
  simp only [ho, resolve, invoke, builtin, Sem.run_bind, Sem.run_pure, Result.andThen_ok, List.map_toArray, List.map_cons, List.map_nil, hs, hx, hrun]
  exact h v' w' h2 ((Keeps.refl _ w).grown h3 (fun _ h _ => h)) h4
end

/-- one job in a block of its own, as buildSlice lays it -/
theorem jrd_one (w : World) (j : J) : JRd (w.alloc (.cells #[.int .i64 j.c, .int .u16 j.t, .int .u16 j.o, .bool j.s] 45)) (.slice (some ⟨w.heap.size, 0, none⟩) 1 1) (some w.heap.size) [j] := by
  have h := Blk.new w 45 #[.int .i64 j.c, .int .u16 j.t, .int .u16 j.o, .bool j.s]
  refine ⟨_, 1, rfl, Nat.le_refl _, by decide, fun b hb => (by cases hb; exact h.lt), fun _ => ⟨w.heap.size, 0, rfl, rfl, fun i t hi => ?_⟩, fun h => by cases h⟩
  have : i = 0 := by have := (List.getElem?_eq_some_iff.1 hi).1; simp at this; exact this
  subst this
  simp at hi
  subst hi
  exact ⟨by simp, by simp, by simp, by simp⟩

/-- what Put answers, what the queue holds behind it -/
def putE (l : List J) (j : J) : Int := if 512 ≤ l.length then 14 else if l.any (isJ j.c j.t) then 7 else 0
def putL (l : List J) (j : J) : List J := if putE l j = 0 then l ++ [j] else l
def RetPut (p : Nat) (g : Option Nat) (l : List J) (j : J) (w : World) : Ending → World → Prop := fun e w' =>
  e = .returned (.int .i64 (putE l j)) ∧ ∃ g', QAt w' p g' (putL l j) ∧ Keeps (only2 p g) w w' ∧ From g w.heap.size g'

set_option maxHeartbeats 1000000 in
theorem qput_no (w : World) (p : Nat) (g : Option Nat) (l : List J) (j : J) (h : QAt w p g l) (hl : l.length ≤ 512) (hC : 512 ≤ l.length ∨ (¬ 512 ≤ l.length ∧ l.any (isJ j.c j.t) = true)) :
    Calls Try.prog 23 #[qp p, j.v] w (RetPut p g l j w) := by
  have hk := (Keeps.refl nowhere w).alloc (.cells #[.int .i64 j.c, .int .u16 j.t, .int .u16 j.o, .bool j.s] 45)
  have hq := h.same hk
  have hF := qfind_any _ p g l j.c j.t hq (by omega)
  obtain ⟨v, h1, h2, -⟩ := h
  obtain ⟨A, cap, rfl, h3, h4, -, -, -⟩ := h2.rd
  have c0 := (h1.keep hk (fun h => h)).cell 0
  simp at c0
  clear h1 h2
  have hE : putE l j = if 512 ≤ l.length then 14 else 7 := by
    rcases hC with h | ⟨h, h'⟩
    · rw [putE, if_pos h, if_pos h]
    · rw [putE, if_neg h, if_pos h', if_neg h]
  have hL : putL l j = l := by rw [putL, if_neg]; rw [hE]; split <;> decide
  have hany := idxP_any (isJ j.c j.t) l
  unfold qp at hF ⊢
  obtain ⟨L, hLe⟩ : ∃ L, L = l.length := ⟨_, rfl⟩
  rw [← hLe] at hC hE h3 c0 hl
  generalize idxP (isJ j.c j.t) l = ix at *
  have Hk := Lib.hid hk
  have Hq := Lib.hid hq
  have HF := Lib.hid hF
  have HL := Lib.hid hL
  have HLe := Lib.hid hLe
  have HE := Lib.hid hE
  clear hk hq hF hL hLe hE
  rcases hC with hC | ⟨hC, hC'⟩
  · have hCI : (512 : Int) ≤ L := by omega
    unfold J.v
    go_enter Try.func23, Try.ntmps23
    go_wp2_with fail
    go_ret
    exact ⟨by rw [HE.out, if_pos hC]; rfl, _, by rw [HL.out]; exact Hq.out, Hk.out.mono (fun _ _ h => h.elim), From.refl _ _⟩
  · have hCI : ¬ (512 : Int) ≤ L := by omega
    rw [hC'] at hany
    have hix : 0 ≤ ix := of_decide_eq_true hany
    clear hany
    unfold J.v
    go_enter Try.func23, Try.ntmps23
    go_wp2_with fail
    refine HF.out.mono ?_
    rintro e w1 ⟨rfl, hk1⟩
    have hk2 := Hk.out.more hk1
    have hq2 := Hq.out.same hk1
    clear hk1
    have Hk2 := Lib.hid hk2
    have Hq2 := Lib.hid hq2
    clear hk2 hq2
    go_wp2_with fail
    go_ret
    exact ⟨by rw [HE.out, if_neg hC]; rfl, _, by rw [HL.out]; exact Hq2.out, Hk2.out.mono (fun _ _ h => h.elim), From.refl _ _⟩

theorem qat_store {w0 w w1 : World} {p : Nat} {v v1 : Value} {l1 : List J} {g : Option Nat} (hb : Blk w p 83 #[v]) (hr : JRow w1 v1 l1) (hg : v.ownBlock = g) (hk : Keeps (fun b => v.ownBlock = some b) w w1) (hf : From v.ownBlock w.heap.size v1.ownBlock) (hne : g ≠ some p)
    (hk0 : Keeps nowhere w0 w) (hp : p < w.heap.size) :
    w1.cell? ⟨p, 0, none⟩ = some v ∧ w1.frozen? ⟨p, 0, none⟩ = false ∧ QAt (w1.setCell ⟨p, 0, none⟩ v1) p v1.ownBlock l1 ∧ Keeps (only2 p g) w0 (w1.setCell ⟨p, 0, none⟩ v1) ∧ From g w0.heap.size v1.ownBlock := by
  have h1 : Blk w1 p 83 #[v] := hb.keep hk (fun e => hne (by rw [← hg]; exact e))
  have hne1 : ∀ b, v1.ownBlock = some b → b ≠ p := fun b hb e => by
    rcases hf b hb with h | h
    · exact hne (by rw [← hg, h, e])
    · omega
  refine ⟨by simpa using h1.cell 0, h1.frozen 0, ⟨v1, by simpa using h1.set_ 0 v1, ?_, rfl⟩, ?_, fun b hb => ?_⟩
  · exact hr.keep ((Keeps.refl (only p) w1).setCell (p := ⟨p, 0, none⟩) (fun _ => rfl) v1) (fun b hb e => hne1 b hb e)
  · have h0 : Keeps (only2 p g) w0 w := hk0.mono (fun _ _ h => h.elim)
    exact (h0.trans hk (fun _ _ h => .inr (by rw [← hg]; exact h.symm))).setCell (p := ⟨p, 0, none⟩) (fun _ => .inl rfl) v1
  · rcases hf b hb with h | h
    · exact .inl (by rw [← hg]; exact h)
    · exact .inr (Nat.le_trans hk0.size h)

set_option maxRecDepth 8000 in
set_option maxHeartbeats 2000000 in
theorem qput_ok (w : World) (p : Nat) (g : Option Nat) (l : List J) (j : J) (h : QAt w p g l) (hl : l.length < 512) (hno : l.any (isJ j.c j.t) = false) :
    Calls Try.prog 23 #[qp p, j.v] w (RetPut p g l j w) := by
  have hk := (Keeps.refl nowhere w).alloc (.cells #[.int .i64 j.c, .int .u16 j.t, .int .u16 j.o, .bool j.s] 45)
  have hq := h.same hk
  have hbx := Blk.new w 45 #[.int .i64 j.c, .int .u16 j.t, .int .u16 j.o, .bool j.s]
  have hF := qfind_any _ p g l j.c j.t hq (by omega)
  have hgne := h.lt.2.2
  obtain ⟨v, h1, h2, hgv⟩ := h
  have hb1 := h1.keep hk (fun h => h)
  have hr1 := h2.keep hk (fun _ _ h => h)
  obtain ⟨A, cap, hv, h3, h4, -, -, -⟩ := h2.rd
  have c0 := hb1.cell 0
  simp at c0
  rw [hv] at c0
  clear h1 h2
  have hE : putE l j = 0 := by rw [putE, if_neg (by omega), if_neg (by rw [hno]; simp)]
  have hL : putL l j = l ++ [j] := by rw [putL, if_pos hE]
  have hix := idxP_any (isJ j.c j.t) l
  rw [hno] at hix
  unfold qp at hF ⊢
  obtain ⟨L, hLe⟩ : ∃ L, L = l.length := ⟨_, rfl⟩
  rw [← hLe] at h3 c0 hl hv
  have hCI : ¬ (512 : Int) ≤ L := by omega
  generalize idxP (isJ j.c j.t) l = ix at *
  have hix' : ¬ 0 ≤ ix := of_decide_eq_false hix
  clear hix
  have Hk := Lib.hid hk
  have Hq := Lib.hid hq
  have HF := Lib.hid hF
  have HL := Lib.hid hL
  have HLe := Lib.hid hLe
  have HE := Lib.hid hE
  have Hbx := Lib.hid hbx
  have Hb1 := Lib.hid hb1
  have Hr1 := Lib.hid hr1
  have Hgv := Lib.hid hgv
  have Hv := Lib.hid hv
  clear hk hq hF hL hLe hE hbx hb1 hr1 hgv hv
  unfold J.v
  go_enter Try.func23, Try.ntmps23
  go_wp2_with fail
  refine HF.out.mono ?_
  rintro e w1 ⟨rfl, hk1⟩
  have hk2 := Hk.out.more hk1
  have hb2 := Hb1.out.keep hk1 (fun h => h)
  have hr2 := Hr1.out.keep hk1 (fun _ _ h => h)
  have hx2 := Hbx.out.keep hk1 (fun h => h)
  have hplt := hb2.lt
  clear hk1
  have r0 : ∀ w', Keeps nowhere w1.drew w' → w'.cell? ⟨p, 0, none⟩ = some (.slice A L cap) := fun w' hs => by simpa [Hv.out] using (hb2.keep (w := w1.drew) hs (fun h => h)).cell 0
  have e0 : w1.cell? ⟨w.heap.size, 0, none⟩ = some (.int .i64 j.c) := by simpa using hx2.cell 0
  have e1 : w1.cell? ⟨w.heap.size, 1, none⟩ = some (.int .u16 j.t) := by simpa using hx2.cell 1
  have e2 : w1.cell? ⟨w.heap.size, 2, none⟩ = some (.int .u16 j.o) := by simpa using hx2.cell 2
  have e3 : w1.cell? ⟨w.heap.size, 3, none⟩ = some (.bool j.s) := by simpa using hx2.cell 3
  have Hk2 := Lib.hid hk2
  have Hb2 := Lib.hid hb2
  have Hr2 := Lib.hid hr2
  have Hx2 := Lib.hid hx2
  clear hk2 hb2 hr2 hx2
  go_wp2_with fail
  refine wp_region_script [0, 1, 2, 3, 4] [4] [.ps [0, 1, 2, 3], .fs [4], .es [5] true, .es [6] true, .es [7, 8, 9, 10] false] (Keeps nowhere w1.drew) rfl (by kernel_rfl) ?_
  refine wpS_ps rfl fun K hK => ?_
  simp only [List.map_cons, List.map_nil, Option.getD_some, List.getElem?_toArray, List.getElem?_cons_zero, List.getElem?_cons_succ]
  iterate 4 (first | (apply quietO_cons _ rfl; (intro w' _; go_simp; rfl)) | apply quietO_skip rfl)
  refine hK _ ?_
  clear hK K
  simp only [Act.put, List.setIfInBounds_toArray, List.set_cons_zero, List.set_cons_succ]
  refine wpS_fs rfl (Keeps.refl _ _) fun K hK => ?_
  simp only [List.map_cons, List.map_nil, Option.getD_some, List.getElem?_toArray, List.getElem?_cons_zero, List.getElem?_cons_succ]
  iterate 1 (first | (apply quietO_cons _ rfl; (intro w' hs; have c_0 := r0 w' hs; go_simp; rfl)) | apply quietO_skip rfl)
  refine hK _ ?_
  clear hK K
  simp only [Act.put, List.setIfInBounds_toArray, List.set_cons_zero, List.set_cons_succ]
  clear r0
  refine wpS_es rfl fun K hK => ?_
  have HK := Lib.hid hK
  clear hK
  simp only [List.map_cons, List.map_nil, Option.getD_some, List.getElem?_toArray, List.getElem?_cons_zero, List.getElem?_cons_succ]
  go_wp2_with fail
  refine HK.out _ _ (fun _ => Keeps.refl _ _) ?_
  clear HK K
  refine wpS_es rfl fun K hK => ?_
  have HK := Lib.hid hK
  clear hK
  simp only [List.map_cons, List.map_nil, Option.getD_some, List.getElem?_toArray, List.getElem?_cons_zero, List.getElem?_cons_succ]
  go_wp2_with fail
  refine HK.out _ _ (fun _ => (Keeps.refl _ _).alloc _) ?_
  clear HK K
  refine wpS_es rfl fun K hK => ?_
  have HK := Lib.hid hK
  clear hK
  simp only [List.map_cons, List.map_nil, Option.getD_some, List.getElem?_toArray, List.getElem?_cons_zero, List.getElem?_cons_succ]
  have ho := Hr2.out.keep (w' := w1.drew.alloc (.cells #[.int .i64 j.c, .int .u16 j.t, .int .u16 j.o, .bool j.s] 45)) ((Keeps.refl nowhere w1).drew.alloc _) (fun _ _ h => h)
  rw [Hv.out] at ho
  have hj1 := jrd_one w1.drew j
  have Ho := Lib.hid ho
  have Hj1 := Lib.hid hj1
  clear ho hj1
  go_wp2_with (at_builtin; go_must (refine wpList_append_jobs rfl (.tmp 24) (.tmp 26) rfl (.slice A L cap) l rfl Ho.out _ _ [j] rfl Hj1.out (by rw [← HLe.out]; simp; omega) ?_))
  intro v1 w2 hrow hk3 hfrom
  obtain ⟨A1, c1, rfl, -⟩ := hrow.rd
  have hb3 := Hb2.out.keep (w' := w1.drew.alloc (.cells #[.int .i64 j.c, .int .u16 j.t, .int .u16 j.o, .bool j.s] 45)) ((Keeps.refl nowhere w1).drew.alloc _) (fun h => h)
  rw [Hv.out] at hb3
  obtain ⟨z0, z1, hq4, hk4, hf4⟩ := qat_store hb3 hrow (by rw [Hgv.out, Hv.out]) hk3 (by simpa using hfrom) hgne (Hk2.out.drew.alloc _) hb3.lt
  clear hrow hk3 hfrom hb3
  simp only [List.length_append, List.length_cons, List.length_nil, Nat.zero_add] at hq4 hk4 hf4
  have Hq4 := Lib.hid hq4
  have Hk4 := Lib.hid hk4
  have Hf4 := Lib.hid hf4
  clear hq4 hk4 hf4
  go_wp2_with fail
  go_wp2_with fail
  refine HK.out _ _ (fun h => by cases h) ?_
  clear HK K
  refine wpS_nil ?_
  go_wp2_with fail
  go_ret
  exact ⟨by rw [HE.out]; rfl, _, by rw [HL.out]; exact Hq4.out, Hk4.out, Hf4.out⟩

theorem qput_any (w : World) (p : Nat) (g : Option Nat) (l : List J) (j : J) (h : QAt w p g l) (hl : l.length ≤ 512) :
    Calls Try.prog 23 #[qp p, j.v] w (RetPut p g l j w) := by
  by_cases h1 : 512 ≤ l.length
  · exact qput_no w p g l j h hl (.inl h1)
  · cases h2 : l.any (isJ j.c j.t) with
    | true => exact qput_no w p g l j h hl (.inr ⟨h1, h2⟩)
    | false => exact qput_ok w p g l j h (by omega) h2
end Go.Proofs.Ytnccgmffgmfinaa
