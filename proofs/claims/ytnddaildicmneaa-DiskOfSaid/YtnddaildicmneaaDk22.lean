/-
  disk: Of.
-/
import Derived.Test.YtnddaildicmneaaDk17
import Derived.Test.YtnddaildicmneaaChunkI
import Derived.RangeFuncWrites
namespace Go.Proofs.Ytnddaildicmneaa
open Go.Proofs Go.RowKit Go.Shelf

attribute [local go_sem] Oper.semAt_some

def pieceL (L : List UInt8) (z x : Nat) : List UInt8 := (L.drop x).take z
def ofD {n : Nat} (L : List UInt8) (z : Nat) (pre : List (Fin n)) : DiskV := ⟨z, pre.map (fun x => pieceL L z (x.val * z)), [], false, false, 0, [], 0⟩
theorem keepsFrom_of {B : Nat} {S : Nat → Prop} {W W' : World} (h : Keeps S W W') (hS : ∀ k, S k → ∃ cs T fr, W.heap[k]? = some (.cells cs T fr)) : KeepsFrom B W W' := ⟨h.size, fun k o _ hk ho => by
  by_cases hs : S k
  · obtain ⟨cs, T, fr, e⟩ := hS k hs
    rw [e] at hk
    injection hk with hk
    subst hk
    cases ho
  · exact (h.block k (Array.getElem?_eq_some_iff.1 hk).1 hs).trans hk⟩
/-- between two rounds -/
structure OfI {n : Nat} (w : World) (d b Bt B1 B2 : Nat) (L : List UInt8) (z : Nat) (pre : List (Fin n)) (W : World) (kv : Value) (ks : List SlV) : Prop where
  dat : DAt W d b kv (.slice none 0 0) ks [] (ofD L z pre)
  box : Blk W Bt 43 #[.pointer (some ⟨d, 0, none⟩)]
  own : ∀ k, kv.ownBlock = some k → w.heap.size ≤ k ∧ k ≠ Bt ∧ k ≠ B1 ∧ k ≠ B2
  kp : Keeps nowhere w W
  b1 : B1 < W.heap.size
  b2 : B2 < W.heap.size
section
variable {w W W' : World} {d b Bt B1 B2 : Nat} {L : List UInt8} {n z : Nat} {pre : List (Fin n)} {kv : Value} {ks : List SlV}
theorem OfI.turned (h : OfI w d b Bt B1 B2 L z pre W kv ks) {row : Option Nat} (hg : W.grownBy W' row) {B : Nat} (hbB : b < B) (hB : w.heap.size ≤ B) (hr : ∀ r, row = some r → B ≤ r ∧ ∃ o : Obj, W.heap[r]? = some o ∧ o.isCells = false) : OfI w d b Bt B1 B2 L z pre W' kv ks := by
  have hk : Keeps (fun k => row = some k) W W' := (Keeps.refl _ W).grown hg (fun _ h _ => h)
  have hno : ∀ {k : Nat} {T : TypeId} {cs : Array Value}, Blk W k T cs → row ≠ some k := fun hb e => by
    obtain ⟨-, o, ho, hc⟩ := hr _ e
    unfold Blk at hb
    rw [hb] at ho
    injection ho with ho
    rw [← ho] at hc
    cases hc
  refine ⟨h.dat.keepAll hk ?_ ?_, h.box.keep hk (hno h.box), h.own, h.kp.trans hk (fun k hk e => by have := (hr k e).1; omega), Nat.lt_of_lt_of_le h.b1 hg.size, Nat.lt_of_lt_of_le h.b2 hg.size⟩
  · rintro k (e | e | e) e2
    · subst e; exact hno h.dat.box e2
    · subst e; have := (hr k e2).1; omega
    · rcases h.dat.kept.blk with ⟨rfl, -⟩ | ⟨b2, c2, rest, rfl, hb2, -⟩
      · simp [Value.ownBlock] at e
      · simp only [Value.ownBlock, Option.some.injEq] at e
        subst e
        exact hno hb2 e2
  · intro k e cs T fr hh
    obtain ⟨-, o, ho, hc⟩ := hr k e
    rw [hh] at ho
    injection ho with ho
    rw [← ho] at hc
    cases hc
end
theorem rdB_piece {w : World} {b o N c : Nat} {g : Option Nat} {L : List UInt8} (h : recB.Rd w (.slice (some ⟨b, o, none⟩) N c) g L) {x z : Nat} (hx : x + z ≤ L.length) (hz : 0 < z) : recB.Rd w (.slice (some ⟨b, o + x, none⟩) z z) g (pieceL L z x) ∧ (pieceL L z x).length = z := by
  have hl : (pieceL L z x).length = z := by unfold pieceL; rw [List.length_take, List.length_drop]; omega
  obtain ⟨A, cap, hv, h1, h2, hu, h3, h4⟩ := h
  injection hv with hA _ _
  subst hA
  obtain ⟨b', o', hA, hg, hc⟩ := h3 (by omega)
  injection hA with hA
  injection hA with e1 e2
  subst e1 e2
  refine ⟨⟨some ⟨b, o + x, none⟩, z, by rw [hl], by rw [hl]; exact Nat.le_refl _, by omega, hu, fun _ => ⟨b, o + x, rfl, hg, fun i t hi => ?_⟩, fun h => by cases h⟩, hl⟩
  have hi2 : L[x + i]? = some t := by
    unfold pieceL at hi
    rw [List.getElem?_take] at hi
    split at hi
    · rwa [List.getElem?_drop] at hi
    · cases hi
  have := hc (x + i) t hi2
  rw [show (x + i) * recB.n = x + i from Nat.mul_one _] at this
  rw [show i * recB.n = i from Nat.mul_one _, Nat.add_assoc]
  exact this
set_option maxRecDepth 100000 in
set_option maxHeartbeats 8000000 in
theorem dof_ok (b o c n z : Nat) (g : Option Nat) (L : List UInt8) (w : World) (hr : recB.Rd w (.slice (some ⟨b, o, none⟩) (n * z) c) g L) (hn : 1 ≤ n) (hz1 : 64 ≤ z) (hz2 : z ≤ 1024) (hnz : n * z ≤ 1000000) :
    Calls Try.prog 35 #[.slice (some ⟨b, o, none⟩) (n * z) c, .int .i64 z] w fun e w' => ∃ r, e = .returned (.tuple #[r, .int .i64 0]) ∧ NewD w (ofD L z (List.finRange n)) r w' := by
  obtain ⟨N, hN⟩ : ∃ N, N = n * z := ⟨_, rfl⟩
  have hn16 : n ≤ 16384 := by
    have : n * 64 ≤ n * z := Nat.mul_le_mul_left _ hz1
    omega
  have hrem : Int.tmod (N : Int) (z : Int) = 0 := by rw [hN, Int.tmod_eq_emod_of_nonneg (by omega)]; simp
  have hdiv : Int.tdiv (N : Int) (z : Int) = n := by rw [hN, Int.tdiv_eq_ediv_of_nonneg (by omega)]; push_cast; exact Int.mul_ediv_cancel _ (by omega)
  have hw1 : IntKind.i64.wrap (0 : Int) = 0 := rfl
  have hw2 : IntKind.i64.wrap (n : Int) = n := IntWalk.i64_in _ (by omega)
  have hz0 : ((z : Int) == 0) = false := by simp; omega
  have hz00 : ¬ (z : Int) = 0 := by omega
  have hzl : ¬ (z : Int) < 64 := by omega
  have hzg : ¬ (1024 : Int) < (z : Int) := by omega
  have hright := right_any (n : Int) (z : Int) w
  rw [show (decide ((1 : Int) ≤ (n : Int)) && decide ((n : Int) ≤ 16384) && decide ((64 : Int) ≤ (z : Int)) && decide ((z : Int) ≤ 1024)) = true by simp; omega] at hright
  have hmm := @run_makeMap Try.prog
  rw [← hN] at hr ⊢
  obtain ⟨A', c', hv, hNc, hcm, -⟩ := id hr
  injection hv with hA hNL hcc
  subst hA hcc
  rw [← hNL] at hNc
  obtain ⟨w1, hw1'⟩ : ∃ w1, w1 = ((w.alloc (.map #[] 0)).alloc (.cells #[.int .i64 (z : Int), .slice none 0 0, .map (some w.heap.size), .bool false, .bool false, .int .i64 0, .slice none 0 0, .int .i64 0] 97)) := ⟨_, rfl⟩
  have hS := dnew_start w z w1 hw1'
  have hkw1 : Keeps nowhere w w1 := by rw [hw1']; exact ((Keeps.refl nowhere w).alloc _).alloc _
  have hs1 : w1.heap.size = w.heap.size + 2 := by rw [hw1']; simp
  have hchunk := chunk_any (some ⟨b, o, none⟩) N c z (w1.alloc (.cells #[.pointer (some ⟨w.heap.size + 1, 0, none⟩)] 43)) (by omega)
  have Hr := Lib.hid hr
  have HN := Lib.hid hN
  have Hright := Lib.hid hright
  have HS := Lib.hid hS
  have Hkw1 := Lib.hid hkw1
  have HNL := Lib.hid hNL
  have Hchunk := Lib.hid hchunk
  have Hw1' := Lib.hid hw1'
  have Hs1 := Lib.hid hs1
  clear hr hN hright hS hkw1 hNL hchunk hw1' hs1
  refine (callsIn_wide (n := 9)).1 (callsIn_of_wp_marks Try.func35 rfl trivial ?_ rfl)
  refine wpIn_wide.2 ?_
  simp only [Try.ntmps35, List.size_toArray, List.length_cons, List.length_nil, Nat.reduceAdd, Nat.reduceSub, Array.replicate_succ, Array.replicate_zero, List.push_toArray, List.append_toArray, List.nil_append, List.cons_append]
  go_wp2_with fail
  refine Hright.out.mono ?_
  rintro e w' ⟨rfl, rfl⟩
  go_upto_region 4 with fail
  rw [← Hw1'.out]
  try simp only [Hs1.out]
  go_wp2_with fail
  refine Hchunk.out.mono ?_
  rintro e w' ⟨rfl, rfl⟩
  go_wp2_with fail
  obtain ⟨d, hd⟩ : ∃ d, d = w.heap.size + 1 := ⟨_, rfl⟩
  obtain ⟨b0, hb0⟩ : ∃ b0, b0 = w.heap.size := ⟨_, rfl⟩
  obtain ⟨Bt, hBt⟩ : ∃ B, B = w.heap.size + 1 + 1 := ⟨_, rfl⟩
  obtain ⟨B1, hB1⟩ : ∃ B, B = w1.heap.size + 1 := ⟨_, rfl⟩
  obtain ⟨B2, hB2⟩ : ∃ B, B = w1.heap.size + 1 + 1 := ⟨_, rfl⟩
  obtain ⟨w2, hw2⟩ : ∃ w2, w2 = ((w1.alloc (.cells #[.pointer (some ⟨w.heap.size + 1, 0, none⟩)] 43)).alloc (.cells #[.slice (some ⟨b, o, none⟩) N c] 41)).alloc (.cells #[.int .i64 z] 3) := ⟨_, rfl⟩
  have hs2 : w2.heap.size = w1.heap.size + 3 := by rw [hw2]; simp
  have hk12 : Keeps nowhere w1 w2 := by rw [hw2]; exact (((Keeps.refl nowhere w1).alloc _).alloc _).alloc _
  have x1 : w2.cell? ⟨B1, 0, none⟩ = some (.slice (some ⟨b, o, none⟩) N c) := by
    have h1 := (Blk.new (w1.alloc (.cells #[.pointer (some ⟨w.heap.size + 1, 0, none⟩)] 43)) 41 #[.slice (some ⟨b, o, none⟩) N c]).alloc (.cells #[.int .i64 z] 3)
    rw [← hw2] at h1
    have := h1.cell 0
    rw [World.size_alloc, ← hB1] at this
    simpa using this
  have x2 : w2.cell? ⟨B2, 0, none⟩ = some (.int .i64 z) := by
    have h1 := Blk.new ((w1.alloc (.cells #[.pointer (some ⟨w.heap.size + 1, 0, none⟩)] 43)).alloc (.cells #[.slice (some ⟨b, o, none⟩) N c] 41)) 3 #[.int .i64 z]
    rw [← hw2] at h1
    have := h1.cell 0
    rw [World.size_alloc, World.size_alloc, ← hB2] at this
    simpa using this
  have hbx : Blk w2 Bt 43 #[.pointer (some ⟨d, 0, none⟩)] := by
    have h1 := ((Blk.new w1 43 #[.pointer (some ⟨w.heap.size + 1, 0, none⟩)]).alloc (.cells #[.slice (some ⟨b, o, none⟩) N c] 41)).alloc (.cells #[.int .i64 z] 3)
    rw [← hw2, Hs1.out] at h1
    rw [hd, hBt]; exact h1
  have hI0 : ∃ kv ks, OfI (n := n) w d b0 Bt B1 B2 L z [] w2 kv ks := ⟨.slice none 0 0, [], by rw [hd, hb0]; exact HS.out.same hk12, hbx, fun k h => by simp [Value.ownBlock] at h, Hkw1.out.more hk12, by have := Hs1.out; omega, by have := Hs1.out; omega⟩
  have Hsz := Lib.hid hs2
  rw [← hw2]
  simp only [← hBt]
  simp only [← hd]
  simp only [← hB2]
  simp only [← hB1]
  simp only [← hb0]
  clear hw2 hs2 Hchunk Hright Hw1' HS hmm
  have HI0 := Lib.hid hI0
  have Hbx := Lib.hid hbx
  have X1 := Lib.hid x1
  have X2 := Lib.hid x2
  have Hk12 := Lib.hid hk12
  have Hd := Lib.hid hd
  have Hb0 := Lib.hid hb0
  have HBt := Lib.hid hBt
  have HB1 := Lib.hid hB1
  have HB2 := Lib.hid hB2
  clear hI0 hbx x1 x2 hk12 hd hb0 hBt hB1 hB2
  refine (wpIn_wide (n := 8)).1 ?_
  refine wpIn_rangeFunc_ownG (α := Fin n) rfl (by omega) (gf := 82) (lb := #[.pointer (some ⟨B1, 0, none⟩), .pointer (some ⟨B2, 0, none⟩)]) rfl trivial (enters_of Try.func82 (by kernel_rfl) rfl)
    (chunk_stops (8 - 1) B1 B2 b o c n z w2 (by omega) (by omega) (by rw [← HN.out]; exact hNc) hcm (by have := Hsz.out; have := HB1.out; omega) (by have := Hsz.out; have := HB2.out; omega) (by rw [← HN.out]; exact X1.out) X2.out) KpC.t ?kb (Below.refl _ _) (fun _ => rfl)
    (fun pre W => ∃ kv ks, OfI w d b0 Bt B1 B2 L z pre W kv ks) (fun _ _ _ => False) ?own (fun _ _ _ _ _ h _ _ => h) HI0.out ?act ?assign ?body ?done ?stop
  case kb =>
    intro W l o o' hl ho _ _
    have e1 : B1 ≠ l := by have := Hsz.out; have := HB1.out; omega
    have e2 : B2 ≠ l := by have := Hsz.out; have := HB2.out; omega
    exact ⟨World.cell?_of_block (World.putObj_heap_other e1), World.cell?_of_block (World.putObj_heap_other e2)⟩
  case own =>
    rintro pre W W' row ⟨kv, ks, h⟩ hg hr
    exact ⟨kv, ks, h.turned hg (B := w2.heap.size) (by have := Hsz.out; have := Hs1.out; have := Hb0.out; omega) (by have := Hsz.out; have := Hs1.out; omega) hr⟩
  case assign =>
    intro l x W K hK
    gi_wp2
    exact hK
  case stop =>
    rintro D c pre W hD hS h
    exact h.elim
  case body =>
    rintro l pre x W ⟨kv, ks, h⟩ hlen
    have hLN : L.length = N := HNL.out.symm
    have hxz : x.val * z + z ≤ N := by
      rw [HN.out, ← Nat.succ_mul]
      exact Nat.mul_le_mul_right _ x.isLt
    obtain ⟨i, hi⟩ : ∃ i, i = x.val * z := ⟨_, rfl⟩
    rw [← hi] at hxz
    have hkd := (Keeps.refl nowhere W).drew
    obtain ⟨hpr, hpl⟩ := rdB_piece (Hr.out.same (h.kp.more hkd)) (x := i) (z := z) (by omega) (by omega)
    have hc := clB_any _ _ _ W.drew hpr (by omega)
    rw [show Value.slice (some ⟨b, o + i, none⟩) z z = pieceV b o z i from rfl] at hc
    obtain ⟨A1, c1, hkv, -⟩ := h.dat.kept.form
    have hkl : ks.length = pre.length := by rw [h.dat.klen]; simp [ofD]
    rw [hkl] at hkv
    subst hkv
    obtain ⟨S, hS⟩ : ∃ S : World → Prop, ∀ w', S w' ↔ (w'.cell? ⟨Bt, 0, none⟩ = some (.pointer (some ⟨d, 0, none⟩)) ∧ w'.cell? ⟨d, 1, none⟩ = some (.slice A1 pre.length c1)) := ⟨_, fun _ => Iff.rfl⟩
    have q1 : ∀ w', S w' → w'.cell? ⟨Bt, 0, none⟩ = some (.pointer (some ⟨d, 0, none⟩)) := fun w' h => ((hS w').1 h).1
    have q2 : ∀ w', S w' → w'.cell? ⟨d, 1, none⟩ = some (.slice A1 pre.length c1) := fun w' h => ((hS w').1 h).2
    have hSk : ∀ (w' : World) (S' : Nat → Prop), Keeps S' W w' → ¬ S' Bt → ¬ S' d → S w'   := fun w' S' hk n1 n2 => (hS _).2 ⟨by have := (h.box.keep hk n1).cell 0; simpa using this, by have := (h.dat.box.keep hk n2).cell 1; simpa [ofD] using this⟩
    have s0 : S W.drew := hSk _ _ hkd (fun h => h) (fun h => h)
    rw [← hi]
    clear hpr hS
    have H := Lib.hid h
    have HLN := Lib.hid hLN
    have Hi := Lib.hid hi
    have Hpl := Lib.hid hpl
    have Hc := Lib.hid hc
    have Hkl := Lib.hid hkl
    have HSk := Lib.hid hSk
    clear h hLN hi hpl hc hkl hSk
    refine wpIn_block ?_
    refine wpIn_region_script [0, 1, 2, 3, 4, 5, 9, 10] [0, 1, 4] [.fs [0], .fs [1], .ps [2, 3], .fs [4], .ps [5], .es [6] true, .es [7] true, .es [8] true, .ps [9, 10], .es [11] false] S rfl (by rintro ⟨a, w, h⟩; exact h) (by kernel_rfl) ?_
    refine wpS_fs rfl (s0) fun K hK => ?_
    simp only [List.map_cons, List.map_nil, Option.getD_some, List.getElem?_toArray, List.getElem?_cons_zero, List.getElem?_cons_succ]
    iterate 1 (first | (apply quietO_cons _ rfl; (intro w' hs; have c_0 := q1 w' hs; go_simp; rfl)) | apply quietO_skip rfl)
    refine hK _ ?_
    clear hK K
    simp only [Act.put, List.setIfInBounds_toArray, List.set_cons_zero, List.set_cons_succ]
    refine wpS_fs rfl (s0) fun K hK => ?_
    simp only [List.map_cons, List.map_nil, Option.getD_some, List.getElem?_toArray, List.getElem?_cons_zero, List.getElem?_cons_succ]
    iterate 1 (first | (apply quietO_cons _ rfl; (intro w' hs; have c_0 := q1 w' hs; go_simp; rfl)) | apply quietO_skip rfl)
    refine hK _ ?_
    clear hK K
    simp only [Act.put, List.setIfInBounds_toArray, List.set_cons_zero, List.set_cons_succ]
    refine wpS_ps rfl fun K hK => ?_
    simp only [List.map_cons, List.map_nil, Option.getD_some, List.getElem?_toArray, List.getElem?_cons_zero, List.getElem?_cons_succ]
    iterate 2 (first | (apply quietO_cons _ rfl; (intro w' _; go_simp; rfl)) | apply quietO_skip rfl)
    refine hK _ ?_
    clear hK K
    simp only [Act.put, List.setIfInBounds_toArray, List.set_cons_zero, List.set_cons_succ]
    refine wpS_fs rfl (s0) fun K hK => ?_
    simp only [List.map_cons, List.map_nil, Option.getD_some, List.getElem?_toArray, List.getElem?_cons_zero, List.getElem?_cons_succ]
    iterate 1 (first | (apply quietO_cons _ rfl; (intro w' hs; have c_0 := q2 w' hs; go_simp; rfl)) | apply quietO_skip rfl)
    refine hK _ ?_
    clear hK K
    simp only [Act.put, List.setIfInBounds_toArray, List.set_cons_zero, List.set_cons_succ]
    refine wpS_ps rfl fun K hK => ?_
    simp only [List.map_cons, List.map_nil, Option.getD_some, List.getElem?_toArray, List.getElem?_cons_zero, List.getElem?_cons_succ]
    iterate 1 (first | (apply quietO_cons _ rfl; (intro w' _; go_simp; rfl)) | apply quietO_skip rfl)
    refine hK _ ?_
    clear hK K
    simp only [Act.put, List.setIfInBounds_toArray, List.set_cons_zero, List.set_cons_succ]
    refine wpS_es rfl fun K hK => ?_
    have HK := Lib.hid hK
    clear hK
    simp only [List.map_cons, List.map_nil, Option.getD_some, List.getElem?_toArray, List.getElem?_cons_zero, List.getElem?_cons_succ]
    go_wp2_with fail
    refine Hc.out.mono ?_
    rintro e w3 ⟨v3, rfl, hrow3, hab3, hk3⟩
    have hkW3 := hkd.more hk3
    obtain ⟨A3, c3, hv3, -⟩ := hrow3.form
    rw [Hpl.out] at hv3
    subst hv3
    have s3 := HSk.out w3 _ hkW3 (fun h => h) (fun h => h)
    clear Hc hk3
    have Hrow3 := Lib.hid hrow3
    have Hab3 := Lib.hid hab3
    have HkW3 := Lib.hid hkW3
    clear hrow3 hab3 hkW3
    go_wp2_with fail
    refine HK.out _ _ (fun _ => s3) ?_
    clear HK K
    refine wpS_es rfl fun K hK => ?_
    have HK := Lib.hid hK
    clear hK
    simp only [List.map_cons, List.map_nil, Option.getD_some, List.getElem?_toArray, List.getElem?_cons_zero, List.getElem?_cons_succ]
    refine RecT.wpList_buildOne (R := recS) Try.underlying95 infoS (by decide) rfl (.tmp 44) rfl _ rfl ((A3, z, c3) : SlV) rfl ?_
    have hk4 := HkW3.out.alloc (.cells (recS.cs ((A3, z, c3) : SlV)).toArray recS.t)
    have hk34 := (Keeps.refl nowhere w3).alloc (.cells (recS.cs ((A3, z, c3) : SlV)).toArray recS.t)
    have hrd := RecT.Rd.one recS w3 ((A3, z, c3) : SlV)
    obtain ⟨w4, hw4⟩ : ∃ w4, w4 = w3.alloc (.cells (recS.cs ((A3, z, c3) : SlV)).toArray recS.t) := ⟨_, rfl⟩
    obtain ⟨q2', hq2⟩ : ∃ q2, q2 = w3.heap.size := ⟨_, rfl⟩
    rw [← hw4] at hk4 hk34 hrd ⊢
    simp only [← hq2] at hrd ⊢
    have hD4 := H.out.dat.same hk4
    have hs4 := Hrow3.out.same hk34
    have s4 := HSk.out w4 _ hk4 (fun h => h) (fun h => h)
    have hlb : ks.length + ([((A3, z, c3) : SlV)] : List SlV).length ≤ 100000000 := by have := Hkl.out; simp; omega
    clear hk34
    have Hrd := Lib.hid hrd
    have Hw4 := Lib.hid hw4
    have Hq2 := Lib.hid hq2
    have HD4 := Lib.hid hD4
    have Hs4 := Lib.hid hs4
    have Hlb := Lib.hid hlb
    have Hk4 := Lib.hid hk4
    clear hrd hw4 hq2 hD4 hs4 hlb hk4
    go_wp2_with fail
    refine HK.out _ _ (fun _ => s4) ?_
    clear HK K
    refine wpS_es rfl fun K hK => ?_
    have HK := Lib.hid hK
    clear hK
    simp only [List.map_cons, List.map_nil, Option.getD_some, List.getElem?_toArray, List.getElem?_cons_zero, List.getElem?_cons_succ]
    go_wp2_with (at_builtin; go_must (refine RecT.wpList_append (R := recS) Try.underlying95 infoS rfl (by decide) rfl (.tmp 42) (.tmp 45) rfl _ ks rfl HD4.out.kept _ _ [((A3, z, c3) : SlV)] rfl Hrd.out Hlb.out ?_))
    intro v5 w5 hrow5 hk5 hf5
    obtain ⟨hD6, hk6, ⟨u, cu⟩, fu⟩ := HD4.out.sector hk5 hrow5 (s := ((A3, z, c3) : SlV)) (L := pieceL L z i) (Hs4.out.keep hk5 (fun bb e hs => row_raw Hs4.out (.inl rfl) (HD4.out.notRaw _ (.inr (.inr hs))) e)) (by simp [ofD, Hpl.out])
    have hd1 : w2.heap.size = w.heap.size + 5 := by have := Hsz.out; have := Hs1.out; omega
    have hWs := H.out.kp.size
    have hnd : Value.ownBlock (.slice A1 pre.length c1) ≠ some d := own_blk_ne H.out.dat.kept H.out.dat.box (by decide)
    have s5 := HSk.out w5 (fun k => Value.ownBlock (.slice A1 pre.length c1) = some k) ((Hk4.out.mono (fun _ _ h => h.elim)).trans hk5 (fun _ _ h => h)) (fun e => (H.out.own _ e).2.1 rfl) hnd
    have hBl := H.out.box.lt
    have hab5 : ∀ k, v5.ownBlock = some k → w.heap.size ≤ k ∧ k ≠ Bt ∧ k ≠ B1 ∧ k ≠ B2 := fun k e => by
      rcases hf5 k e with h | h
      · exact H.out.own k h
      · have h1 := Hk4.out.size
        have h2 := H.out.b1
        have h3 := H.out.b2
        have h4 := H.out.kp.size
        exact ⟨by omega, by omega, by omega, by omega⟩
    obtain ⟨A5, c5, hv5, -⟩ := hrow5.form
    generalize hN5 : (ks ++ [((A3, z, c3) : SlV)]).length = N5 at hv5
    subst hv5
    obtain ⟨w6, hw6⟩ : ∃ w6, w6 = w5.setCell ⟨d, 1, none⟩ (.slice A5 N5 c5) := ⟨_, rfl⟩
    rw [← hw6] at hD6 hk6
    have hkW6 : Keeps (fun k => k = d ∨ Value.ownBlock (.slice A1 pre.length c1) = some k) W w6 := (Hk4.out.mono (fun _ _ h => h.elim)).trans hk6 (fun _ _ h => h)
    have hfin : KeepsFrom w2.heap.size W w6 ∧ KpC B1 B2 W w6 ∧ ∃ kv ks, OfI w d b0 Bt B1 B2 L z (pre ++ [x]) w6 kv ks := by
      refine ⟨keepsFrom_of hkW6 ?_, ⟨hkW6.cell (p := ⟨B1, 0, none⟩) H.out.b1 ?_, hkW6.cell (p := ⟨B2, 0, none⟩) H.out.b2 ?_⟩, .slice A5 N5 c5, ks ++ [((A3, z, c3) : SlV)], ⟨?_, H.out.box.keep hkW6 ?_, hab5, H.out.kp.trans hkW6 ?_, Nat.lt_of_lt_of_le H.out.b1 hkW6.size, Nat.lt_of_lt_of_le H.out.b2 hkW6.size⟩⟩
      · rintro k (e | e)
        · subst e
          exact ⟨_, _, _, H.out.dat.box⟩
        · rcases H.out.dat.kept.blk with ⟨hv0, -⟩ | ⟨b2', c2', rest, hv0, hb2, -⟩
          · rw [hv0] at e; simp [Value.ownBlock] at e
          · rw [hv0] at e
            simp only [Value.ownBlock, Option.some.injEq] at e
            subst e
            exact ⟨_, _, _, hb2⟩
      · rintro (e | e)
        · have := Hd.out; have := HB1.out; have := Hs1.out; simp at e; omega
        · exact (H.out.own _ e).2.2.1 rfl
      · rintro (e | e)
        · have := Hd.out; have := HB2.out; have := Hs1.out; simp at e; omega
        · exact (H.out.own _ e).2.2.2 rfl
      · have e : ofD L z (pre ++ [x]) = ⟨(ofD L z pre).size, (ofD L z pre).kept ++ [pieceL L z i], (ofD L z pre).pend, (ofD L z pre).off, (ofD L z pre).armed, (ofD L z pre).left, (ofD L z pre).keep, (ofD L z pre).writes⟩ := by simp [ofD, Hi.out]
        rw [e]
        exact hD6
      · rintro (e | e)
        · have := Hd.out; have := HBt.out; omega
        · exact (H.out.own _ e).2.1 rfl
      · rintro k hk (e | e)
        · have := Hd.out; omega
        · have := (H.out.own k e).1; omega
    clear hD6 hk6 hkW6 hrow5 hk5 hf5 hab5 hN5
    have Hfin := Lib.hid hfin
    have Hw6 := Lib.hid hw6
    clear hfin hw6
    go_wp2_with fail
    refine HK.out _ _ (fun _ => s5) ?_
    clear HK K
    refine wpS_ps rfl fun K hK => ?_
    simp only [List.map_cons, List.map_nil, Option.getD_some, List.getElem?_toArray, List.getElem?_cons_zero, List.getElem?_cons_succ]
    iterate 2 (first | (apply quietO_cons _ rfl; (intro w' _; go_simp; rfl)) | apply quietO_skip rfl)
    refine hK _ ?_
    clear hK K
    simp only [Act.put, List.setIfInBounds_toArray, List.set_cons_zero, List.set_cons_succ]
    refine wpS_es rfl fun K hK => ?_
    have HK := Lib.hid hK
    clear hK
    simp only [List.map_cons, List.map_nil, Option.getD_some, List.getElem?_toArray, List.getElem?_cons_zero, List.getElem?_cons_succ]
    go_wp2_with fail
    rw [← Hw6.out]
    go_wp2_with fail
    refine HK.out _ _ (fun h => by cases h) ?_
    clear HK K
    exact Hfin.out
  case done =>
    rintro D xs W hD rfl ⟨kv, ks, h⟩ hKD
    have y0 := h.box.cell 0
    simp at y0
    have hF : ∀ k, DS d b0 kv k → w.heap.size ≤ k := by
      rintro k (e | e | e)
      · have := Hd.out; omega
      · have := Hb0.out; omega
      · exact (h.own k e).1
    have hDb : d < D ∧ b0 < D := by have := Hsz.out; have := Hs1.out; have := Hd.out; have := Hb0.out; omega
    have hturn : OfI w d b0 Bt B1 B2 L z (List.finRange n) (W.putObj D (.deferred none)) kv ks := h.turned (grownBy_putObj' W D (.deferred none)) (B := w2.heap.size) (by have := Hsz.out; have := Hs1.out; have := Hb0.out; omega) (by have := Hsz.out; have := Hs1.out; omega) (fun r e => by cases e; exact ⟨hD, _, hKD, rfl⟩)
    have hnew : NewD w (ofD L z (List.finRange n)) (.pointer (some ⟨d, 0, none⟩)) (W.putObj D (.deferred none)) := ⟨d, b0, kv, _, ks, [], rfl, hturn.dat, hF, hturn.kp⟩
    clear h hturn hF
    have Hnew := Lib.hid hnew
    clear hnew
    (try simp only [Exit.inBlock, Exit.then])
    go_wp2_with fail
    refine ⟨by simp, .inl ⟨_, _, rfl, run_takeDeferred hKD, ?_⟩⟩
    exact ⟨_, results_tmp2 rfl _ _ _, _, rfl, Hnew.out⟩
end Go.Proofs.Ytnddaildicmneaa
