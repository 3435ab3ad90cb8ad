/-
  disk: New.
-/
import Derived.Test.YtnddaildicmneaaDk12
import Derived.Test.YtnddaildicmneaaRecB
import Derived.OwnWalk
namespace Go.Proofs.Ytnddaildicmneaa
open Go.Proofs Go.RowKit Go.Sort Go.Maps

def zerosB (n : Nat) : List UInt8 := List.replicate n 0
theorem made_zerosB (n : Nat) : (madeCells #[Value.int .u8 0] (n * 1)).toList = recB.cells (zerosB n) := by
  rw [Nat.mul_one]
  apply List.ext_getElem?
  intro j
  have e : recB.cells (zerosB n) = List.replicate n (.int .u8 0) := by
    unfold RecT.cells zerosB
    rw [List.flatMap_replicate]
    simp [recB, bv]
  rw [e]
  by_cases hj : j < n
  · simp [madeCells, hj, Nat.mod_one]
  · rw [List.getElem?_eq_none (by simp [madeCells]; omega), List.getElem?_eq_none (by simp; omega)]
section
variable {ops : Array Oper} {rest : List Oper} {o : Oper} {a : Act} {Q : Exit → Act → World → Prop}
theorem wpList_make_bytesB (w : World) (hgd : o.guard = none) (l c : Operand) (hop : o.op = Op.makeSlice 41 l c) (n : Nat) (L : Int) (hl : a.eval l = .int .i64 L) (hc : a.eval c = .int .i64 L) (hL : L = (n : Int)) (hn : n ≤ 1099511627776)
    (hK : ∀ w', recB.Row w' (.slice (some ⟨w.heap.size, 0, none⟩) n n) (zerosB n) → Keeps nowhere w w' → wpList Try.prog ops Q rest (a.put o.dst (.slice (some ⟨w.heap.size, 0, none⟩) n n)) w') : wpList Try.prog ops Q (o :: rest) a w := by
  obtain ⟨i0, hi, hz0, hz1, hz2⟩ := info_parts infoB
  refine wpList_make_full _ hgd l c 41 hop 0 5 i0 (.int .u8 0) 1 Try.underlying41 hi hz0 hz1 .i64 .i64 L L n hl hc hL hL (by rw [hz2]; omega) (by unfold maxLen; omega) (Nat.zero_le _) fun w' h1 h2 => hK w' ?_ ((Keeps.refl _ w).grown h2 (fun _ h => by cases h))
  unfold RecT.Row
  rw [show (Value.int .u8 0).cells = #[Value.int .u8 0] from rfl, made_zerosB] at h1
  rw [show (zerosB n).length = n by simp [zerosB]]
  exact h1
end
section
variable {w w' : World} {d b : Nat} {kv kp : Value} {ks : List SlV} {vs : List Value} {D : DiskV}
/-- one more sector is kept: the row behind an append, then the store of it -/
theorem DAt.sector (h : DAt w d b kv kp ks vs D) (hk : Keeps (fun k => kv.ownBlock = some k) w w') {v' : Value} {s : SlV} {L : List UInt8} (hr : recS.Row w' v' (ks ++ [s])) (hs : recB.Row w' s.v L) (hl : L.length = D.size) :
    DAt (w'.setCell ⟨d, 1, none⟩ v') d b v' kp (ks ++ [s]) vs ⟨D.size, D.kept ++ [L], D.pend, D.off, D.armed, D.left, D.keep, D.writes⟩ ∧ Keeps (fun k => k = d ∨ kv.ownBlock = some k) w (w'.setCell ⟨d, 1, none⟩ v') ∧ (∃ u, w'.cell? ⟨d, 1, none⟩ = some u) ∧ w'.frozen? ⟨d, 1, none⟩ = false := by
  have hnr : ∀ k, kv.ownBlock = some k → NotRaw w k := fun k e => h.notRaw k (.inr (.inr e))
  have hdr : NotRaw w d := h.notRaw d (.inl rfl)
  have hnd : kv.ownBlock ≠ some d := own_blk_ne h.kept h.box (by decide)
  have hbox := h.box.keep hk hnd
  obtain ⟨w2, hw2⟩ : ∃ w2, w2 = w'.setCell ⟨d, 1, none⟩ v' := ⟨_, rfl⟩
  have hk2 : Keeps (only d) w' w2 := by rw [hw2]; exact (Keeps.refl (only d) w').setCell (p := ⟨d, 1, none⟩) (fun _ => rfl) _
  have hbox2 := hbox.set_ 1 v'
  have hk3 : Keeps (fun k => k = d ∨ kv.ownBlock = some k) w w2 := (hk.mono (fun _ _ e => .inr e)).trans hk2 (fun _ _ e => .inl e)
  rw [← hw2] at hbox2
  have hc1 := hbox.cell 1
  have hf1 := hbox.frozen 1
  rw [← hw2]
  have hraw : ∀ {α : Type} {R : RecT α} {v : Value} {l : List α}, R.Row w v l → (R.t = 5 ∨ R.t = 4) → ∀ bb, v.ownBlock = some bb → ¬ (bb = d ∨ kv.ownBlock = some bb) := fun hrow ht bb e hs => by
    rcases hs with e2 | e2
    · subst e2; exact row_raw hrow ht hdr e
    · exact row_raw hrow ht (hnr bb e2) e
  have hd2 : ∀ {α : Type} {R : RecT α} {v : Value} {l : List α}, R.Row w' v l → R.t ≠ 97 → R.Row w2 v l := fun hrow ht => hrow.keep hk2 (fun bb e hs => by have e2 : bb = d := hs; subst e2; exact own_blk_ne hrow hbox ht e)
  refine ⟨?_, hk3, ⟨_, by simpa using hc1⟩, hf1⟩
  exact
  { box := by simpa using hbox2
    kept := hd2 hr (by decide)
    klen := by rw [List.length_append, List.length_append, h.klen]; rfl
    sec := fun i s2 L2 g1 g2 => by
      by_cases hi : i < ks.length
      · rw [List.getElem?_append_left hi] at g1
        rw [List.getElem?_append_left (by rw [← h.klen]; exact hi)] at g2
        exact ⟨(h.sec i s2 L2 g1 g2).1.keep hk3 (hraw (h.sec i s2 L2 g1 g2).1 (.inl rfl)), (h.sec i s2 L2 g1 g2).2⟩
      · rw [List.getElem?_append_right (by omega)] at g1
        rw [List.getElem?_append_right (by rw [← h.klen]; omega), ← h.klen] at g2
        have : i - ks.length = 0 := by have := (List.getElem?_eq_some_iff.1 g1).1; simp at this; omega
        rw [this] at g1 g2
        simp at g1 g2
        subst g1 g2
        exact ⟨hd2 hs (by decide), hl⟩
    map := h.map.keep hk3 (fun e => by
      rcases e with e | e
      · exact h.map.ne_blk h.box e.symm
      · rcases h.kept.blk with ⟨rfl, -⟩ | ⟨b2, c2, rest, rfl, hb2, -⟩
        · simp [Value.ownBlock] at e
        · simp only [Value.ownBlock, Option.some.injEq] at e
          subst e
          exact h.map.ne_blk hb2 rfl)
    vlen := h.vlen
    pb := fun i p v h1 h2 => ⟨(h.pb i p v h1 h2).1.keep hk3 (hraw (h.pb i p v h1 h2).1 (.inl rfl)), (h.pb i p v h1 h2).2.1, by rw [List.length_append]; exact Nat.lt_of_lt_of_le (h.pb i p v h1 h2).2.2 (Nat.le_add_right _ _)⟩
    keep := h.keep.keep hk3 (hraw h.keep (.inr rfl)) }
end
def freshD (n size : Nat) : DiskV := ⟨size, List.replicate n (zerosB size), [], false, false, 0, [], 0⟩
/-- a disk of the call's own -/
def NewD (w : World) (D : DiskV) (r : Value) (w' : World) : Prop := ∃ d b kv kp ks vs, r = .pointer (some ⟨d, 0, none⟩) ∧ DAt w' d b kv kp ks vs D ∧ (∀ k, DS d b kv k → w.heap.size ≤ k) ∧ Keeps nowhere w w'
theorem dnew_bad (s z : Int) (w : World) (hb : (decide (1 ≤ s) && decide (s ≤ 16384) && decide (64 ≤ z) && decide (z ≤ 1024)) = false) : Calls Try.prog 21 #[.int .i64 s, .int .i64 z] w fun e w' => e = .returned (.tuple #[.pointer none, .int .i64 1]) ∧ w = w' := by
  have hr := right_any s z w
  rw [hb] at hr
  have Hr := Lib.hid hr
  clear hr
  go_enter Try.func21, Try.ntmps21
  go_wp2_with fail
  refine Hr.out.mono ?_
  rintro e w' ⟨rfl, rfl⟩
  go_wp2_with fail
  go_ret2
  exact ⟨rfl, rfl⟩
/-- the beginning: no sector -/
theorem dnew_start (w : World) (size : Nat) (W : World) (hW : W = (w.alloc (.map #[] 0)).alloc (.cells #[.int .i64 (size : Int), .slice none 0 0, .map (some w.heap.size), .bool false, .bool false, .int .i64 0, .slice none 0 0, .int .i64 0] 97)) :
    DAt W (w.heap.size + 1) w.heap.size (.slice none 0 0) (.slice none 0 0) [] [] (freshD 0 size) := by
  subst hW
  exact
  { box := by have := Blk.new (w.alloc (.map #[] 0)) 97 #[.int .i64 (size : Int), .slice none 0 0, .map (some w.heap.size), .bool false, .bool false, .int .i64 0, .slice none 0 0, .int .i64 0]; simpa [freshD] using this
    kept := RecT.Row.nil _ _
    klen := rfl
    sec := fun i s L h => by simp at h
    map := (KMap.new keyP w).keep ((Keeps.refl nowhere _).alloc _) (fun h => h)
    vlen := rfl
    pb := fun i p v h => by simp [freshD] at h
    keep := RecT.Row.nil _ _ }
set_option maxRecDepth 20000 in
set_option maxHeartbeats 4000000 in
theorem dnew_any (n size : Nat) (w : World) (h1 : 1 ≤ n) (h2 : n ≤ 16384) (h3 : 64 ≤ size) (h4 : size ≤ 1024) :
    Calls Try.prog 21 #[.int .i64 n, .int .i64 size] w fun e w' => ∃ r, e = .returned (.tuple #[r, .int .i64 0]) ∧ NewD w (freshD n size) r w' := by
  have hr := right_any (n : Int) (size : Int) w
  rw [show (decide ((1 : Int) ≤ (n : Int)) && decide ((n : Int) ≤ 16384) && decide ((64 : Int) ≤ (size : Int)) && decide ((size : Int) ≤ 1024)) = true by simp; omega] at hr
  have Hr := Lib.hid hr
  clear hr
  have hmm := @run_makeMap Try.prog
  obtain ⟨W, hW⟩ : ∃ W, W = (w.alloc (.map #[] 0)).alloc (.cells #[.int .i64 (size : Int), .slice none 0 0, .map (some w.heap.size), .bool false, .bool false, .int .i64 0, .slice none 0 0, .int .i64 0] 97) := ⟨_, rfl⟩
  have hS := dnew_start w size W hW
  have hkW : Keeps nowhere w W := by rw [hW]; exact ((Keeps.refl nowhere w).alloc _).alloc _
  have HW := Lib.hid hW
  have HS := Lib.hid hS
  have HkW := Lib.hid hkW
  clear hW hS hkW
  go_enter Try.func21, Try.ntmps21
  go_wp2_with fail
  refine Hr.out.mono ?_
  rintro e w' ⟨rfl, rfl⟩
  go_wp2_with fail
  rw [← HW.out]
  obtain ⟨d, hd⟩ : ∃ d, d = w.heap.size + 1 := ⟨_, rfl⟩
  obtain ⟨b, hb⟩ : ∃ b, b = w.heap.size := ⟨_, rfl⟩
  simp only [← hd]
  have hS := HS.out
  rw [← hd] at hS
  simp only [← hb] at hS
  clear HW HS
  have Hd := Lib.hid hd
  have Hb := Lib.hid hb
  have HS := Lib.hid hS
  clear hd hb hS
  go_loopw [16] (fun iv wr => ∃ (i : Nat) (kv : Value) (ks : List SlV), iv = .int .i64 i ∧ i ≤ n ∧ DAt wr d b kv (.slice none 0 0) ks [] (freshD i size) ∧ (∀ k, kv.ownBlock = some k → w.heap.size ≤ k) ∧ Keeps nowhere w wr) (fun iv _ => n - (intOf iv).toNat)
  case atStart => exact ⟨0, _, _, rfl, Nat.zero_le _, HS.out, fun k h => by simp [Value.ownBlock] at h, HkW.out⟩
  case round =>
    obtain ⟨i, kv, ks, rfl, hi, hD, hab, hk⟩ := hrel
    by_cases hlt : i < n
    · have hltI : (i : Int) < n := by omega
      have hi1 : IntKind.i64.wrap ((i : Int) + 1) = i + 1 := IntWalk.i64_in _ (by omega)
      have hkd := (Keeps.refl nowhere wr).drew
      have hD0 := hD.same hkd
      have hkr := hk.more hkd
      have q1 : ∀ w', Keeps nowhere wr.drew w' → w'.cell? ⟨d, 1, none⟩ = some kv := fun w' hh => by simpa using (hD0.same hh).cell 1
      have hKl : ks.length = i := by rw [hD.klen]; simp [freshD]
      have HD := Lib.hid hD
      have Hab := Lib.hid hab
      have Hk := Lib.hid hk
      have HD0 := Lib.hid hD0
      have Hkr := Lib.hid hkr
      have HKl := Lib.hid hKl
      clear hD hab hk hD0 hkr hKl
      go_wp2_with fail
      refine wp_region_script [0, 1, 2, 3, 4, 5, 9, 10] [4] [.ps [0, 1, 2, 3], .fs [4], .ps [5], .es [6] true, .es [7] true, .es [8] false, .ps [9, 10], .es [11] false] (Keeps nowhere wr.drew) rfl (by kernel_rfl) ?_
      refine wpS_ps rfl fun K hK => ?_
      simp only [List.map_cons, List.map_nil, Option.getD_some, List.getElem?_toArray, List.getElem?_cons_zero, List.getElem?_cons_succ]
      iterate 4 (first | (apply quietO_cons _ rfl; (intro w' _; go_simp; rfl)) | apply quietO_skip rfl)
      refine hK _ ?_
      clear hK K
      simp only [Act.put, List.setIfInBounds_toArray, List.set_cons_zero, List.set_cons_succ]
      refine wpS_fs rfl (Keeps.refl _ _) fun K hK => ?_
      simp only [List.map_cons, List.map_nil, Option.getD_some, List.getElem?_toArray, List.getElem?_cons_zero, List.getElem?_cons_succ]
      iterate 1 (first | (apply quietO_cons _ rfl; (intro w' hs; have c_0 := q1 w' hs; go_simp; rfl)) | apply quietO_skip rfl)
      refine hK _ ?_
      clear hK K
      simp only [Act.put, List.setIfInBounds_toArray, List.set_cons_zero, List.set_cons_succ]
      refine wpS_ps rfl fun K hK => ?_
      simp only [List.map_cons, List.map_nil, Option.getD_some, List.getElem?_toArray, List.getElem?_cons_zero, List.getElem?_cons_succ]
      iterate 1 (first | (apply quietO_cons _ rfl; (intro w' _; go_simp; rfl)) | apply quietO_skip rfl)
      refine hK _ ?_
      clear hK K
      simp only [Act.put, List.setIfInBounds_toArray, List.set_cons_zero, List.set_cons_succ]
      refine wpS_es rfl fun K hK => ?_
      have HK := Lib.hid hK
      clear hK
      simp only [List.map_cons, List.map_nil, Option.getD_some, List.getElem?_toArray, List.getElem?_cons_zero, List.getElem?_cons_succ]
      go_wp2_with (at_make; refine wpList_make_bytesB _ rfl _ _ rfl size (size : Int) rfl rfl rfl (by omega) ?_)
      intro w2 hs2 hk2
      obtain ⟨q, hq⟩ : ∃ q, q = wr.heap.size := ⟨_, rfl⟩
      rw [← hq] at hs2
      simp only [← hq]
      have Hs2 := Lib.hid hs2
      have Hq := Lib.hid hq
      clear hs2 hq
      go_wp2_with fail
      refine HK.out _ _ (fun _ => hk2) ?_
      clear HK K
      refine wpS_es rfl fun K hK => ?_
      have HK := Lib.hid hK
      clear hK
      simp only [List.map_cons, List.map_nil, Option.getD_some, List.getElem?_toArray, List.getElem?_cons_zero, List.getElem?_cons_succ]
      refine RecT.wpList_buildOne (R := recS) Try.underlying95 infoS (by decide) rfl (.tmp 24) rfl _ rfl ((some ⟨q, 0, none⟩, size, size) : SlV) rfl ?_
      have hk3 := hk2.alloc (.cells (recS.cs ((some ⟨q, 0, none⟩, size, size) : SlV)).toArray recS.t)
      have hk23 := (Keeps.refl nowhere w2).alloc (.cells (recS.cs ((some ⟨q, 0, none⟩, size, size) : SlV)).toArray recS.t)
      have hrd := RecT.Rd.one recS w2 ((some ⟨q, 0, none⟩, size, size) : SlV)
      obtain ⟨w3, hw3⟩ : ∃ w3, w3 = w2.alloc (.cells (recS.cs ((some ⟨q, 0, none⟩, size, size) : SlV)).toArray recS.t) := ⟨_, rfl⟩
      obtain ⟨q2, hq2⟩ : ∃ q2, q2 = w2.heap.size := ⟨_, rfl⟩
      rw [← hw3] at hk3 hk23 hrd ⊢
      simp only [← hq2] at hrd ⊢
      have hD3 := HD0.out.same hk3
      have hs3 := Hs2.out.same hk23
      have hlb : ks.length + ([((some ⟨q, 0, none⟩, size, size) : SlV)] : List SlV).length ≤ 100000000 := by have := HKl.out; simp; omega
      clear hk2 hk23
      have Hrd := Lib.hid hrd
      have Hw3 := Lib.hid hw3
      have Hq2 := Lib.hid hq2
      have HD3 := Lib.hid hD3
      have Hs3 := Lib.hid hs3
      have Hlb := Lib.hid hlb
      clear hrd hw3 hq2 hD3 hs3 hlb
      go_wp2_with fail
      refine HK.out _ _ (fun _ => hk3) ?_
      clear HK K
      have Hk3 := Lib.hid hk3
      clear hk3
      refine wpS_es rfl fun K hK => ?_
      have HK := Lib.hid hK
      clear hK
      simp only [List.map_cons, List.map_nil, Option.getD_some, List.getElem?_toArray, List.getElem?_cons_zero, List.getElem?_cons_succ]
      go_wp2_with (at_builtin; go_must (refine RecT.wpList_append (R := recS) Try.underlying95 infoS rfl (by decide) rfl (.tmp 22) (.tmp 25) rfl _ ks rfl HD3.out.kept _ _ [((some ⟨q, 0, none⟩, size, size) : SlV)] rfl Hrd.out Hlb.out ?_))
      intro v4 w4 hrow4 hk4 hf4
      obtain ⟨hD5, hk5, ⟨u, cu⟩, fu⟩ := HD3.out.sector hk4 hrow4 (s := ((some ⟨q, 0, none⟩, size, size) : SlV)) (L := zerosB size) (Hs3.out.keep hk4 (fun bb e hs => row_raw Hs3.out (.inl rfl) (HD3.out.notRaw _ (.inr (.inr hs))) e)) (by simp [zerosB, freshD])
      have hab5 : ∀ k, v4.ownBlock = some k → w.heap.size ≤ k := fun k e => by
        rcases hf4 k e with h | h
        · exact Hab.out k h
        · have := Hk3.out.size; have := Hkr.out.size; omega
      have hk6 : Keeps nowhere w (w4.setCell ⟨d, 1, none⟩ v4) := (Hkr.out.more Hk3.out).trans hk5 (fun k hk e => by
        rcases e with e | e
        · have := Hd.out; omega
        · have := Hab.out k e; omega)
      rw [show (freshD i size).size = size from rfl, show (freshD i size).kept ++ [zerosB size] = List.replicate (i + 1) (zerosB size) by simp [freshD, List.replicate_succ'], show (freshD i size).pend = [] from rfl] at hD5
      obtain ⟨A4, c4, hv4, -⟩ := hrow4.form
      clear hk4 hf4 hk5 hrow4
      generalize (ks ++ [((some ⟨q, 0, none⟩, size, size) : SlV)]).length = N4 at hv4
      subst hv4
      have HD5 := Lib.hid hD5
      have Hab5 := Lib.hid hab5
      have Hk6 := Lib.hid hk6
      clear hD5 hab5 hk6
      go_wp2_with fail
      refine HK.out _ _ (fun h => by cases h) ?_
      clear HK K
      refine wpS_ps rfl fun K hK => ?_
      simp only [List.map_cons, List.map_nil, Option.getD_some, List.getElem?_toArray, List.getElem?_cons_zero, List.getElem?_cons_succ]
      iterate 2 (first | (apply quietO_cons _ rfl; (intro w' _; go_simp; rfl)) | apply quietO_skip rfl)
      refine hK _ ?_
      clear hK K
      simp only [Act.put, List.setIfInBounds_toArray, List.set_cons_zero, List.set_cons_succ]
      refine wpS_es rfl fun K hK => ?_
      have HK := Lib.hid hK
      clear hK
      simp only [List.map_cons, List.map_nil, Option.getD_some, List.getElem?_toArray, List.getElem?_cons_zero, List.getElem?_cons_succ]
      go_wp2_with fail
      go_wp2_with fail
      refine HK.out _ _ (fun h => by cases h) ?_
      clear HK K
      refine wpS_nil ?_
      go_wp2_with fail
      go_roundw
      case rel => exact ⟨i + 1, _, _, by simp, by omega, HD5.out, Hab5.out, Hk6.out⟩
      case measure => simp [intOf]; omega
    · obtain rfl : i = n := by omega
      have hiI : ¬ (i : Int) < i := by omega
      have habs : ∀ k, DS d b kv k → w.heap.size ≤ k := by
        have e1 := Hd.out
        have e2 := Hb.out
        rintro k (e | e | e)
        · omega
        · omega
        · exact hab k e
      have HD := Lib.hid hD
      have Hab := Lib.hid hab
      have Hk := Lib.hid hk
      have Habs := Lib.hid habs
      clear hD hab hk habs
      go_wp2_with fail
      go_ret2
      exact ⟨_, rfl, d, b, kv, _, ks, [], rfl, HD.out, Habs.out, Hk.out⟩
end Go.Proofs.Ytnddaildicmneaa
