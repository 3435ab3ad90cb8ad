/-
  fid: New, Get, Put, Set, Drop.
-/
import Derived.Test.YtnddaildicmneaaFd0
import Derived.Laws.ResultCell
namespace Go.Proofs.Ytnddaildicmneaa
open Go.RowKit Go.Maps

def fp (p : Nat) : Value := .pointer (some ⟨p, 0, none⟩)
/-- The table at `p` holds the fids `l` in the map `b`. -/
def FTab (w : World) (p b : Nat) (l : List (Nat × FidV)) : Prop := Blk w p 86 #[.map (some b)] ∧ MapAt w b l
theorem FTab.ne {w : World} {p b : Nat} {l : List (Nat × FidV)} (t : FTab w p b l) : b ≠ p := by
  rintro rfl
  obtain ⟨h1, ⟨es, clock, hb, -⟩, -⟩ := t
  unfold Blk at h1
  rw [h1] at hb
  cases hb
theorem FTab.keep {S : Nat → Prop} {w w' : World} {p b : Nat} {l : List (Nat × FidV)} (t : FTab w p b l) (hk : Keeps S w w') (hp : ¬ S p) (hb : ¬ S b) : FTab w' p b l := ⟨t.1.keep hk hp, t.2.keep hk hb⟩
theorem FTab.same {w w' : World} {p b : Nat} {l : List (Nat × FidV)} (t : FTab w p b l) (hk : Keeps nowhere w w') : FTab w' p b l := t.keep hk (fun h => h) (fun h => h)
theorem FTab.lt {w : World} {p b : Nat} {l : List (Nat × FidV)} (t : FTab w p b l) : p < w.heap.size ∧ b < w.heap.size := ⟨t.1.lt, t.2.lt⟩

theorem mapD_nil : mapD [] = .map [] := rfl
theorem fnew_any (w : World) : Calls Try.prog 14 #[] w fun e w' => ∃ p b, e = .returned (fp p) ∧ w.heap.size ≤ p ∧ w.heap.size ≤ b ∧ FTab w' p b [] ∧ Keeps nowhere w w' := by
  have hmm := @run_makeMap Try.prog
  have hm := World.ownsMap_made w Try.prog 28 rdF
  go_enter Try.func14, Try.ntmps14
  go_wp2_with fail
  go_ret
  have hk := ((Keeps.refl nowhere w).alloc (.map #[] 0))
  refine ⟨_, w.heap.size, rfl, by simp, Nat.le_refl _, ⟨(by have := Blk.new (w.alloc (.map #[] 0)) 86 #[.map (some w.heap.size)]; simpa using this), ?_⟩, hk.alloc _⟩
  exact ⟨(by have := hm.alloc (.cells #[.map (some w.heap.size)] 86); exact this), List.Pairwise.nil⟩

/-- what Get answers -/
def getE (l : List (Nat × FidV)) (x : Nat) : Int := if (look l x).isSome then 0 else 8
def getF (l : List (Nat × FidV)) (x : Nat) : FidV := (look l x).getD FidV.zero
/-- a look-up, as the walk meets it -/
theorem look_any {w : World} {b : Nat} {l : List (Nat × FidV)} (h : MapAt w b l) {x : Nat} (hx : x < 4294967296) :
    (Instr.lookup 84 (.map (some b)) (.int .u32 x) true).run Try.prog w = .ok (.tuple #[(getF l x).v, .bool (look l x).isSome]) w := by
  obtain ⟨v, ps, hrun, hv⟩ := h.1.look_ok keyedU Try.underlying84 (zeroFd w) (rdF_v FidV.zero) (keyU hx)
  rw [hrun, mapD_has]
  obtain ⟨f, rfl, he⟩ := rdF_inv hv
  rw [mapD_at] at he
  unfold getF
  cases hl : look l x with
  | none =>
    rw [hl] at he
    simp only [Prod.mk.injEq, DataW.held.injEq] at he
    rw [Option.getD_none, ← he.1]
  | some g =>
    rw [hl] at he
    simp only [Prod.mk.injEq, DataW.held.injEq] at he
    rw [Option.getD_some, ← he.1]

theorem fget_any (w : World) (p b : Nat) (l : List (Nat × FidV)) (x : Nat) (t : FTab w p b l) (hx : x < 4294967296) :
    Calls Try.prog 17 #[fp p, .int .u32 x] w fun e w' => e = .returned (.tuple #[(getF l x).v, .int .i64 (getE l x)]) ∧ Keeps nowhere w w' := by
  have c0 : w.cell? ⟨p, 0, none⟩ = some (.map (some b)) := t.1.cell 0
  have hpl := t.lt.1
  have hlk : ∀ o, (Instr.lookup 84 (.map (some b)) (.int .u32 x) true).run Try.prog (w.alloc o) = .ok (.tuple #[(getF l x).v, .bool (look l x).isSome]) (w.alloc o) :=
    fun o => look_any (t.2.keep ((Keeps.refl nowhere w).alloc o) (fun h => h)) hx
  unfold fp
  cases hL : look l x with
  | none =>
    have hE : getE l x = 8 := by rw [getE, hL]; rfl
    have hF : getF l x = FidV.zero := by rw [getF, hL]; rfl
    rw [hF] at hlk ⊢
    rw [hE]
    simp only [hL, FidV.zero, FidV.v] at hlk ⊢
    clear hL hE hF t
    go_enter Try.func17, Try.ntmps17
    go_wp2_with fail
    (try simp only [Exit.inBlock, Exit.then])
    refine bodyPost_ret (v := .tuple #[FidV.zero.v, .int .i64 8]) ?_ rfl ⟨rfl, ?_⟩
    · rw [results_cell_tmp rfl]
      go_simp
      rfl
    · repeat' (first | exact Keeps.refl _ _ | refine Keeps.alloc ?_ _ | refine Keeps.setCell ?_ (fun h => absurd h (by simp <;> omega)) _)
      done
  | some f =>
    have hE : getE l x = 0 := by rw [getE, hL]; rfl
    have hF : getF l x = f := by rw [getF, hL]; rfl
    rw [hF] at hlk ⊢
    rw [hE]
    obtain ⟨f1, f2, f3, f4, f5, f6⟩ := f
    simp only [hL, FidV.v] at hlk ⊢
    clear hL hE hF t
    go_enter Try.func17, Try.ntmps17
    go_wp2_with fail
    (try simp only [Exit.inBlock, Exit.then])
    refine bodyPost_ret (v := .tuple #[.agg #[.string f1, .int .u64 f2, .bool f3, .int .u8 f4, .int .u64 f5, .int .i64 f6], .int .i64 0]) ?_ rfl ⟨rfl, ?_⟩
    · rw [results_cell_tmp rfl]
      go_simp
    · repeat' (first | exact Keeps.refl _ _ | refine Keeps.alloc ?_ _ | refine Keeps.setCell ?_ (fun h => absurd h (by simp <;> omega)) _)
      done

/-- what Put answers, what the table holds behind it -/
def putE (l : List (Nat × FidV)) (x : Nat) : Int := if x = 4294967295 then 1 else if (look l x).isSome then 9 else if 64 ≤ l.length then 14 else 0
def putL (l : List (Nat × FidV)) (x : Nat) (f : FidV) : List (Nat × FidV) := if putE l x = 0 then putM l x f else l
theorem wp_name {P : Program} {c : Code} {Q : Exit → Act → World → Prop} {a : Act} {w : World} (h : ∀ W, W = w → c.wp P Q a W) : c.wp P Q a w := h w rfl
theorem infoBox {w W : World} {p : Nat} {f : FidV} (h : Blk w p 31 f.cs.toArray) (hk : Keeps nowhere w W) (i : Nat) : W.cell? ⟨p, i, none⟩ = f.cs[i]? := by
  rw [(h.keep hk (fun h => h)).cell]; simp

theorem ftab_same {w w' : World} {p b : Nat} {l l' : List (Nat × FidV)} (t : FTab w p b l) (hk : Keeps nowhere w w') (e : l' = l) : FTab w' p b l' ∧ Keeps (only b) w w' :=
  ⟨by rw [e]; exact t.same hk, hk.mono (fun _ _ h => h.elim)⟩

set_option maxHeartbeats 1000000 in
theorem fput_any (w : World) (p b : Nat) (l : List (Nat × FidV)) (x : Nat) (f : FidV) (t : FTab w p b l) (hx : x < 4294967296) (hl : l.length ≤ 100000) :
    Calls Try.prog 15 #[fp p, .int .u32 x, f.v] w fun e w' => e = .returned (.int .i64 (putE l x)) ∧ FTab w' p b (putL l x f) ∧ Keeps (only b) w w' := by
  have c0 : w.cell? ⟨p, 0, none⟩ = some (.map (some b)) := t.1.cell 0
  have hpl := t.lt.1
  have hlk : ∀ o, (Instr.lookup 84 (.map (some b)) (.int .u32 x) true).run Try.prog (w.alloc o) = .ok (.tuple #[(getF l x).v, .bool (look l x).isSome]) (w.alloc o) :=
    fun o => look_any (t.2.keep ((Keeps.refl nowhere w).alloc o) (fun h => h)) hx
  unfold fp
  obtain ⟨G, hG⟩ : ∃ G, G = getF l x := ⟨_, rfl⟩
  rw [← hG] at hlk
  clear hG
  obtain ⟨g1, g2, g3, g4, g5, g6⟩ := G
  obtain ⟨f1, f2, f3, f4, f5, f6⟩ := id f
  simp only [FidV.v] at hlk ⊢
  obtain ⟨L, hL⟩ : ∃ L, L = l.length := ⟨_, rfl⟩
  obtain ⟨M, hM⟩ : ∃ M, M = (look l x).isSome := ⟨_, rfl⟩
  have hE0 : putE l x = if x = 4294967295 then 1 else if M = true then 9 else if 64 ≤ L then 14 else 0 := by rw [hM, hL]; rfl
  rw [← hM] at hlk
  by_cases h1 : x = 4294967295
  · have hE : putE l x = 1 := by rw [hE0, if_pos h1]
    have h1I : ((x : Int) == 4294967295) = true := by simp [h1]
    have T := Lib.hid t
    have HE := Lib.hid hE
    have HE0 := Lib.hid hE0
    have HM := Lib.hid hM
    have HL := Lib.hid hL
    have H1 := Lib.hid h1
    clear t hE hE0 hM hL h1
    go_enter Try.func15, Try.ntmps15
    go_wp2_with fail
    go_ret
    refine ⟨by rw [HE.out]; rfl, ftab_same T.out ?_ (by rw [putL, if_neg (by rw [HE.out]; decide)])⟩
    repeat' (first | exact Keeps.refl _ _ | refine Keeps.alloc ?_ _ | refine Keeps.setCell ?_ (fun h => absurd h (by simp <;> omega)) _)
  · have h1I : ((x : Int) == 4294967295) = false := by simp; omega
    cases M with
    | true =>
      have hE : putE l x = 9 := by rw [hE0, if_neg h1, if_pos rfl]
      have T := Lib.hid t
      have HE := Lib.hid hE
      have HE0 := Lib.hid hE0
      have HM := Lib.hid hM
      have HL := Lib.hid hL
      have H1 := Lib.hid h1
      clear t hE hE0 hM hL h1
      go_enter Try.func15, Try.ntmps15
      go_wp2_with fail
      go_ret
      refine ⟨by rw [HE.out]; rfl, ftab_same T.out ?_ (by rw [putL, if_neg (by rw [HE.out]; decide)])⟩
      repeat' (first | exact Keeps.refl _ _ | refine Keeps.alloc ?_ _ | refine Keeps.setCell ?_ (fun h => absurd h (by simp <;> omega)) _)
    | false =>
      by_cases h64 : 64 ≤ L
      · have hE : putE l x = 14 := by rw [hE0, if_neg h1, if_neg (by decide), if_pos h64]
        have h64I : (64 : Int) ≤ L := by omega
        have T := Lib.hid t
        have HE := Lib.hid hE
        have HE0 := Lib.hid hE0
        have HM := Lib.hid hM
        have HL := Lib.hid hL
        have H1 := Lib.hid h1
        clear t hE hE0 hM hL h1
        go_enter Try.func15, Try.ntmps15
        go_wp2_with (at_len; refine wpList_len_own _ rfl _ 84 rfl 28 31 Try.underlying84 rdF b l.length (mapD l) rfl (T.out.2.keep (S := nowhere) (by repeat' (first | exact Keeps.refl _ _ | refine Keeps.alloc ?_ _ | refine Keeps.setCell ?_ (fun h => absurd h (by simp <;> omega)) _)) (fun h => h)).1 ?_; rw [mapD_size, ← HL.out])
        go_ret
        refine ⟨by rw [HE.out]; rfl, ftab_same T.out ?_ (by rw [putL, if_neg (by rw [HE.out]; decide)])⟩
        repeat' (first | exact Keeps.refl _ _ | refine Keeps.alloc ?_ _ | refine Keeps.setCell ?_ (fun h => absurd h (by simp <;> omega)) _)
      · have hE : putE l x = 0 := by rw [hE0, if_neg h1, if_neg (by decide), if_neg h64]
        have h64I : ¬ (64 : Int) ≤ L := by omega
        have T := Lib.hid t
        have HE := Lib.hid hE
        have HE0 := Lib.hid hE0
        have HM := Lib.hid hM
        have HL := Lib.hid hL
        have H1 := Lib.hid h1
        have Hx := Lib.hid hx
        clear t hE hE0 hM hL h1 hx
        go_enter Try.func15, Try.ntmps15
        go_wp2_with (at_len; refine wpList_len_own _ rfl _ 84 rfl 28 31 Try.underlying84 rdF b l.length (mapD l) rfl (T.out.2.keep (S := nowhere) (by repeat' (first | exact Keeps.refl _ _ | refine Keeps.alloc ?_ _ | refine Keeps.setCell ?_ (fun h => absurd h (by simp <;> omega)) _)) (fun h => h)).1 ?_; rw [mapD_size, ← HL.out])
        refine wp_name ?_
        intro wx hwx
        have hkx : Keeps nowhere w wx := by
          rw [hwx]
          repeat' (first | exact Keeps.refl _ _ | refine Keeps.alloc ?_ _ | refine Keeps.setCell ?_ (fun h => absurd h (by simp <;> omega)) _)
        have hbk : Keeps nowhere (w.alloc (.cells f.cs.toArray 31)) wx := by
          rw [hwx]
          repeat' (first | exact Keeps.refl _ _ | refine Keeps.alloc ?_ _ | refine Keeps.setCell ?_ (fun h => absurd h (by simp <;> omega)) _)
        have hbx := (Blk.new w 31 f.cs.toArray).keep hbk (fun h => h)
        have tx := T.out.same hkx
        clear hwx hbk
        have q0 : ∀ w', Keeps nowhere wx.drew w' → w'.cell? ⟨p, 0, none⟩ = some (.map (some b)) := fun w' h => (h.cell (p := ⟨p, 0, none⟩) tx.lt.1 (fun h => h)).trans (tx.1.cell 0)
        have qc : ∀ i w', Keeps nowhere wx.drew w' → w'.cell? ⟨w.heap.size, i, none⟩ = f.cs[i]? := fun i w' h => (h.cell (p := ⟨w.heap.size, i, none⟩) hbx.lt (fun h => h)).trans (infoBox hbx (Keeps.refl _ _) i)
        have p0 := qc 0
        have p1 := qc 1
        have p2 := qc 2
        have p3 := qc 3
        have p4 := qc 4
        have p5 := qc 5
        simp only [FidV.cs, List.getElem?_cons_zero, List.getElem?_cons_succ] at p0 p1 p2 p3 p4 p5
        have hown : wx.drew.ownsMap Try.prog 28 rdF b l.length (mapD l) := tx.2.1
        have hris := tx.2.2
        clear qc hbx
        have Tx := Lib.hid tx
        have Hkx := Lib.hid hkx
        have Hown := Lib.hid hown
        have Hris := Lib.hid hris
        clear tx hkx hown hris
        refine wp_region_script [0, 1, 2, 3, 4, 5] [3, 5] [.ps [0, 1, 2], .fs [3], .ps [4], .fs [5], .es [6] false] (Keeps nowhere wx.drew) rfl (by kernel_rfl) ?_
        refine wpS_ps rfl fun K hK => ?_
        simp only [List.map_cons, List.map_nil, Option.getD_some, List.getElem?_toArray, List.getElem?_cons_zero, List.getElem?_cons_succ]
        iterate 3 (first | (apply quietO_cons _ rfl; (intro w' _; go_simp; rfl)) | apply quietO_skip rfl)
        refine hK _ ?_
        clear hK K
        simp only [Act.put, List.setIfInBounds_toArray, List.set_cons_zero, List.set_cons_succ]
        refine wpS_fs rfl (Keeps.refl _ _) fun K hK => ?_
        simp only [List.map_cons, List.map_nil, Option.getD_some, List.getElem?_toArray, List.getElem?_cons_zero, List.getElem?_cons_succ]
        iterate 1 (first | (apply quietO_cons _ rfl; (intro w' hs; have c_0 := q0 w' hs; go_simp; rfl)) | apply quietO_skip rfl)
        refine hK _ ?_
        clear hK K
        simp only [Act.put, List.setIfInBounds_toArray, List.set_cons_zero, List.set_cons_succ]
        refine wpS_ps rfl fun K hK => ?_
        simp only [List.map_cons, List.map_nil, Option.getD_some, List.getElem?_toArray, List.getElem?_cons_zero, List.getElem?_cons_succ]
        iterate 1 (first | (apply quietO_cons _ rfl; (intro w' _; go_simp; rfl)) | apply quietO_skip rfl)
        refine hK _ ?_
        clear hK K
        simp only [Act.put, List.setIfInBounds_toArray, List.set_cons_zero, List.set_cons_succ]
        refine wpS_fs rfl (Keeps.refl _ _) fun K hK => ?_
        simp only [List.map_cons, List.map_nil, Option.getD_some, List.getElem?_toArray, List.getElem?_cons_zero, List.getElem?_cons_succ]
        iterate 1 (first | (apply quietO_cons _ rfl; (intro w' hs; have c_0 := p0 w' hs; have c_1 := p1 w' hs; have c_2 := p2 w' hs; have c_3 := p3 w' hs; have c_4 := p4 w' hs; have c_5 := p5 w' hs; go_simp; rfl)) | apply quietO_skip rfl)
        refine hK _ ?_
        clear hK K
        simp only [Act.put, List.setIfInBounds_toArray, List.set_cons_zero, List.set_cons_succ]
        clear q0 p0 p1 p2 p3 p4 p5
        refine wpS_es rfl fun K hK => ?_
        have HK := Lib.hid hK
        clear hK
        simp only [List.map_cons, List.map_nil, Option.getD_some, List.getElem?_toArray, List.getElem?_cons_zero, List.getElem?_cons_succ]
        go_wp2_with (at_mapUpdate; refine wpList_mapUpdate_in _ rfl _ _ _ 84 rfl 28 31 keyedU Try.underlying84 rdF b l.length (mapD l) rfl Hown.out (by unfold maxLen; omega) _ _ (lkU x) rfl rfl (keyU Hx.out) (.held f.v) [] (rdF_v f) ?_)
        intro w7 hown7 hturn
        have hk7 := mapTurned_keeps hturn
        have hm7 : MapAt w7 b (putM l x f) := MapAt.of (by rw [mapD_put] at hown7; exact hown7) (Hris.out.put x f)
        have ht7 : FTab w7 p b (putM l x f) := ⟨Tx.out.1.keep (w := wx.drew) hk7 (fun h => Tx.out.ne h.symm), hm7⟩
        have hkA : Keeps (only b) w w7 := (Hkx.out.drew.mono (fun _ _ h => h.elim)).trans hk7 (fun _ _ h => h)
        clear hown7 hturn hk7 hm7
        have Ht7 := Lib.hid ht7
        have HkA := Lib.hid hkA
        clear ht7 hkA
        go_wp2_with fail
        go_wp2_with fail
        refine HK.out _ _ (fun h => by cases h) ?_
        clear HK K
        refine wpS_nil ?_
        go_wp2_with fail
        go_ret
        exact ⟨by rw [HE.out]; rfl, by rw [putL, if_pos HE.out]; exact Ht7.out, HkA.out⟩

/-- what the table holds behind Set -/
def setL (l : List (Nat × FidV)) (x : Nat) (f : FidV) : List (Nat × FidV) := if getE l x = 0 then putM l x f else l
theorem getE_cases (l : List (Nat × FidV)) (x : Nat) : (getE l x = 0 ∧ (look l x).isSome = true) ∨ (getE l x = 8 ∧ (look l x).isSome = false ∧ look l x = none) := by
  unfold getE
  cases h : look l x with
  | none => exact .inr ⟨rfl, rfl, rfl⟩
  | some f => exact .inl ⟨rfl, rfl⟩

set_option maxHeartbeats 1000000 in
theorem fset_any (w : World) (p b : Nat) (l : List (Nat × FidV)) (x : Nat) (f : FidV) (t : FTab w p b l) (hx : x < 4294967296) (hl : l.length ≤ 100000) :
    Calls Try.prog 16 #[fp p, .int .u32 x, f.v] w fun e w' => e = .returned (.int .i64 (getE l x)) ∧ FTab w' p b (setL l x f) ∧ Keeps (only b) w w' := by
  have hkb := (Keeps.refl nowhere w).alloc (.cells f.cs.toArray 31)
  have tb := t.same hkb
  have hget := fget_any _ p b l x tb hx
  have hbb := Blk.new w 31 f.cs.toArray
  obtain ⟨G, hG⟩ : ∃ G, G = getF l x := ⟨_, rfl⟩
  rw [← hG] at hget
  clear hG
  obtain ⟨g1, g2, g3, g4, g5, g6⟩ := G
  unfold fp at hget ⊢
  simp only [FidV.v, FidV.cs] at hget hkb hbb ⊢
  rcases getE_cases l x with ⟨hE, hS⟩ | ⟨hE, hS, hN⟩
  · rw [hE] at hget
    have hset : setL l x f = putM l x f := if_pos hE
    rw [hset, hE]
    have Hget := Lib.hid hget
    have T := Lib.hid t
    have HE := Lib.hid hE
    have HS := Lib.hid hS
    have Hx := Lib.hid hx
    have Hkb := Lib.hid hkb
    have Tb := Lib.hid tb
    have Hbb := Lib.hid hbb
    have Hset := Lib.hid hset
    clear hget t hE hS hx hkb tb hbb hset
    go_enter Try.func16, Try.ntmps16
    go_wp2_with fail
    refine Hget.out.mono ?_
    rintro e w1 ⟨rfl, hk1⟩
    have hb1 := Hbb.out.keep hk1 (fun h => h)
    have t1 := Tb.out.same hk1
    have hkw := Hkb.out.more hk1
    have c1 := hb1.lt
    have c2 := t1.lt.1
    clear hk1
    have Hb1 := Lib.hid hb1
    have T1 := Lib.hid t1
    have Hkw := Lib.hid hkw
    clear hb1 t1 hkw
    go_wp2_with fail
    refine wp_name ?_
    intro wx hwx
    have hkx : Keeps nowhere w1 wx := by
      rw [hwx]
      repeat' (first | exact Keeps.refl _ _ | refine Keeps.alloc ?_ _ | refine Keeps.setCell ?_ (fun h => absurd h (by simp <;> omega)) _)
    have hbx := Hb1.out.keep hkx (fun h => h)
    have tx := T1.out.same hkx
    clear hwx c1 c2
    have q0 : ∀ w', Keeps nowhere wx.drew w' → w'.cell? ⟨p, 0, none⟩ = some (.map (some b)) := fun w' h => (h.cell (p := ⟨p, 0, none⟩) tx.lt.1 (fun h => h)).trans (tx.1.cell 0)
    have qc : ∀ i w', Keeps nowhere wx.drew w' → w'.cell? ⟨w.heap.size, i, none⟩ = f.cs[i]? := fun i w' h => (h.cell (p := ⟨w.heap.size, i, none⟩) hbx.lt (fun h => h)).trans (infoBox hbx (Keeps.refl _ _) i)
    have p0 := qc 0
    have p1 := qc 1
    have p2 := qc 2
    have p3 := qc 3
    have p4 := qc 4
    have p5 := qc 5
    simp only [FidV.cs, List.getElem?_cons_zero, List.getElem?_cons_succ] at p0 p1 p2 p3 p4 p5
    have hown : wx.drew.ownsMap Try.prog 28 rdF b l.length (mapD l) := tx.2.1
    have hris := tx.2.2
    have hkW := Hkw.out.more hkx
    clear qc hbx hkx
    have Tx := Lib.hid tx
    have Hown := Lib.hid hown
    have Hris := Lib.hid hris
    have HkW := Lib.hid hkW
    clear tx hown hris hkW
    refine wp_region_script [0, 1, 2, 3, 4, 5] [3, 5] [.ps [0, 1, 2], .fs [3], .ps [4], .fs [5], .es [6] false] (Keeps nowhere wx.drew) rfl (by kernel_rfl) ?_
    refine wpS_ps rfl fun K hK => ?_
    simp only [List.map_cons, List.map_nil, Option.getD_some, List.getElem?_toArray, List.getElem?_cons_zero, List.getElem?_cons_succ]
    iterate 3 (first | (apply quietO_cons _ rfl; (intro w' _; go_simp; rfl)) | apply quietO_skip rfl)
    refine hK _ ?_
    clear hK K
    simp only [Act.put, List.setIfInBounds_toArray, List.set_cons_zero, List.set_cons_succ]
    refine wpS_fs rfl (Keeps.refl _ _) fun K hK => ?_
    simp only [List.map_cons, List.map_nil, Option.getD_some, List.getElem?_toArray, List.getElem?_cons_zero, List.getElem?_cons_succ]
    iterate 1 (first | (apply quietO_cons _ rfl; (intro w' hs; have c_0 := q0 w' hs; go_simp; rfl)) | apply quietO_skip rfl)
    refine hK _ ?_
    clear hK K
    simp only [Act.put, List.setIfInBounds_toArray, List.set_cons_zero, List.set_cons_succ]
    refine wpS_ps rfl fun K hK => ?_
    simp only [List.map_cons, List.map_nil, Option.getD_some, List.getElem?_toArray, List.getElem?_cons_zero, List.getElem?_cons_succ]
    iterate 1 (first | (apply quietO_cons _ rfl; (intro w' _; go_simp; rfl)) | apply quietO_skip rfl)
    refine hK _ ?_
    clear hK K
    simp only [Act.put, List.setIfInBounds_toArray, List.set_cons_zero, List.set_cons_succ]
    refine wpS_fs rfl (Keeps.refl _ _) fun K hK => ?_
    simp only [List.map_cons, List.map_nil, Option.getD_some, List.getElem?_toArray, List.getElem?_cons_zero, List.getElem?_cons_succ]
    iterate 1 (first | (apply quietO_cons _ rfl; (intro w' hs; have c_0 := p0 w' hs; have c_1 := p1 w' hs; have c_2 := p2 w' hs; have c_3 := p3 w' hs; have c_4 := p4 w' hs; have c_5 := p5 w' hs; go_simp; rfl)) | apply quietO_skip rfl)
    refine hK _ ?_
    clear hK K
    simp only [Act.put, List.setIfInBounds_toArray, List.set_cons_zero, List.set_cons_succ]
    clear q0 p0 p1 p2 p3 p4 p5
    refine wpS_es rfl fun K hK => ?_
    have HK := Lib.hid hK
    clear hK
    simp only [List.map_cons, List.map_nil, Option.getD_some, List.getElem?_toArray, List.getElem?_cons_zero, List.getElem?_cons_succ]
    go_wp2_with (at_mapUpdate; refine wpList_mapUpdate_in _ rfl _ _ _ 84 rfl 28 31 keyedU Try.underlying84 rdF b l.length (mapD l) rfl Hown.out (by unfold maxLen; omega) _ _ (lkU x) rfl rfl (keyU Hx.out) (.held f.v) [] (rdF_v f) ?_)
    intro w7 hown7 hturn
    have hk7 := mapTurned_keeps hturn
    have hm7 : MapAt w7 b (putM l x f) := MapAt.of (by rw [mapD_put] at hown7; exact hown7) (Hris.out.put x f)
    have ht7 : FTab w7 p b (putM l x f) := ⟨Tx.out.1.keep (w := wx.drew) hk7 (fun h => Tx.out.ne h.symm), hm7⟩
    have hkA : Keeps (only b) w w7 := (HkW.out.drew.mono (fun _ _ h => h.elim)).trans hk7 (fun _ _ h => h)
    clear hown7 hturn hk7 hm7
    have Ht7 := Lib.hid ht7
    have HkA := Lib.hid hkA
    clear ht7 hkA
    go_wp2_with fail
    go_wp2_with fail
    refine HK.out _ _ (fun h => by cases h) ?_
    clear HK K
    refine wpS_nil ?_
    go_wp2_with fail
    go_ret
    exact ⟨rfl, Ht7.out, HkA.out⟩
  · rw [hE] at hget
    have hset : setL l x f = l := if_neg (by rw [hE]; decide)
    rw [hset, hE]
    have Hget := Lib.hid hget
    have T := Lib.hid t
    have HE := Lib.hid hE
    have HS := Lib.hid hS
    have HN := Lib.hid hN
    have Hx := Lib.hid hx
    have Hkb := Lib.hid hkb
    have Tb := Lib.hid tb
    have Hbb := Lib.hid hbb
    have Hset := Lib.hid hset
    clear hget t hE hS hN hx hkb tb hbb hset
    go_enter Try.func16, Try.ntmps16
    go_wp2_with fail
    refine Hget.out.mono ?_
    rintro e w1 ⟨rfl, hk1⟩
    have t1 := Tb.out.same hk1
    have hkw := Hkb.out.more hk1
    clear hk1
    have T1 := Lib.hid t1
    have Hkw := Lib.hid hkw
    clear t1 hkw
    go_wp2_with fail
    go_ret
    refine ⟨rfl, ftab_same T.out (Hkw.out.more ?_) rfl⟩
    repeat' (first | exact Keeps.refl _ _ | refine Keeps.alloc ?_ _ | refine Keeps.setCell ?_ (fun h => absurd h (by simp <;> omega)) _)

theorem Keeps.setOnly {w w' : World} {q i : Nat} {u : Value} (h : Keeps (only q) w w') : Keeps (only q) w (w'.setCell ⟨q, i, none⟩ u) := Keeps.setCell (p := ⟨q, i, none⟩) h (fun _ => rfl) u
/-- a block of the call's own is written -/
theorem ftab_aside {w w1 w2 : World} {p b q : Nat} {l : List (Nat × FidV)} (t : FTab w1 p b l) (hk : Keeps (only b) w w1) (hp : p ≠ q) (hb : b ≠ q) (hq : w.heap.size ≤ q) (hk2 : Keeps (only q) w1 w2) : FTab w2 p b l ∧ Keeps (only b) w w2 :=
  ⟨t.keep hk2 hp hb, hk.trans hk2 (fun k h e => by unfold only at e; omega)⟩

set_option maxHeartbeats 1000000 in
theorem fdrop_any (w : World) (p b : Nat) (l : List (Nat × FidV)) (x : Nat) (t : FTab w p b l) (hx : x < 4294967296) (hl : l.length ≤ 100000) :
    Calls Try.prog 18 #[fp p, .int .u32 x] w fun e w' => e = .returned (.tuple #[(getF l x).v, .int .i64 (getE l x)]) ∧ FTab w' p b (delM l x) ∧ Keeps (only b) w w' := by
  have hkb := (Keeps.refl nowhere w).alloc (.cells FidV.zero.cs.toArray 31)
  have tb := t.same hkb
  have hget := fget_any _ p b l x tb hx
  have hbb := Blk.new w 31 FidV.zero.cs.toArray
  obtain ⟨G, hG⟩ : ∃ G, G = getF l x := ⟨_, rfl⟩
  obtain ⟨E, hE⟩ : ∃ E, E = getE l x := ⟨_, rfl⟩
  rw [← hG, ← hE] at hget
  rw [← hG, ← hE]
  clear hG hE
  obtain ⟨g1, g2, g3, g4, g5, g6⟩ := G
  unfold fp at hget ⊢
  simp only [FidV.v, FidV.cs, FidV.zero] at hget hkb hbb ⊢
  have Hget := Lib.hid hget
  have T := Lib.hid t
  have Hx := Lib.hid hx
  have Hkb := Lib.hid hkb
  have Tb := Lib.hid tb
  have Hbb := Lib.hid hbb
  clear hget t hx hkb tb hbb
  go_enter Try.func18, Try.ntmps18
  go_wp2_with fail
  refine Hget.out.mono ?_
  rintro e w1 ⟨rfl, hk1⟩
  have hb1 := Hbb.out.keep hk1 (fun h => h)
  have t1 := Tb.out.same hk1
  have hkw := Hkb.out.more hk1
  have c0 : w1.cell? ⟨p, 0, none⟩ = some (.map (some b)) := t1.1.cell 0
  have c1 := hb1.lt
  have c2 := t1.lt.1
  clear hk1
  have Hb1 := Lib.hid hb1
  have T1 := Lib.hid t1
  have Hkw := Lib.hid hkw
  clear hb1 t1 hkw
  go_wp2_with (at_delete; refine wpList_delete_own _ rfl _ _ 84 28 rfl 31 keyedU Try.underlying84 rdF b l.length (mapD l) rfl (T1.out.2.keep (S := nowhere) (by repeat' (first | exact Keeps.refl _ _ | refine Keeps.alloc ?_ _ | refine Keeps.setCell ?_ (fun h => absurd h (by simp <;> omega)) _)) (fun h => h)).1 _ _ rfl (keyU Hx.out) ?_)
  intro w5 hown5 hturn
  have hk5 := mapTurned_keeps hturn
  have hm5 : MapAt w5 b (delM l x) := MapAt.of (by rw [mapD_del] at hown5; exact hown5) (T.out.2.2.del x)
  have hbG := (Blk.new w1 31 #[.string g1, .int .u64 g2, .bool g3, .int .u8 g4, .int .u64 g5, .int .i64 g6]).keep hk5 (fun e => by have := T1.out.lt.2; unfold only at e; omega)
  have hb4 := (Hb1.out.alloc (.cells #[.string g1, .int .u64 g2, .bool g3, .int .u8 g4, .int .u64 g5, .int .i64 g6] 31)).keep hk5 (fun e => by have := T.out.lt.2; unfold only at e; omega)
  have ht5 : FTab w5 p b (delM l x) := ⟨(T1.out.1.alloc _).keep hk5 (fun h => T.out.ne h.symm), hm5⟩
  have hkA : Keeps (only b) w w5 := ((Hkw.out.alloc _).mono (fun _ _ h => h.elim)).trans hk5 (fun _ _ h => h)
  clear hown5 hturn hk5 hm5
  have c0 := hbG.cell 0
  have c1 := hbG.cell 1
  have c2 := hbG.cell 2
  have c3 := hbG.cell 3
  have c4 := hbG.cell 4
  have c5 := hbG.cell 5
  simp only [List.getElem?_toArray, List.getElem?_cons_zero, List.getElem?_cons_succ] at c0 c1 c2 c3 c4 c5
  have y0 := hb4.cell 0
  have y1 := hb4.cell 1
  have y2 := hb4.cell 2
  have y3 := hb4.cell 3
  have y4 := hb4.cell 4
  have y5 := hb4.cell 5
  simp only [List.getElem?_toArray, List.getElem?_cons_zero, List.getElem?_cons_succ] at y0 y1 y2 y3 y4 y5
  have z0 := hb4.frozen 0
  have z1 := hb4.frozen 1
  have z2 := hb4.frozen 2
  have z3 := hb4.frozen 3
  have z4 := hb4.frozen 4
  have z5 := hb4.frozen 5
  have hlt4 := hb4.lt
  clear hb4 hbG
  have Ht5 := Lib.hid ht5
  have HkA := Lib.hid hkA
  clear ht5 hkA
  go_wp2_with fail
  (try simp only [Exit.inBlock, Exit.then])
  refine bodyPost_ret (v := .tuple #[.agg #[.string g1, .int .u64 g2, .bool g3, .int .u8 g4, .int .u64 g5, .int .i64 g6], .int .i64 E]) ?_ rfl ⟨rfl, ftab_aside Ht5.out HkA.out (by have := T.out.lt.1; omega) (by have := T.out.lt.2; omega) (Nat.le_refl _) ?_⟩
  · rw [results_cell_tmp rfl]
    go_simp
  · iterate 6 (apply Keeps.setOnly)
    exact Keeps.refl _ _
end Go.Proofs.Ytnddaildicmneaa
