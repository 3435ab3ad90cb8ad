/-
  Parts of the proof, joined in build order: AppB, CatB, Dk14, LayC, Dk15, Dk16, Bits, Map0, PgP, PgQ, Pg0, Pg1, LayI, Pg2, Pg3, Pg4, CpB.
-/
import Derived.Test.YtnddaildicmneaaGreatMz2
import Derived.IntWalk
import Derived.Deep.RegionWith
import Derived.Lib.Hide
import Derived.Lib.Walk
import Derived.Lib.AppendZeros
import Derived.Test.YtnddaildicmneaaGreatProg
import Derived.Shelf.SlMaps.Clone
import Derived.Ground.SlmcProg
import Derived.Laws.Bits64
import Derived.Laws.BitsAllLaws
import Derived.BigQuiet
import Derived.Shelf.SlIterI.Nil
import Derived.Shelf.SortM.Plain
import Derived.Shelf.SortM.SortNone
import Derived.Ground.GgzProg
import Derived.Ground.SlgmProg
import Derived.Laws.CopyOwn
set_option linter.unusedVariables false
set_option linter.unusedSimpArgs false
/-
  append of bytes: onto a row of bytes of the call's own, from any slice that reads as bytes.
-/
namespace Go.Proofs.YtnddaildicmneaaGreat
open Go.RowKit

/-- The value owns a row that reads as the bytes `L`. -/
def OwnB (w : World) (v : Value) (L : List UInt8) : Prop := w.ownsRow 0 5 1 v L.length (L.map bv)
theorem OwnB.rd {w : World} {v : Value} {L : List UInt8} (h : OwnB w v L) : Rd w v v.ownBlock (L.map bv) := Rd.of_own h
theorem OwnB.nil (w : World) : OwnB w (.slice none 0 0) [] := World.ownsRow_nil _ _ _ _
theorem OwnB.empty (w : World) : OwnB (w.alloc (.cells #[] 5)) (.slice (some ⟨w.heap.size, 0, none⟩) 0 0) [] := World.ownsRow_made w #[] 0 (Nat.zero_le _) (Nat.zero_le _) rfl
theorem OwnB.keep {w w' : World} {v : Value} {L : List UInt8} {S : Nat → Prop} (h : OwnB w v L) (hk : Keeps S w w') (hs : ∀ b, v.ownBlock = some b → ¬ S b) : OwnB w' v L := own_keep h hk hs
theorem OwnB.lt {w : World} {v : Value} {L : List UInt8} (h : OwnB w v L) : Under w.heap.size v.ownBlock := fun b hb => (World.ownsRow.lt h b hb).2
/-- its form, for a store -/
theorem OwnB.form {w : World} {v : Value} {L : List UInt8} (h : OwnB w v L) : v = .slice none 0 0 ∨ ∃ g cap, v = .slice (some ⟨g, 0, none⟩) L.length cap := by
  rcases h.2 with ⟨h, _⟩ | ⟨g, cap, cur, h, _⟩
  · exact .inl h
  · exact .inr ⟨g, cap, h⟩
theorem OwnB.form' {w : World} {v : Value} {L : List UInt8} (h : OwnB w v L) : ∃ A c, v = .slice A L.length c ∧ L.length ≤ c ∧ c ≤ maxLen := by
  have := (OwnB.rd h).form
  rwa [List.length_map] at this
theorem bv_map_inj {L M : List UInt8} (h : L.map bv = M.map bv) : L = M := by
  induction L generalizing M with
  | nil => cases M with
    | nil => rfl
    | cons b M => simp at h
  | cons a L ih =>
    cases M with
    | nil => simp at h
    | cons b M =>
      simp only [List.map_cons, List.cons.injEq] at h
      obtain ⟨h1, h2⟩ := h
      rw [ih h2]
      have : (a.toNat : Int) = b.toNat := by unfold bv at h1; injection h1
      have hab : a = b := UInt8.toNat_inj.1 (by omega)
      rw [hab]

section
variable {ops : Array Oper} {rest : List Oper} {o : Oper} {a : Act} {Q : Exit → Act → World → Prop} {w : World}
theorem own_bytes_app {w' : World} {v' : Value} {L M : List UInt8} (h : w'.ownsRow 0 5 1 v' (L.length + (M.map bv).length) (L.map bv ++ M.map bv)) : OwnB w' v' (L ++ M) := by
  unfold OwnB
  simpa using h

theorem wp_append_bytes {K : Act → World → Prop} (s x : Operand) (ho : o.op = .call { callee := .builtin .append, args := #[s, x], argTypes := #[33, 33] })
    (v : Value) (L : List UInt8) (hs : a.eval s = v) (hown : OwnB w v L) (vx : Value) (gx : Option Nat) (M : List UInt8) (hx : a.eval x = vx) (hr : Rd w vx gx (M.map bv)) (hb : L.length + M.length ≤ 1099511627776)
    (h : ∀ v' w', OwnB w' v' (L ++ M) → Keeps (fun b => v.ownBlock = some b) w w' → From v.ownBlock w.heap.size v'.ownBlock → K (a.put o.dst v') w') : o.wp Tryz.prog a w K Q := by
  obtain ⟨i0, hi, hz0, hz1, hz2⟩ := info_parts infoU8
  exact wp_append_rd w s x _ ho 0 5 i0 _ 1 Tryz.underlying33 hi hz0 hz1 hz2 rfl v L.length (L.map bv) hs hown vx gx (M.map bv) hx hr (bv_one M) (by simp [maxLen]; omega) (by simp; omega) (Nat.zero_le _)
    fun v' w' h1 h2 h3 => h v' w' (own_bytes_app h1) (keeps_append h2) h3
theorem wpList_append_bytes (hgd : o.guard = none) (s x : Operand) (ho : o.op = .call { callee := .builtin .append, args := #[s, x], argTypes := #[33, 33] })
    (v : Value) (L : List UInt8) (hs : a.eval s = v) (hown : OwnB w v L) (vx : Value) (gx : Option Nat) (M : List UInt8) (hx : a.eval x = vx) (hr : Rd w vx gx (M.map bv)) (hb : L.length + M.length ≤ 1099511627776)
    (h : ∀ v' w', OwnB w' v' (L ++ M) → Keeps (fun b => v.ownBlock = some b) w w' → From v.ownBlock w.heap.size v'.ownBlock → wpList Tryz.prog ops Q rest (a.put o.dst v') w') : wpList Tryz.prog ops Q (o :: rest) a w :=
  wpList_plain hgd fun _ hK => wp_append_bytes s x ho v L hs hown vx gx M hx hr hb fun v' w' h2 h3 h4 => hK _ _ (h v' w' h2 h3 h4)
theorem step_append_bytes {K : Act → World → Prop} {E : Prop} (hgd : o.guard = none) (s x : Operand) (ho : o.op = .call { callee := .builtin .append, args := #[s, x], argTypes := #[33, 33] })
    (v : Value) (L : List UInt8) (hs : a.eval s = v) (hown : OwnB w v L) (vx : Value) (gx : Option Nat) (M : List UInt8) (hx : a.eval x = vx) (hr : Rd w vx gx (M.map bv)) (hb : L.length + M.length ≤ 1099511627776)
    (h : ∀ v' w', OwnB w' v' (L ++ M) → Keeps (fun b => v.ownBlock = some b) w w' → From v.ownBlock w.heap.size v'.ownBlock → K (a.put o.dst v') w') :
    if Region.wanted o (yielded ops a.tmps) = true then Oper.wp Tryz.prog o a w K Q else E := by
  have hw : Region.wanted o (yielded ops a.tmps) = true := by simp [Region.wanted, hgd]
  rw [if_pos hw]
  exact wp_append_bytes s x ho v L hs hown vx gx M hx hr hb h
end
end Go.Proofs.YtnddaildicmneaaGreat
/-
  slices.Grow of nil and slices.Concat at []byte: a row of the call's own that reads as all parts, one behind the other. A slice of slices of bytes that reads.
-/
namespace Go.Proofs.YtnddaildicmneaaGreat
open Go.RowKit

def RetOwnB (w : World) (L : List UInt8) : Ending → World → Prop := fun e w' =>
  ∃ v, e = .returned v ∧ OwnB w' v L ∧ Above w.heap.size v.ownBlock ∧ Keeps nowhere w w'
/-- Slice values that read as lists of bytes; what they read lies in blocks of `A`. -/
def Parts (w : World) (A : Nat → Prop) (vs : List Value) (Ls : List (List UInt8)) : Prop :=
  vs.length = Ls.length ∧ ∀ (i : Nat) (v : Value) (L : List UInt8), vs[i]? = some v → Ls[i]? = some L → ∃ g, Rd w v g (L.map bv) ∧ ∀ b, g = some b → A b

section
variable {w w' : World} {A B S : Nat → Prop} {vs : List Value} {Ls : List (List UInt8)}
theorem Parts.nil (w : World) (A : Nat → Prop) : Parts w A [] [] := ⟨rfl, fun i v L h => by simp at h⟩
theorem Parts.keep (h : Parts w A vs Ls) (hk : Keeps S w w') (hs : ∀ b, A b → ¬ S b) : Parts w' A vs Ls :=
  ⟨h.1, fun i v L hv hL => let ⟨g, hr, ha⟩ := h.2 i v L hv hL; ⟨g, hr.keep hk fun b hb => hs b (ha b hb), ha⟩⟩
theorem Parts.keep0 (h : Parts w A vs Ls) (hk : Keeps nowhere w w') : Parts w' A vs Ls := h.keep hk fun _ _ h => h
theorem Parts.mono (h : Parts w A vs Ls) (hs : ∀ b, b < w.heap.size → A b → B b) : Parts w B vs Ls :=
  ⟨h.1, fun i v L hv hL => let ⟨g, hr, ha⟩ := h.2 i v L hv hL; ⟨g, hr, fun b hb => hs b (hr.lt b hb) (ha b hb)⟩⟩
theorem Parts.snoc (h : Parts w A vs Ls) {v : Value} {g : Option Nat} {L : List UInt8} (hr : Rd w v g (L.map bv)) (ha : ∀ b, g = some b → A b) : Parts w A (vs ++ [v]) (Ls ++ [L]) := by
  refine ⟨by simp [h.1], fun i v' L' hv hL => ?_⟩
  rw [List.getElem?_append] at hv hL
  rw [← h.1] at hL
  split at hv
  · rename_i hi
    rw [if_pos hi] at hL
    exact h.2 i v' L' hv hL
  · rename_i hi
    rw [if_neg hi] at hL
    have hz : i - vs.length = 0 := by
      have := (List.getElem?_eq_some_iff.1 hv).1
      simp at this
      omega
    rw [hz] at hv hL
    simp at hv hL
    subst hv hL
    exact ⟨g, hr, ha⟩
theorem Parts.append (h : Parts w A vs Ls) {vs' : List Value} {Ls' : List (List UInt8)} (h' : Parts w A vs' Ls') : Parts w A (vs ++ vs') (Ls ++ Ls') := by
  refine ⟨by simp [h.1, h'.1], fun i v' L' hv hL => ?_⟩
  rw [List.getElem?_append] at hv hL
  rw [← h.1] at hL
  split at hv
  · rename_i hi
    rw [if_pos hi] at hL
    exact h.2 i v' L' hv hL
  · rename_i hi
    rw [if_neg hi] at hL
    exact h'.2 _ v' L' hv hL
theorem Parts.at_ (h : Parts w A vs Ls) {i : Nat} (hi : i < vs.length) : ∃ v L g, vs[i]? = some v ∧ Ls[i]? = some L ∧ Rd w v g (L.map bv) ∧ ∀ b, g = some b → A b := by
  have hi' : i < Ls.length := by rw [← h.1]; exact hi
  obtain ⟨g, hr, ha⟩ := h.2 i _ _ (List.getElem?_eq_getElem hi) (List.getElem?_eq_getElem hi')
  exact ⟨_, _, g, List.getElem?_eq_getElem hi, List.getElem?_eq_getElem hi', hr, ha⟩
theorem Parts.two {v1 v2 : Value} {g1 g2 : Option Nat} {L1 L2 : List UInt8} (h1 : Rd w v1 g1 (L1.map bv)) (h2 : Rd w v2 g2 (L2.map bv)) : Parts w (fun _ => True) [v1, v2] [L1, L2] :=
  ((Parts.nil w _).snoc h1 fun _ _ => trivial).snoc h2 fun _ _ => trivial
end

def tot (Ls : List (List UInt8)) : Nat := Ls.flatten.length
theorem tot_take {Ls : List (List UInt8)} {k : Nat} {L : List UInt8} (h : Ls[k]? = some L) : (Ls.take (k + 1)).flatten = (Ls.take k).flatten ++ L := by
  rw [List.take_add_one, h]; simp
theorem tot_le (Ls : List (List UInt8)) (k : Nat) : tot (Ls.take k) ≤ tot Ls := by
  unfold tot
  conv => rhs; rw [← List.take_append_drop k Ls, List.flatten_append, List.length_append]
  omega

set_option maxHeartbeats 400000 in
set_option maxRecDepth 8000 in
theorem grow_nil (n : Nat) (w : World) (hb : n ≤ 1099511627776) :
    Calls Tryz.prog 56 #[.slice none 0 0, .int .i64 n] w (RetOwnB w []) := by
  have hn0 : ¬ (n : Int) < 0 := by omega
  have hw : IntKind.i64.wrap ((n : Int) - 0) = n := IntWalk.i64_in _ (by omega)
  by_cases h0 : n = 0
  · subst h0
    go_enter Tryz.func56, Tryz.ntmps56
    go_wp2
    go_ret
    exact ⟨_, rfl, OwnB.nil _, Above.none _, Keeps.refl _ _⟩
  · obtain ⟨i0, hi, hz0, hz1, hz2⟩ := info_parts infoU8
    have happ := Lib.run_append_nil_zeros (P := Tryz.prog) w 33 3 33 5 i0 (.int .u8 0) .i64 .i64 Tryz.underlying33 Tryz.underlying3 hi hz0 n (by omega) (by omega) (by omega) (by rw [hz2]; omega)
    generalize hcap : grownCap w n 0 5 = cap2 at happ
    have hcaple : cap2 ≤ maxLen := by rw [← hcap]; exact grownCap_le_maxLen w _ 0 5 (by unfold maxLen; omega)
    have hcapge : n ≤ cap2 := by rw [← hcap]; exact grownCap_ge w _ 0 5
    generalize hZ : (Builtin.zeroCells (Value.int .u8 0).cells n ++ Builtin.zeroCells (Value.int .u8 0).cells (cap2 - n)) = Z at happ
    have hZs : Z.size = cap2 := by rw [← hZ]; simp [size_zeroCells, Value.cells]; omega
    have h1 : (0 : Int) < n := by omega
    have hown : OwnB (w.drew.alloc (.cells Z 5)) (.slice (some ⟨w.heap.size, 0, none⟩) 0 cap2) [] := by
      have := World.ownsRow_made (base := 0) (size := 1) w.drew Z cap2 (e := 5) (Nat.zero_le _) hcaple (by omega)
      exact this
    have Hown := Lib.hid hown
    clear hown hcap hZ
    go_enter Tryz.func56, Tryz.ntmps56
    go_wp2_with (at_builtin; go_must (refine Lib.wpList_append_run _ rfl _ _ _ _ rfl _ _ rfl rfl _ _ happ ?_))
    go_ret
    exact ⟨_, rfl, Hown.out, fun b hb => by simp [Value.ownBlock] at hb; omega, ((Keeps.refl nowhere w).alloc _).drew⟩

set_option maxHeartbeats 800000 in
set_option maxRecDepth 8000 in
theorem concat_any (v0 : Value) (g0 : Option Nat) (vs : List Value) (Ls : List (List UInt8)) (A : Nat → Prop) (w : World) (hr : Rd w v0 g0 vs) (hp : Parts w A vs Ls) (h0 : 0 < vs.length) (hb : tot Ls ≤ 1099511627776) :
    Calls Tryz.prog 38 #[v0] w (RetOwnB w Ls.flatten) := by
  have hx : ∀ k, k < vs.length → ∃ v L g, vs[k]? = some v ∧ Ls[k]? = some L ∧ Rd w v g (L.map bv) ∧ (Ls.take (k + 1)).flatten = (Ls.take k).flatten ++ L := fun k hk => by
    obtain ⟨v, L, g, h1, h2, h3, _⟩ := hp.at_ hk
    exact ⟨v, L, g, h1, h2, h3, tot_take h2⟩
  obtain ⟨b0, o0, c0, rfl, rfl, hlt, hl, hm, hc⟩ := hr.plain h0
  have hvl := hp.1
  have hm' : vs.length ≤ maxLen := by omega
  unfold maxLen at hm'
  obtain ⟨n, hn⟩ : ∃ n, n = vs.length := ⟨_, rfl⟩
  rw [← hn] at hm' hx h0
  rw [← hn]
  have Hr := Lib.hid hr
  have Hp := Lib.hid hp
  have Hx := Lib.hid hx
  have Hc := Lib.hid hc
  have Hl := Lib.hid hl
  have Hm := Lib.hid hm
  have Hn := Lib.hid hn
  have Hlt := Lib.hid hlt
  have Hvl := Lib.hid hvl
  clear hr hp hx hc hl hm hn hlt hvl
  go_enter Tryz.func38, Tryz.ntmps38
  go_wp2_with fail
  go_loop [3, 11] (fun s i => ∃ k : Nat, k ≤ n ∧ i = .int .i64 k ∧ s = .int .i64 (tot (Ls.take k) : Nat)) (fun _ i => n - (intOf i).toNat)
  case atStart => exact ⟨0, Nat.zero_le _, rfl, by simp [tot]⟩
  case round =>
    obtain ⟨k, hk, rfl, rfl⟩ := hrel
    by_cases hlt : k < n
    · obtain ⟨v, L, g, h1, h2, h3, h4⟩ := Hx.out k hlt
      have hcell := Hc.out k v h1
      obtain ⟨A', c', rfl, hlc, hcm⟩ := h3.form
      have hle := tot_le Ls (k + 1)
      have h5 : tot (Ls.take (k + 1)) = tot (Ls.take k) + L.length := by unfold tot; rw [h4, List.length_append]
      rw [List.length_map] at *
      have hw : IntKind.i64.wrap ((tot (Ls.take k) : Int) + L.length) = (tot (Ls.take (k + 1)) : Nat) := by rw [h5]; exact IntWalk.i64_in _ (by omega)
      have hw1 : ¬ ((tot (Ls.take (k + 1)) : Nat) : Int) < 0 := by omega
      have H1 := Lib.hid h1
      have H2 := Lib.hid h2
      have H3 := Lib.hid h3
      have H4 := Lib.hid h4
      have H5 := Lib.hid h5
      have Hle := Lib.hid hle
      have Hlc := Lib.hid hlc
      have Hcm := Lib.hid hcm
      clear h1 h2 h3 h4 h5 hle hlc hcm
      go_wp2
      go_roundw
      case rel => exact ⟨k + 1, by omega, by go_num, rfl⟩
      case measure => simp [intOf]; omega
    · obtain rfl : k = n := by omega
      have hall : Ls.take k = Ls := by rw [Hn.out, Hvl.out, List.take_length]
      rw [hall]
      have Hall := Lib.hid hall
      clear hall
      go_wp2_with fail
      refine (grow_nil (tot Ls) _ hb).mono ?_
      rintro e w1 ⟨v1, rfl, hown1, hab1, hk1⟩
      have hs1 := hk1.size
      have Hown1 := Lib.hid hown1
      have Hab1 := Lib.hid hab1
      have Hk1 := Lib.hid hk1
      have Hs1 := Lib.hid hs1
      clear hown1 hab1 hk1 hs1
      go_wp2_with fail
      go_loopw [6, 27] (fun o i wr => ∃ j : Nat, j ≤ k ∧ i = .int .i64 j ∧ OwnB wr o (Ls.take j).flatten ∧ Above w.heap.size o.ownBlock ∧ Keeps nowhere w wr) (fun _ i _ => k - (intOf i).toNat)
      case atStart => exact ⟨0, Nat.zero_le _, rfl, by simpa using Hown1.out, Hab1.out, Hk1.out⟩
      case round =>
        obtain ⟨j, hj, rfl, hown, hab, hkp⟩ := hrel
        by_cases hlt : j < k
        · obtain ⟨v, L, g, h1, h2, h3, h4⟩ := Hx.out j hlt
          have hcell := (hkp.cell (p := ⟨b0, o0 + j, none⟩) Hlt.out (fun h => h)).trans (Hc.out j v h1)
          have h3' := h3.keep hkp (fun _ _ h => h)
          obtain ⟨A', c', rfl, hlc, hcm⟩ := h3.form
          have hle := tot_le Ls (j + 1)
          have h5 : tot (Ls.take (j + 1)) = tot (Ls.take j) + L.length := by unfold tot; rw [h4, List.length_append]
          have h6 : (Ls.take j).flatten.length + L.length ≤ 1099511627776 := by unfold tot at h5 hle hb; omega
          rw [List.length_map] at *
          have Hown := Lib.hid hown
          have Hab := Lib.hid hab
          have Hkp := Lib.hid hkp
          have H1 := Lib.hid h1
          have H2 := Lib.hid h2
          have H3 := Lib.hid h3
          have H3' := Lib.hid h3'
          have H4 := Lib.hid h4
          have H5 := Lib.hid h5
          have H6 := Lib.hid h6
          have Hle := Lib.hid hle
          have Hlc := Lib.hid hlc
          have Hcm := Lib.hid hcm
          clear hown hab hkp h1 h2 h3 h3' h4 h5 h6 hle hlc hcm
          go_wp2_with (at_builtin; go_must (refine wpList_append_bytes rfl (.tmp 31) (.tmp 32) rfl _ _ rfl Hown.out _ g L rfl H3'.out H6.out ?_))
          intro v' w' hown' hk' hf'
          have hab' : Above w.heap.size v'.ownBlock := Hab.out.of_from hf' (by have := Hkp.out.size; omega)
          have hkp' : Keeps nowhere w w' := Hkp.out.trans hk' (fun b hb h => absurd (Hab.out b h) (by omega))
          rw [← H4.out] at hown'
          have Hown' := Lib.hid hown'
          have Hab' := Lib.hid hab'
          have Hkp' := Lib.hid hkp'
          clear hown' hab' hkp'
          clear hk' hf'
          go_wp2_with fail
          go_roundw
          case rel => exact ⟨j + 1, by omega, by go_num, Hown'.out, Hab'.out, Hkp'.out⟩
          case measure => simp [intOf]; omega
        · obtain rfl : j = k := by omega
          rw [Hall.out] at hown
          have Hown := Lib.hid hown
          have Hab := Lib.hid hab
          have Hkp := Lib.hid hkp
          clear hown hab hkp
          go_wp2_with fail
          go_ret
          exact ⟨_, rfl, Hown.out, Hab.out, Hkp.out⟩
end Go.Proofs.YtnddaildicmneaaGreat
/-
  disk: Bytes.
-/
namespace Go.Proofs.YtnddaildicmneaaGreat
open Go.Proofs Go.RowKit Go.Sort Go.Maps

theorem recB_cells (l : List UInt8) : recB.cells l = l.map bv := by
  unfold RecT.cells
  induction l with
  | nil => rfl
  | cons x l ih => rw [List.flatMap_cons, ih]; rfl
theorem recS_cells (l : List SlV) : recS.cells l = l.map SlV.v := by
  unfold RecT.cells
  induction l with
  | nil => rfl
  | cons x l ih => rw [List.flatMap_cons, ih]; rfl
theorem ownB_row {w : World} {v : Value} {L : List UInt8} : OwnB w v L ↔ recB.Row w v L := by
  unfold OwnB RecT.Row
  rw [recB_cells]; rfl
/-- a row of one-cell records, as a slice that reads -/
theorem row_Rd {α : Type} {R : RecT α} {w : World} {v : Value} {l : List α} (h : R.Row w v l) (h1 : R.n = 1) : Rd w v v.ownBlock (R.cells l) := by
  have hl : (R.cells l).length = l.length := by rw [R.cells_len, h1, Nat.mul_one]
  rcases h.blk with ⟨rfl, rfl⟩ | ⟨b, cap, rest, rfl, hb, -, h2, h3⟩
  · exact .inl ⟨rfl, rfl, rfl⟩
  · refine .inr ⟨⟨b, 0, none⟩, cap, by rw [hl], fun b' e => by cases e; exact hb.lt, fun _ => ⟨rfl, rfl⟩, by rw [hl]; exact h2, h3, fun j u hj => ?_⟩
    rw [Addr.add_lit, Nat.zero_add, hb.cell]
    have hjl := (List.getElem?_eq_some_iff.1 hj).1
    rw [List.getElem?_toArray, List.getElem?_append_left hjl]
    exact hj
section
variable {w : World} {d b : Nat} {kv kp : Value} {ks : List SlV} {vs : List Value} {D : DiskV}
theorem DAt.parts (h : DAt w d b kv kp ks vs D) : Parts w (fun _ => True) (ks.map SlV.v) D.kept := by
  refine ⟨by rw [List.length_map]; exact h.klen, fun i v L hv hL => ?_⟩
  rw [List.getElem?_map] at hv
  cases hs : ks[i]? with
  | none => rw [hs] at hv; cases hv
  | some s =>
    rw [hs] at hv
    injection hv with hv
    subst hv
    have := row_Rd (h.sec i s L hs hL).1 rfl
    rw [recB_cells] at this
    exact ⟨_, this, fun _ _ => trivial⟩
set_option maxHeartbeats 1000000 in
theorem dbytes_any (h : DAt w d b kv kp ks vs D) (hp : 0 < D.kept.length) (hb : D.kept.flatten.length ≤ 100000000) :
    Calls Tryz.prog 20 #[.pointer (some ⟨d, 0, none⟩)] w fun e w' => ∃ v g, e = .returned v ∧ recB.Rd w' v g D.kept.flatten ∧ Above w.heap.size g ∧ Keeps nowhere w w' := by
  have hr := row_Rd h.kept rfl
  rw [recS_cells] at hr
  have hc := concat_any kv _ (ks.map SlV.v) D.kept (fun _ => True) w hr h.parts (by rw [List.length_map, h.klen]; exact hp) (by unfold tot; omega)
  have c1 := h.cell 1
  obtain ⟨A, c, rfl, -⟩ := h.kept.form
  rw [h.klen] at c1 hc
  obtain ⟨n, hn⟩ : ∃ n, n = D.kept.length := ⟨_, rfl⟩
  simp at c1
  rw [← hn] at c1 hc
  clear hr h
  have Hc := Lib.hid hc
  have Hn := Lib.hid hn
  clear hc hn
  go_enter Tryz.func20, Tryz.ntmps20
  go_wp2_with fail
  refine Hc.out.mono ?_
  rintro e w1 ⟨v, rfl, hown, hab, hk⟩
  have hrow := ownB_row.1 hown
  have hcl := clipB_any v _ w1 hrow
  clear hown
  have Hrow := Lib.hid hrow
  have Hab := Lib.hid hab
  have Hk := Lib.hid hk
  have Hcl := Lib.hid hcl
  clear hrow hab hk hcl
  go_wp2_with fail
  refine Hcl.out.mono ?_
  rintro e w2 ⟨v2, g2, rfl, hrd, hg, rfl⟩
  obtain ⟨A2, c2, rfl, -⟩ := id hrd
  obtain ⟨M, hM⟩ : ∃ M, M = D.kept.flatten.length := ⟨_, rfl⟩
  rw [← hM] at hrd ⊢
  have Hrd := Lib.hid hrd
  have Hg := Lib.hid hg
  have HM := Lib.hid hM
  clear hrd hg hM
  go_wp2_with fail
  go_ret
  exact ⟨_, g2, rfl, Hrd.out, fun b hb => Hab.out b (Hg.out b hb), Hk.out⟩
end
end Go.Proofs.YtnddaildicmneaaGreat
/- Layings of the shelf's contracts at this seat, in plain words (the kit's tool lay-plain.mjs wrote them; wip/layp.py). -/
namespace Go.Proofs.YtnddaildicmneaaGreat
open Go.Shelf Go.Proofs
end Go.Proofs.YtnddaildicmneaaGreat
/-
  disk: Twin.
-/
namespace Go.Proofs.YtnddaildicmneaaGreat
open Go.Proofs Go.RowKit Go.Sort Go.Maps

end Go.Proofs.YtnddaildicmneaaGreat
/-
  disk: each method in one word: a disk with its footprint.
-/
namespace Go.Proofs.YtnddaildicmneaaGreat
open Go.Proofs Go.RowKit Go.Sort Go.Maps

/-- no block is kept clear of -/
def noX : Nat → Prop := fun _ => False
/-- a disk; `F`: the blocks that its methods may write; `X`: blocks that lie apart from it -/
def DK (X : Nat → Prop) (w : World) (d : Nat) (F : Nat → Prop) (D : DiskV) : Prop := ∃ b kv kp ks vs, F = DS d b kv ∧ DAt w d b kv kp ks vs D ∧ (∀ k, kp.ownBlock = some k → ¬ X k) ∧ ∀ k, X k → k < w.heap.size
theorem nX_of {X : Nat → Prop} {w : World} {v v' : Value} (h : ∀ k, v.ownBlock = some k → ¬ X k) (hX : ∀ k, X k → k < w.heap.size) (e : v' = v ∨ Above w.heap.size v'.ownBlock) : ∀ k, v'.ownBlock = some k → ¬ X k := by
  rcases e with rfl | e
  · exact h
  · intro k hk hx
    have := e k hk
    have := hX k hx
    omega
/-- what a method leaves behind -/
def DGo (X : Nat → Prop) (w : World) (d : Nat) (F : Nat → Prop) (w' : World) (D : DiskV) : Prop := ∃ F', DK X w' d F' D ∧ Keeps F w w' ∧ ∀ k, F' k → F k ∨ w.heap.size ≤ k
/-- a disk as the methods want it -/
structure DOk (D : DiskV) : Prop where
  pend : D.pend.length ≤ 80000
  size : D.size ≤ 1000000
  kept : D.kept.length ≤ 1000000
  all : D.kept.length * D.size ≤ 100000000
  writes : D.writes < 900000000
  arm : D.armed = true → 1 ≤ D.left ∧ D.left ≤ 9223372036854775807
  keep : D.keep.length ≤ 100000000
def dp (d : Nat) : Value := .pointer (some ⟨d, 0, none⟩)
def DiskV.write (D : DiskV) (s : Int) (L : List UInt8) : Int × DiskV :=
  if D.off = true then (22, D) else if 0 ≤ s ∧ s < D.kept.length ∧ L.length = D.size then
    (if D.armed = true then (if D.left ≤ 1 then (22, D.less.cut D.keep) else (0, D.less.wrote s.toNat L)) else (0, D.wrote s.toNat L))
  else (1, D)
section
variable {X : Nat → Prop} {w w' : World} {d : Nat} {F : Nat → Prop} {D : DiskV}
theorem DK.lt (h : DK X w d F D) : ∀ k, F k → k < w.heap.size := by
  obtain ⟨b, kv, kp, ks, vs, rfl, h, hkp, hX⟩ := h
  rintro k (e | e | e)
  · rw [e]; exact h.box.lt
  · rw [e]; exact h.map.lt
  · exact h.kept.lt k e
theorem DK.keepAll {S : Nat → Prop} (h : DK X w d F D) (hk : Keeps S w w') (hd : ∀ k, F k → ¬ S k) (hr : ∀ k, S k → NotRaw w k) : DK X w' d F D := by
  obtain ⟨b, kv, kp, ks, vs, rfl, h, hkp, hX⟩ := h
  exact ⟨b, kv, kp, ks, vs, rfl, h.keepAll hk hd hr, hkp, fun k hx => Nat.lt_of_lt_of_le (hX k hx) hk.size⟩
theorem DK.same (h : DK X w d F D) (hk : Keeps nowhere w w') : DK X w' d F D := by
  obtain ⟨b, kv, kp, ks, vs, rfl, h, hkp, hX⟩ := h
  exact ⟨b, kv, kp, ks, vs, rfl, h.same hk, hkp, fun k hx => Nat.lt_of_lt_of_le (hX k hx) hk.size⟩
theorem DK.xlt (h : DK X w d F D) : ∀ k, X k → k < w.heap.size := by
  obtain ⟨b, kv, kp, ks, vs, rfl, h, -, hX⟩ := h
  exact hX
/-- a block that is new lies apart -/
theorem DK.mark (h : DK X w d F D) (hk : Keeps nowhere w w') {q : Nat} (h1 : w.heap.size ≤ q) (h2 : q < w'.heap.size) : DK (fun k => k = q) w' d F D := by
  obtain ⟨b, kv, kp, ks, vs, rfl, h, -, -⟩ := h
  refine ⟨b, kv, kp, ks, vs, rfl, h.same hk, fun k hk e => ?_, fun k e => by omega⟩
  have := h.keep.lt k hk
  omega
theorem DK.notRaw (h : DK X w d F D) : ∀ k, F k → NotRaw w k := by
  obtain ⟨b, kv, kp, ks, vs, rfl, h, hkp, hX⟩ := h
  exact h.notRaw
theorem DK.flat (h : DK X w d F D) : D.kept.flatten.length = D.kept.length * D.size := by
  obtain ⟨b, kv, kp, ks, vs, rfl, h, hkp, hX⟩ := h
  have : ∀ L ∈ D.kept, L.length = D.size := fun L hL => by
    obtain ⟨i, hi, e⟩ := List.getElem_of_mem hL
    have h1 : D.kept[i]? = some L := by rw [List.getElem?_eq_getElem hi, e]
    have h2 : ks[i]? = some (ks[i]'(by rw [h.klen]; exact hi)) := List.getElem?_eq_getElem _
    exact (h.sec i _ L h2 h1).2
  rw [List.length_flatten]
  clear h
  revert this
  generalize D.kept = l
  intro this
  induction l with
  | nil => simp
  | cons L l ih =>
    rw [List.map_cons, List.sum_cons, ih (fun M hM => this M (by simp [hM])), this L (by simp), List.length_cons, Nat.succ_mul]; omega
theorem DK.go (h : DK X w d F D) (hk : Keeps nowhere w w') : DGo X w d F w' D := ⟨F, h.same hk, hk.mono (fun _ _ h => h.elim), fun _ h => .inl h⟩
theorem go_mk {b b' : Nat} {kv kp kp' : Value} {ks : List SlV} {vs : List Value} {D' : DiskV} (h : DAt w' d b' kv kp' ks vs D') (hb : b' = b ∨ w.heap.size ≤ b') (hk : Keeps (DS d b kv) w w') (hkp : ∀ k, kp.ownBlock = some k → ¬ X k) (hX : ∀ k, X k → k < w.heap.size) (e : kp' = kp ∨ Above w.heap.size kp'.ownBlock) : DGo X w d (DS d b kv) w' D' := by
  refine ⟨DS d b' kv, ⟨b', kv, kp', ks, vs, rfl, h, nX_of hkp hX e, fun k hx => Nat.lt_of_lt_of_le (hX k hx) hk.size⟩, hk, ?_⟩
  rintro k (e | e | e)
  · exact .inl (.inl e)
  · rcases hb with hb | hb
    · exact .inl (.inr (.inl (e.trans hb)))
    · exact .inr (by omega)
  · exact .inl (.inr (.inr e))
def RetN (X : Nat → Prop) (x : Int) (w : World) (d : Nat) (F : Nat → Prop) (D : DiskV) : Ending → World → Prop := fun e w' => e = .returned (.int .i64 x) ∧ DGo X w d F w' D
def RetT (X : Nat → Prop) (w : World) (d : Nat) (F : Nat → Prop) (D : DiskV) : Ending → World → Prop := fun e w' => e = .returned (.tuple #[]) ∧ DGo X w d F w' D
theorem dk_write (s : Int) (v : Value) (g : Option Nat) (L : List UInt8) (h : DK X w d F D) (ok : DOk D) (hr : recB.Rd w v g L) (hg : ∀ k, g = some k → ¬ F k) :
    Calls Tryz.prog 47 #[dp d, .int .i64 s, v] w (RetN X (D.write s L).1 w d F (D.write s L).2) := by
  have hK := h
  obtain ⟨b, kv, kp, ks, vs, rfl, h, hkp, hX⟩ := h
  unfold DiskV.write
  by_cases ho : D.off = true
  · rw [if_pos ho]
    exact (dwrite_off s v h ho).mono fun e w' ⟨he, hk⟩ => ⟨he, hK.go hk⟩
  · have ho' : D.off = false := by simpa using ho
    rw [if_neg ho]
    by_cases hb : 0 ≤ s ∧ s < D.kept.length ∧ L.length = D.size
    · rw [if_pos hb]
      obtain ⟨h1, h2, h3⟩ := hb
      obtain ⟨x, rfl⟩ := Int.eq_ofNat_of_zero_le h1
      rw [Int.toNat_natCast]
      have hx : x < D.kept.length := by omega
      have q1 := ok.pend
      have q2 := ok.writes
      by_cases ha : D.armed = true
      · rw [if_pos ha]
        obtain ⟨a1, a2⟩ := ok.arm ha
        by_cases hl : D.left ≤ 1
        · rw [if_pos hl]
          refine (dwrite_cut x v g L h hr ho' ha (by omega) hx h3 (by omega) ok.size ok.kept (by omega)).mono ?_
          rintro e w' ⟨he, b', hb', ⟨ks', hd⟩, hk⟩
          exact ⟨he, go_mk hd (.inr hb') hk hkp hX (.inr (Above.none _))⟩
        · rw [if_neg hl]
          refine (dwrite_less x v g L h hr ho' ha hg (by omega) a2 hx h3 (by omega) ok.size ok.kept (by omega)).mono ?_
          rintro e w' ⟨he, ⟨vs', hd⟩, hk⟩
          exact ⟨he, go_mk hd (.inl rfl) hk hkp hX (.inl rfl)⟩
      · rw [if_neg ha]
        refine (dwrite_ok x v g L h hr ho' (by simpa using ha) hx h3 (by omega) ok.size ok.kept (by omega)).mono ?_
        rintro e w' ⟨he, ⟨vs', hd⟩, hk⟩
        exact ⟨he, go_mk hd (.inl rfl) hk hkp hX (.inl rfl)⟩
    · rw [if_neg hb]
      exact (dwrite_arg s v g L h hr ho' hb).mono fun e w' ⟨he, hk⟩ => ⟨he, hK.go hk⟩
def DiskV.syncs (D : DiskV) : Int × DiskV := if D.off = true then (22, D) else (0, D.sync)
theorem dk_sync (h : DK X w d F D) (ok : DOk D) : Calls Tryz.prog 49 #[dp d] w (RetN X D.syncs.1 w d F D.syncs.2) := by
  have hK := h
  obtain ⟨b, kv, kp, ks, vs, rfl, h, hkp, hX⟩ := h
  unfold DiskV.syncs
  by_cases ho : D.off = true
  · rw [if_pos ho]
    exact (dsync_off h ho).mono fun e w' ⟨he, hk⟩ => ⟨he, hK.go hk⟩
  · rw [if_neg ho]
    refine (dsync_on h (by simpa using ho) (by have := ok.pend; omega)).mono ?_
    rintro e w' ⟨he, b', hb', ⟨ks', hd⟩, hk⟩
    exact ⟨he, go_mk hd (.inr hb') hk hkp hX (.inl rfl)⟩
theorem dk_cut (v : Value) (g : Option Nat) (keep : List Bool) (h : DK X w d F D) (ok : DOk D) (hr : recBo.Rd w v g keep) (hg : ∀ k, g = some k → ¬ F k) :
    Calls Tryz.prog 15 #[dp d, v] w (RetT X w d F (D.cut keep)) := by
  obtain ⟨b, kv, kp, ks, vs, rfl, h, hkp, hX⟩ := h
  refine (dcut_any v g keep h hr hg (by have := ok.pend; omega)).mono ?_
  rintro e w' ⟨he, b', hb', ⟨ks', hd⟩, hk⟩
  exact ⟨he, go_mk hd (.inr hb') hk hkp hX (.inr (Above.none _))⟩
theorem keeps_DS {b : Nat} {kv : Value} (hk : Keeps (only d) w w') : Keeps (DS d b kv) w w' := hk.mono fun _ _ e => .inl e
def DiskV.on (D : DiskV) : DiskV := ⟨D.size, D.kept, D.pend, false, D.armed, D.left, D.keep, D.writes⟩
def DiskV.arm (D : DiskV) (n : Int) (keep : List Bool) : DiskV := ⟨D.size, D.kept, D.pend, D.off, true, max n 1, keep, D.writes⟩
theorem dk_on (h : DK X w d F D) : Calls Tryz.prog 17 #[dp d] w (RetT X w d F D.on) := by
  obtain ⟨b, kv, kp, ks, vs, rfl, h, hkp, hX⟩ := h
  refine (don2_any h).mono ?_
  rintro e w' ⟨he, ⟨kp', hkp', hd⟩, hk⟩
  exact ⟨he, go_mk hd (.inl rfl) (keeps_DS hk) hkp hX hkp'⟩
theorem dk_arm (n : Int) (v : Value) (g : Option Nat) (keep : List Bool) (h : DK X w d F D) (hr : recBo.Rd w v g keep) (hl : keep.length ≤ 100000000) :
    Calls Tryz.prog 16 #[dp d, .int .i64 n, v] w (RetT X w d F (D.arm n keep)) := by
  obtain ⟨b, kv, kp, ks, vs, rfl, h, hkp, hX⟩ := h
  refine (darm_any n v g keep h hr hl).mono ?_
  rintro e w' ⟨he, ⟨kp', hkp', hd⟩, hk⟩
  exact ⟨he, go_mk hd (.inl rfl) (keeps_DS hk) hkp hX hkp'⟩
theorem dk_off (h : DK X w d F D) : Calls Tryz.prog 14 #[dp d] w (RetV (.bool D.off) w) := by
  obtain ⟨b, kv, kp, ks, vs, rfl, h, hkp, hX⟩ := h; exact doff_any h
theorem dk_shape (h : DK X w d F D) : Calls Tryz.prog 43 #[dp d] w fun e w' => e = .returned (.tuple #[.int .i64 D.kept.length, .int .i64 D.size]) ∧ Keeps nowhere w w' := by
  obtain ⟨b, kv, kp, ks, vs, rfl, h, hkp, hX⟩ := h; exact dshape_any h
/-- what Read returns -/
def DiskV.readE (D : DiskV) (s : Int) : Int := if D.off = true then 22 else if 0 ≤ s ∧ s < D.kept.length then 0 else 1
def DiskV.readL (D : DiskV) (s : Int) : List UInt8 := if D.off = true then [] else if 0 ≤ s ∧ s < D.kept.length then D.read s.toNat else []
theorem dk_read (s : Int) (h : DK X w d F D) (ok : DOk D) : Calls Tryz.prog 35 #[dp d, .int .i64 s] w fun e w' => ∃ v g, e = .returned (.tuple #[v, .int .i64 (D.readE s)]) ∧ recB.Rd w' v g (D.readL s) ∧ Above w.heap.size g ∧ Keeps nowhere w w' := by
  obtain ⟨b, kv, kp, ks, vs, rfl, h, hkp, hX⟩ := h
  unfold DiskV.readE DiskV.readL
  by_cases ho : D.off = true
  · rw [if_pos ho, if_pos ho]
    exact (dread_off s h ho).mono fun e w' ⟨he, hk⟩ => ⟨_, none, he, RecT.Rd.nil _ _, Above.none _, hk⟩
  · have ho' : D.off = false := by simpa using ho
    rw [if_neg ho, if_neg ho]
    by_cases hs : 0 ≤ s ∧ s < D.kept.length
    · rw [if_pos hs, if_pos hs]
      obtain ⟨x, rfl⟩ := Int.eq_ofNat_of_zero_le hs.1
      rw [Int.toNat_natCast]
      exact dread_ok x h ho' (by omega) (by have := ok.pend; omega) ok.size ok.kept
    · rw [if_neg hs, if_neg hs]
      exact (dread_arg s h ho' hs).mono fun e w' ⟨he, hk⟩ => ⟨_, none, he, RecT.Rd.nil _ _, Above.none _, hk⟩
theorem dk_bytes (h : DK X w d F D) (ok : DOk D) (hp : 0 < D.kept.length) : Calls Tryz.prog 20 #[dp d] w fun e w' => ∃ v g, e = .returned v ∧ recB.Rd w' v g D.kept.flatten ∧ Above w.heap.size g ∧ Keeps nowhere w w' := by
  have hf := h.flat
  have := ok.all
  obtain ⟨b, kv, kp, ks, vs, rfl, h, hkp, hX⟩ := h
  exact dbytes_any h hp (by omega)
theorem dk_new (n size : Nat) (w : World) (h1 : 1 ≤ n) (h2 : n ≤ 16384) (h3 : 64 ≤ size) (h4 : size ≤ 1024) :
    Calls Tryz.prog 6 #[.int .i64 n, .int .i64 size] w fun e w' => ∃ t F', e = .returned (.tuple #[dp t, .int .i64 0]) ∧ DK noX w' t F' (freshD n size) ∧ (∀ k, F' k → w.heap.size ≤ k) ∧ Keeps nowhere w w' := by
  refine (dnew_any n size w h1 h2 h3 h4).mono ?_
  rintro e w' ⟨r, he, t, b', kv', kp', ks', vs', rfl, hd, hF, hk⟩
  exact ⟨t, _, he, ⟨b', kv', kp', ks', vs', rfl, hd, fun _ _ h => h.elim, fun _ h => h.elim⟩, hF, hk⟩
end
/-- a disk of the call's own -/
structure DOwn (X : Nat → Prop) (w0 w : World) (d : Nat) (F : Nat → Prop) (D : DiskV) : Prop where
  k : DK X w d F D
  own : ∀ k, F k → w0.heap.size ≤ k
  kp : Keeps nowhere w0 w
section
variable {X : Nat → Prop} {w0 w w' : World} {d : Nat} {F : Nat → Prop} {D D' : DiskV}
theorem DOwn.same (o : DOwn X w0 w d F D) (hk : Keeps nowhere w w') : DOwn X w0 w' d F D := ⟨o.k.same hk, o.own, o.kp.more hk⟩
theorem DOwn.fresh (o : DOwn X w0 w d F D) (hk : Keeps F w w') : Keeps nowhere w0 w' := o.kp.trans hk fun k hk e => absurd (o.own k e) (by omega)
theorem DOwn.go (o : DOwn X w0 w d F D) (h : DGo X w d F w' D') : ∃ F', DOwn X w0 w' d F' D' ∧ Keeps F w w' ∧ ∀ k, F' k → F k ∨ w.heap.size ≤ k := by
  obtain ⟨F', h1, h2, h3⟩ := h
  exact ⟨F', ⟨h1, fun k hk => (h3 k hk).elim (o.own k) (fun h => Nat.le_trans o.kp.size h), o.fresh h2⟩, h2, h3⟩
end
end Go.Proofs.YtnddaildicmneaaGreat
/-
  Plain arithmetic: numbers out of bytes, bits of numbers. No program in sight.
-/
namespace Go.Proofs.YtnddaildicmneaaGreat
open Go.RowKit

/-- The number that bytes make, the lowest first. -/
def le : List UInt8 → Nat
  | [] => 0
  | b :: l => b.toNat + 256 * le l
theorem le_lt : ∀ l : List UInt8, le l < 256 ^ l.length
  | [] => by simp [le]
  | b :: l => by
    have := le_lt l
    have hb := b.toNat_lt
    rw [List.length_cons, Nat.pow_succ, le]
    omega
theorem le_snoc (l : List UInt8) (b : UInt8) : le (l ++ [b]) = le l + b.toNat * 256 ^ l.length := by
  induction l with
  | nil => simp [le]
  | cons a l ih =>
    simp only [List.cons_append, le, ih, List.length_cons, Nat.pow_succ]
    rw [Nat.mul_add, ← Nat.add_assoc, Nat.mul_left_comm, Nat.mul_comm 256 (256 ^ l.length)]

theorem bits_or_u64_nat (a b : Nat) (ha : a < 18446744073709551616) (hb : b < 18446744073709551616) :
    bits .or .u64 (a : Int) (b : Int) = ((a ||| b : Nat) : Int) := by
  have hx : a ||| b < 2 ^ 64 := Nat.or_lt_two_pow (by omega) (by omega)
  have h1 : (BitVec.ofInt 64 (a : Int)).toNat = a := by
    rw [BitVec.ofInt_natCast, BitVec.toNat_ofNat]; exact Nat.mod_eq_of_lt (by omega)
  have h2 : (BitVec.ofInt 64 (b : Int)).toNat = b := by
    rw [BitVec.ofInt_natCast, BitVec.toNat_ofNat]; exact Nat.mod_eq_of_lt (by omega)
  show IntKind.u64.wrap ((BitVec.ofInt 64 (a : Int) ||| BitVec.ofInt 64 (b : Int)).toNat : Int) = _
  rw [BitVec.toNat_or, h1, h2, IntKind.wrap_u64]
  omega

theorem pow256 (k : Nat) : (256 : Nat) ^ k = 2 ^ (8 * k) := by rw [Nat.pow_mul]

theorem or_byte (x k : Nat) (b : UInt8) (hk : k < 8) (hx : x < 256 ^ k) :
    bits .or .u64 (x : Int) (IntKind.u64.wrap (IntKind.u64.wrap (b.toNat : Int) * 2 ^ (8 * k))) = ((x + b.toNat * 256 ^ k : Nat) : Int) := by
  have hb := b.toNat_lt
  have hp : 256 ^ k * 256 ≤ 256 ^ 8 := by rw [← Nat.pow_succ]; exact Nat.pow_le_pow_right (by omega) (by omega)
  have h8 : (256 : Nat) ^ 8 = 18446744073709551616 := by decide
  have hm : b.toNat * 256 ^ k ≤ 255 * 256 ^ k := Nat.mul_le_mul_right _ (by omega)
  have e1 : IntKind.u64.wrap (b.toNat : Int) = (b.toNat : Int) := by rw [IntKind.wrap_u64]; omega
  have e2 : ((b.toNat : Int) * 2 ^ (8 * k)) = ((b.toNat * 256 ^ k : Nat) : Int) := by rw [pow256]; simp
  have e3 : IntKind.u64.wrap ((b.toNat * 256 ^ k : Nat) : Int) = ((b.toNat * 256 ^ k : Nat) : Int) := by rw [IntKind.wrap_u64]; omega
  rw [e1, e2, e3, bits_or_u64_nat _ _ (by omega) (by omega)]
  congr 1
  rw [pow256] at hx ⊢
  rw [Nat.or_comm, ← Nat.shiftLeft_eq, ← Nat.shiftLeft_add_eq_or_of_lt hx, Nat.add_comm]

/-- The lowest `n` bytes of a number. -/
def nb (n v : Nat) : List UInt8 := (List.range n).map fun k => UInt8.ofNat (v / 256 ^ k)
theorem nb_len (n v : Nat) : (nb n v).length = n := by simp [nb]
theorem nb_succ (n v : Nat) : nb (n + 1) v = nb n v ++ [UInt8.ofNat (v / 256 ^ n)] := by simp [nb, List.range_succ]
theorem le_nb (n v : Nat) : le (nb n v) = v % 256 ^ n := by
  induction n with
  | zero => simp [nb, le, Nat.mod_one]
  | succ n ih =>
    rw [nb_succ, le_snoc, ih, nb_len, Nat.pow_succ, Nat.mod_mul]
    simp [Nat.mul_comm]

theorem byte_of (v k : Nat) : Value.int .u8 (IntKind.u8.wrap ((v : Int) / 2 ^ (8 * (k : Int)).toNat)) = bv (UInt8.ofNat (v / 256 ^ k)) := by
  have e1 : (8 * (k : Int)).toNat = 8 * k := by omega
  have e2 : ((2 : Int) ^ (8 * k)) = ((256 ^ k : Nat) : Int) := by
    rw [pow256, Int.natCast_pow]; rfl
  unfold bv
  rw [e1, e2, ← Int.natCast_ediv]
  simp [IntKind.wrap, IntKind.bits, IntKind.signed]

theorem byte_of' (v k : Nat) : Value.int .u8 ((v : Int) / 2 ^ (8 * k) % 256) = bv (UInt8.ofNat (v / 256 ^ k)) := by
  have e2 : ((2 : Int) ^ (8 * k)) = ((256 ^ k : Nat) : Int) := by
    rw [pow256, Int.natCast_pow]; rfl
  unfold bv
  rw [e2, ← Int.natCast_ediv]
  simp

theorem bits_and_u8_nat (a b : Nat) (ha : a < 256) (hb : b < 256) : bits .and .u8 (a : Int) (b : Int) = ((a &&& b : Nat) : Int) := by
  have hx : a &&& b < 256 := Nat.lt_of_le_of_lt Nat.and_le_left ha
  have h1 : (BitVec.ofInt 8 (a : Int)).toNat = a := by
    rw [BitVec.ofInt_natCast, BitVec.toNat_ofNat]; exact Nat.mod_eq_of_lt (by omega)
  have h2 : (BitVec.ofInt 8 (b : Int)).toNat = b := by
    rw [BitVec.ofInt_natCast, BitVec.toNat_ofNat]; exact Nat.mod_eq_of_lt (by omega)
  show IntKind.u8.wrap ((BitVec.ofInt 8 (a : Int) &&& BitVec.ofInt 8 (b : Int)).toNat : Int) = _
  rw [BitVec.toNat_and, h1, h2]
  simp [IntKind.wrap, IntKind.bits, IntKind.signed]
  omega
theorem bits_and_u32_nat (a b : Nat) (ha : a < 4294967296) (hb : b < 4294967296) : bits .and .u32 (a : Int) (b : Int) = ((a &&& b : Nat) : Int) := by
  have hx : a &&& b < 4294967296 := Nat.lt_of_le_of_lt Nat.and_le_left ha
  have h1 : (BitVec.ofInt 32 (a : Int)).toNat = a := by
    rw [BitVec.ofInt_natCast, BitVec.toNat_ofNat]; exact Nat.mod_eq_of_lt (by omega)
  have h2 : (BitVec.ofInt 32 (b : Int)).toNat = b := by
    rw [BitVec.ofInt_natCast, BitVec.toNat_ofNat]; exact Nat.mod_eq_of_lt (by omega)
  show IntKind.u32.wrap ((BitVec.ofInt 32 (a : Int) &&& BitVec.ofInt 32 (b : Int)).toNat : Int) = _
  rw [BitVec.toNat_and, h1, h2]
  simp [IntKind.wrap, IntKind.bits, IntKind.signed]
  omega
theorem and_224 (x : Nat) (hx : x < 256) : bits .and .u8 (x : Int) 224 = ((x / 32 * 32 : Nat) : Int) := by
  have h := bits_and_u8_nat x 224 hx (by omega)
  have h2 : x &&& 224 = x % 2 ^ 8 / 2 ^ 5 * 2 ^ 5 := nat_midmask 8 5 x (by decide)
  rw [h2] at h
  have e : x % 2 ^ 8 / 2 ^ 5 * 2 ^ 5 = x / 32 * 32 := by omega
  rw [e] at h
  exact h
theorem and_hi3 (x : Nat) (hx : x < 4294967296) : bits .and .u32 (x : Int) 3758096384 = ((x / 536870912 * 536870912 : Nat) : Int) := by
  have h := bits_and_u32_nat x 3758096384 hx (by omega)
  have h2 : x &&& 3758096384 = x % 2 ^ 32 / 2 ^ 29 * 2 ^ 29 := nat_midmask 32 29 x (by decide)
  rw [h2] at h
  have e : x % 2 ^ 32 / 2 ^ 29 * 2 ^ 29 = x / 536870912 * 536870912 := by omega
  rw [e] at h
  exact h
end Go.Proofs.YtnddaildicmneaaGreat
/-
  Rows of marks as bytes: plain words. No program in sight.
-/
namespace Go.Proofs.YtnddaildicmneaaGreat
open Go.RowKit

/-- the byte of eight marks -/
def byteN (f : Nat → Bool) (j : Nat) : Nat :=
  (f (8 * j)).toNat + 2 * (f (8 * j + 1)).toNat + 4 * (f (8 * j + 2)).toNat + 8 * (f (8 * j + 3)).toNat + 16 * (f (8 * j + 4)).toNat + 32 * (f (8 * j + 5)).toNat + 64 * (f (8 * j + 6)).toNat + 128 * (f (8 * j + 7)).toNat
theorem toNat_le (b : Bool) : b.toNat ≤ 1 := by cases b <;> decide
theorem byteN_lt (f : Nat → Bool) (j : Nat) : byteN f j < 256 := by
  have h := fun k => toNat_le (f k)
  have h0 := h (8 * j); have h1 := h (8 * j + 1); have h2 := h (8 * j + 2); have h3 := h (8 * j + 3); have h4 := h (8 * j + 4); have h5 := h (8 * j + 5); have h6 := h (8 * j + 6); have h7 := h (8 * j + 7)
  unfold byteN; omega
theorem byteN_bit (f : Nat → Bool) (j k : Nat) (hk : k < 8) : byteN f j / 2 ^ k % 2 = (f (8 * j + k)).toNat := by
  have h := fun k => toNat_le (f k)
  have h0 := h (8 * j); have h1 := h (8 * j + 1); have h2 := h (8 * j + 2); have h3 := h (8 * j + 3); have h4 := h (8 * j + 4); have h5 := h (8 * j + 5); have h6 := h (8 * j + 6); have h7 := h (8 * j + 7)
  unfold byteN
  rcases (by omega : k = 0 ∨ k = 1 ∨ k = 2 ∨ k = 3 ∨ k = 4 ∨ k = 5 ∨ k = 6 ∨ k = 7) with rfl | rfl | rfl | rfl | rfl | rfl | rfl | rfl <;> (try simp only [Nat.add_zero]) <;> omega
theorem byteN_congr {f f' : Nat → Bool} {j : Nat} (h : ∀ k, k < 8 → f (8 * j + k) = f' (8 * j + k)) : byteN f j = byteN f' j := by
  unfold byteN
  rw [show f (8 * j) = f' (8 * j) from h 0 (by omega), h 1 (by omega), h 2 (by omega), h 3 (by omega), h 4 (by omega), h 5 (by omega), h 6 (by omega), h 7 (by omega)]

/-- the row but for one mark -/
def upd (f : Nat → Bool) (i : Nat) (b : Bool) : Nat → Bool := fun k => if k = i then b else f k
theorem upd_same (f : Nat → Bool) (i : Nat) (b : Bool) : upd f i b i = b := if_pos rfl
theorem upd_ne (f : Nat → Bool) {i k : Nat} (b : Bool) (h : k ≠ i) : upd f i b k = f k := if_neg h
theorem upd_eq (f : Nat → Bool) {i : Nat} {b : Bool} (h : f i = b) : upd f i b = f := by
  funext k; unfold upd; split
  · rename_i e; rw [e, h]
  · rfl

theorem byteN_upd_ne (f : Nat → Bool) (i j : Nat) (b : Bool) (h : j ≠ i / 8) : byteN (upd f i b) j = byteN f j :=
  byteN_congr fun k hk => upd_ne f b (by omega)
theorem byteN_upd (f : Nat → Bool) (i : Nat) : byteN (upd f i true) (i / 8) = byteN f (i / 8) + (if f i then 0 else 2 ^ (i % 8)) ∧ byteN (upd f i false) (i / 8) + (if f i then 2 ^ (i % 8) else 0) = byteN f (i / 8) := by
  obtain ⟨j, hj⟩ : ∃ j, j = i / 8 := ⟨_, rfl⟩
  obtain ⟨k, hk⟩ : ∃ k, k = i % 8 := ⟨_, rfl⟩
  have hi : i = 8 * j + k := by omega
  have hk8 : k < 8 := by omega
  rw [← hj, ← hk]
  clear hj hk
  subst hi
  have e : ∀ b m, m < 8 → upd f (8 * j + k) b (8 * j + m) = if m = k then b else f (8 * j + m) := fun b m hm => by
    unfold upd; by_cases h : m = k
    · rw [if_pos h, if_pos (by omega)]
    · rw [if_neg h, if_neg (by omega)]
  have e0 : ∀ b, upd f (8 * j + k) b (8 * j) = if 0 = k then b else f (8 * j) := fun b => e b 0 (by omega)
  unfold byteN
  rw [e0, e0, e _ 1 (by omega), e _ 1 (by omega), e _ 2 (by omega), e _ 2 (by omega), e _ 3 (by omega), e _ 3 (by omega), e _ 4 (by omega), e _ 4 (by omega), e _ 5 (by omega), e _ 5 (by omega), e _ 6 (by omega), e _ 6 (by omega), e _ 7 (by omega), e _ 7 (by omega)]
  rcases (by omega : k = 0 ∨ k = 1 ∨ k = 2 ∨ k = 3 ∨ k = 4 ∨ k = 5 ∨ k = 6 ∨ k = 7) with rfl | rfl | rfl | rfl | rfl | rfl | rfl | rfl <;> simp <;> split <;> rename_i h <;> simp [h] <;> omega

theorem or_bit : ∀ x, x < 256 → ∀ k, k < 8 → x / 2 ^ k % 2 = 0 → x ||| 2 ^ k = x + 2 ^ k := by decide +kernel
theorem andNot_bit : ∀ x, x < 256 → ∀ k, k < 8 → x / 2 ^ k % 2 = 1 → (x &&& (255 - 2 ^ k)) + 2 ^ k = x := by decide +kernel

/-- how many places of `n` are free -/
def cntF (f : Nat → Bool) : Nat → Nat
  | 0 => 0
  | n + 1 => cntF f n + (if f n then 0 else 1)
theorem cntF_le (f : Nat → Bool) : ∀ n, cntF f n ≤ n
  | 0 => Nat.le_refl _
  | n + 1 => by have := cntF_le f n; unfold cntF; split <;> omega
theorem cntF_congr {f f' : Nat → Bool} : ∀ {n : Nat}, (∀ k, k < n → f k = f' k) → cntF f n = cntF f' n
  | 0, _ => rfl
  | n + 1, h => by unfold cntF; rw [cntF_congr (n := n) (fun k hk => h k (by omega)), h n (by omega)]
theorem cntF_set {f : Nat → Bool} {i : Nat} (hf : f i = false) : ∀ {n : Nat}, i < n → cntF (upd f i true) n + 1 = cntF f n
  | n + 1, h => by
    unfold cntF
    by_cases he : i = n
    · subst he
      rw [cntF_congr (f := upd f i true) (f' := f) (fun k hk => upd_ne f _ (by omega)), upd_same, hf]; simp
    · have := cntF_set hf (n := n) (by omega)
      rw [upd_ne f _ (by omega)]; omega
theorem cntF_clear {f : Nat → Bool} {i : Nat} (hf : f i = true) {n : Nat} (h : i < n) : cntF (upd f i false) n = cntF f n + 1 := by
  have h1 := cntF_set (f := upd f i false) (upd_same f i false) h
  rw [show upd (upd f i false) i true = f by funext k; unfold upd; split <;> simp_all] at h1
  omega
theorem cntF_all (f : Nat → Bool) : ∀ {n : Nat}, (∀ k, k < n → f k = false) → cntF f n = n
  | 0, _ => rfl
  | n + 1, h => by unfold cntF; rw [cntF_all f (n := n) (fun k hk => h k (by omega)), h n (by omega)]; simp

theorem and7 (k : Nat) (hk : k < 9223372036854775808) : bits .and .i64 (k : Int) 7 = ((k % 8 : Nat) : Int) := by
  have h1 : (BitVec.ofInt 64 (k : Int)).toNat = k := by rw [BitVec.ofInt_natCast, BitVec.toNat_ofNat]; exact Nat.mod_eq_of_lt (by omega)
  have h2 : (BitVec.ofInt 64 (7 : Int)).toNat = 7 := rfl
  show IntKind.i64.wrap ((BitVec.ofInt 64 (k : Int) &&& BitVec.ofInt 64 7).toNat : Int) = _
  rw [BitVec.toNat_and, h1, h2, nat_mask3]
  exact IntWalk.i64_in _ (by omega)

def bytesOf (n : Nat) (f : Nat → Bool) : List UInt8 := (List.range ((n + 7) / 8)).map fun j => UInt8.ofNat (byteN f j)
theorem bytesOf_len (n : Nat) (f : Nat → Bool) : (bytesOf n f).length = (n + 7) / 8 := by simp [bytesOf]
theorem bytesOf_get (n : Nat) (f : Nat → Bool) (j : Nat) (hj : j < (n + 7) / 8) : ((bytesOf n f).map bv)[j]? = some (.int .u8 (byteN f j)) := by
  have : (UInt8.ofNat (byteN f j)).toNat = byteN f j := by rw [UInt8.toNat_ofNat']; exact Nat.mod_eq_of_lt (byteN_lt f j)
  simp [bytesOf, hj, bv, this]
theorem bytesOf_upd (n : Nat) (f : Nat → Bool) (i : Nat) (b : Bool) : (bytesOf n (upd f i b)).map bv = ((bytesOf n f).map bv).set (i / 8) (.int .u8 (byteN (upd f i b) (i / 8))) := by
  apply List.ext_getElem?
  intro j
  by_cases hj : j < (n + 7) / 8
  · rw [bytesOf_get _ _ _ hj, List.getElem?_set]
    split
    · rename_i h; subst h; simp [bytesOf_len, hj]
    · rename_i h; rw [bytesOf_get _ _ _ hj, byteN_upd_ne _ _ _ _ (fun e => h e.symm)]
  · rw [List.getElem?_eq_none (by simp [bytesOf_len]; omega), List.getElem?_eq_none (by simp [bytesOf_len]; omega)]
end Go.Proofs.YtnddaildicmneaaGreat
/-
  pages: plain words: writes that follow one another; what a cut leaves behind.
-/
namespace Go.Proofs.YtnddaildicmneaaGreat
open Go.RowKit

/-- writes, one behind another, up to the first that fails -/
def DiskV.writesL : DiskV → List (Nat × List UInt8) → Int × DiskV
  | D, [] => (0, D)
  | D, x :: r => if (D.write (x.1 : Int) x.2).1 = 0 then DiskV.writesL (D.write (x.1 : Int) x.2).2 r else D.write (x.1 : Int) x.2
theorem writesL_cons0 {D : DiskV} {x : Nat × List UInt8} {r : List (Nat × List UInt8)} (h : (D.write (x.1 : Int) x.2).1 = 0) : D.writesL (x :: r) = (D.write (x.1 : Int) x.2).2.writesL r := by
  rw [DiskV.writesL, if_pos h]
theorem writesL_app {l r : List (Nat × List UInt8)} : ∀ {D : DiskV}, (D.writesL l).1 = 0 → D.writesL (l ++ r) = (D.writesL l).2.writesL r := by
  induction l with
  | nil => intro D _; rfl
  | cons x l ih =>
    intro D h
    rw [DiskV.writesL] at h
    split at h
    · rename_i h1
      rw [List.cons_append, writesL_cons0 h1, writesL_cons0 h1]
      exact ih h
    · rename_i h1
      exact absurd h h1
theorem writesL_snoc {D : DiskV} {l : List (Nat × List UInt8)} {x : Nat × List UInt8} (h : (D.writesL l).1 = 0) : D.writesL (l ++ [x]) = (D.writesL l).2.write (x.1 : Int) x.2 := by
  rw [writesL_app h, DiskV.writesL]
  split
  · rename_i h1; rw [DiskV.writesL, ← h1]
  · rfl
/-- a write that fails is the end -/
theorem writesL_stop {D : DiskV} {l r : List (Nat × List UInt8)} {x : Nat × List UInt8} (h : (D.writesL l).1 = 0) (hx : ((D.writesL l).2.write (x.1 : Int) x.2).1 ≠ 0) : D.writesL (l ++ x :: r) = (D.writesL l).2.write (x.1 : Int) x.2 := by
  rw [writesL_app h, DiskV.writesL, if_neg hx]
/-- two writings and two syncs -/
def DiskV.layV (D : DiskV) (ws : List (Nat × List UInt8)) (hd : Nat × List UInt8) : Int × DiskV :=
  if (D.writesL ws).1 = 0 then
    (if (D.writesL ws).2.syncs.1 = 0 then
      (if ((D.writesL ws).2.syncs.2.write (hd.1 : Int) hd.2).1 = 0 then ((D.writesL ws).2.syncs.2.write (hd.1 : Int) hd.2).2.syncs else (D.writesL ws).2.syncs.2.write (hd.1 : Int) hd.2)
     else (D.writesL ws).2.syncs)
  else D.writesL ws
/-- the disk works, and its arm is at least one write away -/
structure Works (D : DiskV) : Prop where
  off : D.off = false
  arm : D.armed = true → 1 ≤ D.left ∧ D.left ≤ 9223372036854775807
structure Wrote (D : DiskV) (ws : List (Nat × List UInt8)) (D' : DiskV) : Prop where
  w : Works D'
  pend : D'.pend = D.pend ++ ws
  kept : D'.kept = D.kept
  size : D'.size = D.size
  writes : D'.writes = D.writes + ws.length
  armed : D'.armed = D.armed
  keep : D'.keep = D.keep
structure Fell (D : DiskV) (ws : List (Nat × List UInt8)) (D' : DiskV) : Prop where
  off : D'.off = true
  pend : D'.pend = []
  kept : ∃ i kf, i ≤ ws.length ∧ D'.kept = settleN kf (D.pend ++ ws) D.kept (D.pend.length + i)
  size : D'.size = D.size
  writes : D'.writes ≤ D.writes + ws.length
  armed : D'.armed = false
  keep : D'.keep = []
theorem settle_app (kf : Nat → Bool) (pd r : List (Nat × List UInt8)) (k : List (List UInt8)) : ∀ i, i ≤ pd.length → settleN kf (pd ++ r) k i = settleN kf pd k i
  | 0, _ => rfl
  | i + 1, h => by
    unfold settleN
    rw [List.getElem?_append_left (by omega), settle_app kf pd r k i (by omega)]
theorem write_ends {D : DiskV} {x : Nat × List UInt8} (h : Works D) (hx : x.1 < D.kept.length) (hl : x.2.length = D.size) :
    ((D.write (x.1 : Int) x.2).1 = 0 ∧ Wrote D [x] (D.write (x.1 : Int) x.2).2) ∨ ((D.write (x.1 : Int) x.2).1 = 22 ∧ Fell D [] (D.write (x.1 : Int) x.2).2) := by
  have hc : (0 : Int) ≤ (x.1 : Int) ∧ (x.1 : Int) < (D.kept.length : Nat) ∧ x.2.length = D.size := ⟨by omega, by omega, hl⟩
  unfold DiskV.write
  rw [if_neg (by simp [h.off]), if_pos hc]
  by_cases ha : D.armed = true
  · rw [if_pos ha]
    obtain ⟨a1, a2⟩ := h.arm ha
    by_cases hle : D.left ≤ 1
    · rw [if_pos hle]
      refine .inr ⟨rfl, ?_⟩
      exact ⟨rfl, rfl, ⟨0, kfOf D.keep, Nat.le_refl _, by simp [DiskV.cut, DiskV.less]⟩, rfl, by simp [DiskV.cut, DiskV.less], rfl, rfl⟩
    · rw [if_neg hle]
      refine .inl ⟨rfl, ?_⟩
      exact ⟨⟨h.off, fun _ => ⟨by show 1 ≤ D.left - 1; omega, by show D.left - 1 ≤ _; omega⟩⟩, by simp [DiskV.wrote, DiskV.less, Int.toNat_natCast], rfl, rfl, rfl, rfl, rfl⟩
  · rw [if_neg ha]
    refine .inl ⟨rfl, ?_⟩
    exact ⟨⟨h.off, fun e => absurd e ha⟩, by simp [DiskV.wrote], rfl, rfl, rfl, rfl, rfl⟩
theorem writes_end {ws : List (Nat × List UInt8)} : ∀ {D : DiskV}, Works D → (∀ x ∈ ws, x.1 < D.kept.length ∧ x.2.length = D.size) →
    ((D.writesL ws).1 = 0 ∧ Wrote D ws (D.writesL ws).2) ∨ ((D.writesL ws).1 = 22 ∧ Fell D ws (D.writesL ws).2) := by
  induction ws with
  | nil => intro D h _; exact .inl ⟨rfl, h, by simp [DiskV.writesL], rfl, rfl, rfl, rfl, rfl⟩
  | cons x r ih =>
    intro D h hr
    obtain ⟨hx, hl⟩ := hr x (by simp)
    rcases write_ends h hx hl with ⟨e, q⟩ | ⟨e, q⟩
    · rw [writesL_cons0 e]
      have hr' : ∀ y ∈ r, y.1 < (D.write (x.1 : Int) x.2).2.kept.length ∧ y.2.length = (D.write (x.1 : Int) x.2).2.size := fun y hy => by
        rw [q.kept, q.size]; exact hr y (by simp [hy])
      rcases ih q.w hr' with ⟨e2, q2⟩ | ⟨e2, q2⟩
      · exact .inl ⟨e2, q2.w, by rw [q2.pend, q.pend]; simp, q2.kept.trans q.kept, q2.size.trans q.size, by rw [q2.writes, q.writes]; simp; omega, q2.armed.trans q.armed, q2.keep.trans q.keep⟩
      · obtain ⟨i, kf, hi, ek⟩ := q2.kept
        rw [q.pend, q.kept] at ek
        refine .inr ⟨e2, q2.off, q2.pend, ⟨i + 1, kf, by simpa using hi, ?_⟩, q2.size.trans q.size, ?_, q2.armed, q2.keep⟩
        · rw [ek, List.append_assoc, List.singleton_append]
          congr 1
          simp; omega
        · have := q2.writes
          rw [q.writes] at this
          simp at this ⊢; omega
    · rw [DiskV.writesL, if_neg (by omega)]
      refine .inr ⟨e, q.off, q.pend, ?_, q.size, Nat.le_trans q.writes (by simp), q.armed, q.keep⟩
      obtain ⟨i, kf, hi, ek⟩ := q.kept
      refine ⟨i, kf, Nat.le_trans hi (Nat.zero_le _), ?_⟩
      rw [ek, List.append_nil]
      have hi0 : i = 0 := by simpa using hi
      subst hi0
      exact (settle_app kf D.pend (x :: r) D.kept _ (Nat.le_refl _)).symm
structure Laid (D : DiskV) (ws : List (Nat × List UInt8)) (hd : Nat × List UInt8) (D' : DiskV) : Prop where
  w : Works D'
  pend : D'.pend = []
  kept : D'.kept = (settleN (fun _ => true) ws D.kept ws.length).set hd.1 hd.2
  size : D'.size = D.size
  writes : D'.writes = D.writes + ws.length + 1
  armed : D'.armed = D.armed
  keep : D'.keep = D.keep
theorem lay_ends {D : DiskV} {ws : List (Nat × List UInt8)} {hd : Nat × List UInt8} (h : Works D) (hp : D.pend = []) (hr : ∀ x ∈ ws, x.1 < D.kept.length ∧ x.2.length = D.size) (hh : hd.1 < D.kept.length) (hl : hd.2.length = D.size) :
    ((D.layV ws hd).1 = 0 ∧ Laid D ws hd (D.layV ws hd).2) ∨ ((D.layV ws hd).1 = 22 ∧ Fell D ws (D.layV ws hd).2) := by
  unfold DiskV.layV
  rcases writes_end h hr with ⟨e, q⟩ | ⟨e, q⟩
  · rw [if_pos e]
    obtain ⟨D1, hD1⟩ : ∃ D1, D1 = (D.writesL ws).2 := ⟨_, rfl⟩
    rw [← hD1] at q ⊢
    have es : D1.syncs = (0, D1.sync) := by unfold DiskV.syncs; rw [if_neg (by simp [q.w.off])]
    rw [es]
    simp only [if_true]
    have hpd : D1.pend = ws := by rw [q.pend, hp]; rfl
    have hk : D1.sync.kept = settleN (fun _ => true) ws D.kept ws.length := by
      show settleN _ D1.pend D1.kept D1.pend.length = _
      rw [hpd, q.kept]
    have hkl : D1.sync.kept.length = D.kept.length := by rw [hk, settleN_len]
    have hw1 : Works D1.sync := ⟨q.w.off, q.w.arm⟩
    rcases write_ends hw1 (x := hd) (by rw [hkl]; exact hh) (by rw [hl]; exact q.size.symm) with ⟨e2, q2⟩ | ⟨e2, q2⟩
    · rw [if_pos e2]
      obtain ⟨D2, hD2⟩ : ∃ D2, D2 = (D1.sync.write (hd.1 : Int) hd.2).2 := ⟨_, rfl⟩
      rw [← hD2] at q2 ⊢
      have es2 : D2.syncs = (0, D2.sync) := by unfold DiskV.syncs; rw [if_neg (by simp [q2.w.off])]
      rw [es2]
      refine .inl ⟨rfl, ⟨q2.w.off, q2.w.arm⟩, rfl, ?_, q2.size.trans q.size, ?_, q2.armed.trans q.armed, q2.keep.trans q.keep⟩
      · have hp2 : D2.pend = [hd] := by rw [q2.pend]; rfl
        show settleN _ D2.pend D2.kept D2.pend.length = _
        rw [hp2, q2.kept, hk]
        rfl
      · show D2.writes = _
        rw [q2.writes]
        show D1.writes + 1 = _
        rw [q.writes]
    · rw [if_neg (by omega)]
      refine .inr ⟨e2, q2.off, q2.pend, ⟨ws.length, fun _ => true, Nat.le_refl _, ?_⟩, q2.size.trans q.size, ?_, q2.armed, q2.keep⟩
      · obtain ⟨i, kf, hi, ek⟩ := q2.kept
        have hi0 : i = 0 := by simpa using hi
        subst hi0
        rw [ek, hp, show D1.sync.pend = [] from rfl, hk]
        simp [settleN]
      · have := q2.writes
        have e3 : D1.sync.writes = D1.writes := rfl
        rw [e3, q.writes] at this
        simpa using this
  · rw [if_neg (by omega)]
    exact .inr ⟨e, q⟩
/-- a sector that nobody writes -/
theorem settle_far (kf : Nat → Bool) (ws : List (Nat × List UInt8)) (k : List (List UInt8)) {x : Nat} (hx : ∀ y ∈ ws, y.1 ≠ x) : ∀ i, (settleN kf ws k i)[x]? = k[x]?
  | 0 => rfl
  | i + 1 => by
    unfold settleN
    cases hp : ws[i]? with
    | none => exact settle_far kf ws k hx i
    | some p =>
      simp only
      split
      · rw [List.getElem?_set_ne (hx p (List.mem_of_getElem? hp))]
        exact settle_far kf ws k hx i
      · exact settle_far kf ws k hx i
/-- all is kept -/
theorem settle_all {ws : List (Nat × List UInt8)} {k : List (List UInt8)} (hn : (ws.map (·.1)).Nodup) (hr : ∀ y ∈ ws, y.1 < k.length) : ∀ i, i ≤ ws.length → ∀ j y, j < i → ws[j]? = some y → (settleN (fun _ => true) ws k i)[y.1]? = some y.2
  | 0, _, j, y, hj, _ => by omega
  | i + 1, hi, j, y, hj, hy => by
    obtain ⟨p, hp⟩ : ∃ p, ws[i]? = some p := ⟨_, List.getElem?_eq_getElem (by omega)⟩
    unfold settleN
    rw [hp]
    simp only [if_true]
    by_cases e : j = i
    · subst e
      rw [hp] at hy
      injection hy with hy
      subst hy
      rw [List.getElem?_set_self (by rw [settleN_len]; exact hr _ (List.mem_of_getElem? hp))]
    · have hne : p.1 ≠ y.1 := fun e2 => by
        have h1 : (ws.map (·.1))[i]? = some p.1 := by simp [hp]
        have h2 : (ws.map (·.1))[j]? = some y.1 := by simp [hy]
        obtain ⟨l1, g1⟩ := List.getElem?_eq_some_iff.1 h1
        obtain ⟨l2, g2⟩ := List.getElem?_eq_some_iff.1 h2
        exact e ((List.getElem_inj (h₀ := l2) (h₁ := l1) hn).1 (by rw [g1, g2, e2]))
      rw [List.getElem?_set_ne hne]
      exact settle_all hn hr i (by omega) j y (by omega) hy
theorem settle_mem {ws : List (Nat × List UInt8)} {k : List (List UInt8)} (hn : (ws.map (·.1)).Nodup) (hr : ∀ y ∈ ws, y.1 < k.length) {y : Nat × List UInt8} (hy : y ∈ ws) : (settleN (fun _ => true) ws k ws.length)[y.1]? = some y.2 := by
  obtain ⟨j, hj, e⟩ := List.getElem_of_mem hy
  exact settle_all hn hr ws.length (Nat.le_refl _) j y hj (by rw [List.getElem?_eq_getElem hj, e])
end Go.Proofs.YtnddaildicmneaaGreat
/-
  pages: plain words: what a book on a disk is; a commit is whole.
-/
namespace Go.Proofs.YtnddaildicmneaaGreat
open Go.RowKit

def tabN (pages size : Nat) : Nat := (pages + 8 * size - 1) / (8 * size)
theorem tabN_le {pages size : Nat} (h : pages ≤ 1024) (hz : 64 ≤ size) : tabN pages size ≤ 2 := by
  have : tabN pages size < 3 := Nat.div_lt_of_lt_mul (by omega)
  omega
theorem tabN_ge {pages size : Nat} (hz : 64 ≤ size) : pages ≤ 8 * (tabN pages size * size) := by
  have h1 := Nat.div_add_mod (pages + 8 * size - 1) (8 * size)
  have h2 := Nat.mod_lt (pages + 8 * size - 1) (show 0 < 8 * size by omega)
  have h3 : 8 * (tabN pages size * size) = 8 * size * ((pages + 8 * size - 1) / (8 * size)) := by
    unfold tabN; rw [← Nat.mul_assoc, Nat.mul_right_comm, Nat.mul_comm]
  omega
def tabAt (a pages size gen : Nat) : Nat := a + 2 + gen % 2 * tabN pages size
def plcAt (a pages size p : Nat) (s : Bool) : Nat := a + 2 + 2 * tabN pages size + 2 * p + s.toNat
def boolF (l : List Bool) (i : Nat) : Bool := (l[i]?).getD false
def tabL (l : List Bool) (N : Nat) : List UInt8 := (List.range N).map fun j => UInt8.ofNat (byteN (boolF l) j)
theorem tabL_len (l : List Bool) (N : Nat) : (tabL l N).length = N := by simp [tabL]
def bitAt (b : List UInt8) (i : Nat) : Bool := decide (((b[i / 8]?).getD 0).toNat / 2 ^ (i % 8) % 2 = 1)
theorem bitAt_tabL (l : List Bool) {N i : Nat} (h : i < 8 * N) : bitAt (tabL l N) i = boolF l i := by
  have h1 : (tabL l N)[i / 8]? = some (UInt8.ofNat (byteN (boolF l) (i / 8))) := by simp [tabL, show i / 8 < N by omega]
  have h2 : (UInt8.ofNat (byteN (boolF l) (i / 8))).toNat = byteN (boolF l) (i / 8) := by
    have := byteN_lt (boolF l) (i / 8)
    simp; omega
  have h3 : (((tabL l N)[i / 8]?).getD 0).toNat / 2 ^ (i % 8) % 2 = (boolF l i).toNat := by
    rw [h1, Option.getD_some, h2, byteN_bit _ _ _ (Nat.mod_lt _ (by omega)), show 8 * (i / 8) + i % 8 = i by omega]
  unfold bitAt
  simp only [h3]
  cases boolF l i <;> rfl
def chunkL (b : List UInt8) (size i : Nat) : List UInt8 := (b.drop (i * size)).take size
theorem chunkL_len {b : List UInt8} {size i T : Nat} (hb : b.length = T * size) (hi : i < T) : (chunkL b size i).length = size := by
  have : (i + 1) * size ≤ T * size := Nat.mul_le_mul_right _ hi
  rw [Nat.succ_mul] at this
  simp [chunkL, hb]; omega
theorem chunks_all {b : List UInt8} {size : Nat} : ∀ T, T * size ≤ b.length → (List.range T).flatMap (chunkL b size) = b.take (T * size)
  | 0, _ => by simp
  | T + 1, h => by
    rw [Nat.succ_mul] at h
    rw [List.range_succ, List.flatMap_append, chunks_all T (by omega), Nat.succ_mul, List.take_add]
    simp [chunkL]
def padL (L : List UInt8) (z : Nat) : List UInt8 := L.take z ++ zerosB (z - L.length)
theorem padL_len (L : List UInt8) (z : Nat) : (padL L z).length = z := by simp [padL, zerosB]; omega
theorem padL_take {L : List UInt8} {z n : Nat} (h : L.length = n) (hn : n ≤ z) : (padL L z).take n = L := by
  rw [padL, List.take_of_length_le (show L.length ≤ z by omega), List.take_append_of_le_length (by omega), List.take_of_length_le (by omega)]
theorem padL_nil (z n : Nat) (h : n ≤ z) : (padL [] z).take n = zerosB n := by
  simp [padL, zerosB, List.take_replicate, Nat.min_eq_left h]
def magicN : Nat := 297733674067
def headL (gen pages size : Nat) : List UInt8 := padL (nb 8 magicN ++ nb 8 gen ++ nb 8 pages) size
def fitsN (n pages : Nat) : Prop := 1 ≤ pages ∧ pages ≤ 1024 ∧ 3 * pages + 16 ≤ n
instance (n pages : Nat) : Decidable (fitsN n pages) := by unfold fitsN; infer_instance
def headV (L : List UInt8) (n slot : Nat) : Option (Nat × Nat) :=
  if le (L.take 8) = magicN ∧ le ((L.drop 8).take 8) % 2 = slot ∧ le ((L.drop 16).take 8) ≤ 1024 ∧ fitsN n (le ((L.drop 16).take 8)) then some (le ((L.drop 8).take 8), le ((L.drop 16).take 8)) else none
theorem headL_parts (gen pages size : Nat) (hz : 24 ≤ size) : (headL gen pages size).take 8 = nb 8 magicN ∧ ((headL gen pages size).drop 8).take 8 = nb 8 gen ∧ ((headL gen pages size).drop 16).take 8 = nb 8 pages := by
  have e : headL gen pages size = nb 8 magicN ++ (nb 8 gen ++ (nb 8 pages ++ zerosB (size - 24))) := by
    unfold headL padL
    rw [List.take_of_length_le (by simp [nb_len]; omega)]
    simp [nb_len]
  have l1 := nb_len 8 magicN
  have l2 := nb_len 8 gen
  have l3 := nb_len 8 pages
  refine ⟨?_, ?_, ?_⟩
  · rw [e, List.take_left' l1]
  · rw [e, List.drop_left' l1, List.take_left' l2]
  · rw [e, show 16 = 8 + 8 from rfl, ← List.drop_drop, List.drop_left' l1, List.drop_left' l2, List.take_left' l3]
theorem headV_head {gen pages size n : Nat} (hg : gen < 18446744073709551616) (hp : fitsN n pages) (hz : 64 ≤ size) : headV (headL gen pages size) n (gen % 2) = some (gen, pages) := by
  obtain ⟨h1, h2, h3⟩ := headL_parts gen pages size (by omega)
  have hp2 := hp
  obtain ⟨p1, p2, p3⟩ := hp2
  have e1 : le (nb 8 magicN) = magicN := by rw [le_nb]; rfl
  have e2 : le (nb 8 gen) = gen := by rw [le_nb]; exact Nat.mod_eq_of_lt hg
  have e8 : (256 : Nat) ^ 8 = 18446744073709551616 := by decide
  have e3 : le (nb 8 pages) = pages := by rw [le_nb]; exact Nat.mod_eq_of_lt (by omega)
  unfold headV
  rw [h1, h2, h3, e1, e2, e3, if_pos ⟨rfl, rfl, p2, hp⟩]
theorem le_zeros : ∀ n, le (zerosB n) = 0
  | 0 => rfl
  | n + 1 => by
    have := le_zeros n
    rw [zerosB, List.replicate_succ, le, show List.replicate n (0 : UInt8) = zerosB n from rfl, this]; rfl
theorem headV_zero (z n s : Nat) : headV (zerosB z) n s = none := by
  unfold headV
  rw [if_neg]
  rintro ⟨h, -⟩
  rw [show (zerosB z).take 8 = zerosB (min 8 z) by simp [zerosB, List.take_replicate], le_zeros] at h
  exact absurd h (by decide)
theorem headV_par {L : List UInt8} {n s : Nat} {h : Nat × Nat} (e : headV L n s = some h) : h.1 % 2 = s ∧ fitsN n h.2 := by
  unfold headV at e
  split at e
  · rename_i q
    injection e with e
    rw [← e]
    exact ⟨q.2.1, q.2.2.2⟩
  · cases e

/-- a book -/
structure BookV where
  a : Nat
  n : Nat
  size : Nat
  gen : Nat
  pages : Nat
  second : List Bool
  changed : List (Nat × List UInt8)
def BookV.tab (B : BookV) (g : Nat) : Nat := tabAt B.a B.pages B.size g
def BookV.plc (B : BookV) (p : Nat) (s : Bool) : Nat := plcAt B.a B.pages B.size p s
def BookV.T (B : BookV) : Nat := tabN B.pages B.size
/-- where it may be -/
structure Fits (N : Nat) (B : BookV) : Prop where
  rng : B.a + B.n ≤ N
  f : fitsN B.n B.pages
  z : 64 ≤ B.size
  slen : B.second.length = B.pages
/-- its pages lie so on the disk -/
structure Lies (K : List (List UInt8)) (B : BookV) (vals : List (List UInt8)) : Prop where
  f : Fits K.length B
  len : ∀ L ∈ K, L.length = B.size
  vlen : vals.length = B.pages
  head : K[B.a + B.gen % 2]? = some (headL B.gen B.pages B.size)
  other : ∀ L, K[B.a + (B.gen + 1) % 2]? = some L → ∀ h, headV L B.n ((B.gen + 1) % 2) = some h → h.1 + 1 = B.gen
  tabs : ∀ i, i < B.T → K[B.tab B.gen + i]? = some (chunkL (tabL B.second (B.T * B.size)) B.size i)
  page : ∀ p v s, vals[p]? = some v → B.second[p]? = some s → ∃ L, K[B.plc p s]? = some L ∧ L.take (B.size - 16) = v
/-- what a lay writes -/
def wsOf (B : BookV) (next : List Bool) (ks : List Nat) (ch : Nat → List UInt8) : List (Nat × List UInt8) :=
  ks.map (fun p => (B.plc p (boolF next p), padL (ch p) B.size)) ++ (List.range B.T).map fun i => (B.tab (B.gen + 1) + i, chunkL (tabL next (B.T * B.size)) B.size i)
def hdOf (B : BookV) : Nat × List UInt8 := (B.a + (B.gen + 1) % 2, headL (B.gen + 1) B.pages B.size)
section
variable {B : BookV} {next : List Bool} {ks : List Nat} {ch : Nat → List UInt8}
theorem Fits.places {N : Nat} (f : Fits N B) : B.T ≤ 2 ∧ (∀ g, B.a + 2 ≤ B.tab g ∧ B.tab g + B.T ≤ B.a + 2 + 2 * B.T) ∧ (∀ p s, p < B.pages → B.a + 2 + 2 * B.T ≤ B.plc p s ∧ B.plc p s < B.a + B.n) ∧ B.a + 2 + 2 * B.T ≤ B.a + B.n := by
  obtain ⟨f1, f2, f3⟩ := f.f
  have hT : B.T ≤ 2 := tabN_le f2 f.z
  refine ⟨hT, fun g => ?_, fun p s hp => ?_, by omega⟩
  · unfold BookV.tab tabAt BookV.T
    rcases Nat.mod_two_eq_zero_or_one g with e | e <;> rw [e] <;> omega
  · have : s.toNat ≤ 1 := toNat_le s
    unfold BookV.plc plcAt
    unfold BookV.T at hT ⊢
    omega
theorem ws_mem {y : Nat × List UInt8} (h : y ∈ wsOf B next ks ch) : (∃ p, p ∈ ks ∧ y = (B.plc p (boolF next p), padL (ch p) B.size)) ∨ ∃ i, i < B.T ∧ y = (B.tab (B.gen + 1) + i, chunkL (tabL next (B.T * B.size)) B.size i) := by
  unfold wsOf at h
  rcases List.mem_append.1 h with h | h
  · obtain ⟨p, hp, e⟩ := List.mem_map.1 h
    exact .inl ⟨p, hp, e.symm⟩
  · obtain ⟨i, hi, e⟩ := List.mem_map.1 h
    exact .inr ⟨i, List.mem_range.1 hi, e.symm⟩
theorem ws_rng {N : Nat} (f : Fits N B) (hk : ∀ p ∈ ks, p < B.pages) {y : Nat × List UInt8} (h : y ∈ wsOf B next ks ch) : B.a + 2 ≤ y.1 ∧ y.1 < B.a + B.n ∧ y.2.length = B.size := by
  obtain ⟨h1, h2, h3, h4⟩ := f.places
  rcases ws_mem h with ⟨p, hp, rfl⟩ | ⟨i, hi, rfl⟩
  · have := h3 p (boolF next p) (hk p hp)
    exact ⟨by simp only; omega, by simp only; omega, padL_len _ _⟩
  · have := h2 (B.gen + 1)
    exact ⟨by simp only; omega, by simp only; omega, chunkL_len (tabL_len _ _) hi⟩
theorem plc_inj {p q : Nat} {s t : Bool} (h : B.plc p s = B.plc q t) : p = q ∧ s = t := by
  unfold BookV.plc plcAt at h
  cases s <;> cases t <;> simp at h <;> first | exact ⟨by omega, rfl⟩ | omega
theorem ws_nodup {N : Nat} (f : Fits N B) (hk : ∀ p ∈ ks, p < B.pages) (hn : ks.Nodup) : ((wsOf B next ks ch).map (·.1)).Nodup := by
  obtain ⟨h1, h2, h3, h4⟩ := f.places
  unfold wsOf
  rw [List.map_append, List.map_map, List.map_map]
  refine List.nodup_append.2 ⟨?_, ?_, ?_⟩
  · refine List.pairwise_map.2 (hn.imp fun {p q} hne e => hne (plc_inj e).1)
  · refine List.pairwise_map.2 (List.nodup_range.imp fun {i j} hne e => hne ?_)
    simp only [Function.comp_apply] at e
    omega
  · intro x hx y hy e
    obtain ⟨p, hp, rfl⟩ := List.mem_map.1 hx
    obtain ⟨i, hi, rfl⟩ := List.mem_map.1 hy
    have g1 := h3 p (boolF next p) (hk p hp)
    have g2 := h2 (B.gen + 1)
    have := List.mem_range.1 hi
    simp only [Function.comp_apply] at e
    omega
theorem getLen {K : List (List UInt8)} {x : Nat} {L : List UInt8} {z : Nat} (h : ∀ L ∈ K, L.length = z) (e : K[x]? = some L) : L.length = z := h L (List.mem_of_getElem? e)
theorem settle_lens {kf : Nat → Bool} {ws : List (Nat × List UInt8)} {k : List (List UInt8)} {z : Nat} (hk : ∀ L ∈ k, L.length = z) (hw : ∀ y ∈ ws, y.2.length = z) : ∀ i, ∀ L ∈ settleN kf ws k i, L.length = z
  | 0 => hk
  | i + 1 => by
    unfold settleN
    cases hp : ws[i]? with
    | none => exact settle_lens hk hw i
    | some p =>
      simp only
      split
      · intro L hL
        rcases List.mem_or_eq_of_mem_set hL with h | h
        · exact settle_lens hk hw i L h
        · rw [h]; exact hw p (List.mem_of_getElem? hp)
      · exact settle_lens hk hw i
/-- all was laid -/
theorem laid_lies {K : List (List UInt8)} (f : Fits K.length B) (hl : ∀ L ∈ K, L.length = B.size) (hk : ∀ p ∈ ks, p < B.pages) (hn : ks.Nodup) (hnx : next.length = B.pages) (hg : B.gen + 1 < 18446744073709551616)
    (ho : ∀ L, K[B.a + B.gen % 2]? = some L → ∀ h, headV L B.n (B.gen % 2) = some h → h.1 = B.gen)
    (vals : List (List UInt8)) (hv : vals.length = B.pages) (hks : ∀ p v, p ∈ ks → vals[p]? = some v → (padL (ch p) B.size).take (B.size - 16) = v)
    (hno : ∀ p v s, p ∉ ks → vals[p]? = some v → next[p]? = some s → ∃ L, K[B.plc p s]? = some L ∧ L.take (B.size - 16) = v) (cg : List (Nat × List UInt8)) :
    Lies ((settleN (fun _ => true) (wsOf B next ks ch) K (wsOf B next ks ch).length).set (hdOf B).1 (hdOf B).2) ⟨B.a, B.n, B.size, B.gen + 1, B.pages, next, cg⟩ vals := by
  obtain ⟨h1, h2, h3, h4⟩ := f.places
  have hrn := f.rng
  obtain ⟨K1, hK1⟩ : ∃ K1, K1 = settleN (fun _ => true) (wsOf B next ks ch) K (wsOf B next ks ch).length := ⟨_, rfl⟩
  have hmem : ∀ y ∈ wsOf B next ks ch, K1[y.1]? = some y.2 := fun y hy => by
    rw [hK1]; exact settle_mem (ws_nodup f hk hn) (fun y hy => by have := ws_rng f hk hy; omega) hy
  have hfar : ∀ x, (∀ y ∈ wsOf B next ks ch, y.1 ≠ x) → K1[x]? = K[x]? := fun x hx => by rw [hK1]; exact settle_far _ _ _ hx _
  have hlen1 : K1.length = K.length := by rw [hK1, settleN_len]
  have hls : ∀ L ∈ K1, L.length = B.size := by rw [hK1]; exact settle_lens hl (fun y hy => (ws_rng f hk hy).2.2) _
  rw [← hK1]
  clear hK1
  have hh1 : (hdOf B).1 = B.a + (B.gen + 1) % 2 := rfl
  have hh2 : (hdOf B).2 = headL (B.gen + 1) B.pages B.size := rfl
  have hhl : (hdOf B).1 < B.a + 2 := by rw [hh1]; omega
  have hset : ∀ x, x ≠ (hdOf B).1 → (K1.set (hdOf B).1 (hdOf B).2)[x]? = K1[x]? := fun x hx => List.getElem?_set_ne (fun e => hx e.symm)
  refine { f := ⟨by simp only [List.length_set]; omega, f.f, f.z, hnx⟩, len := ?_, vlen := hv, head := ?_, other := ?_, tabs := ?_, page := ?_ }
  · intro L hL
    rcases List.mem_or_eq_of_mem_set hL with h | h
    · exact hls L h
    · rw [h, hh2]; exact padL_len _ _
  · show (K1.set (hdOf B).1 (hdOf B).2)[B.a + (B.gen + 1) % 2]? = _
    rw [← hh1, List.getElem?_set_self (by omega)]; rfl
  · simp only
    intro L hL h hh
    have e : (B.gen + 1 + 1) % 2 = B.gen % 2 := by omega
    rw [e] at hL hh
    rw [hset _ (by rw [hh1]; omega), hfar _ (fun y hy e => by have := ws_rng f hk hy; omega)] at hL
    have := ho L hL h hh
    omega
  · intro i hi
    show (K1.set (hdOf B).1 (hdOf B).2)[B.tab (B.gen + 1) + i]? = _
    have g := h2 (B.gen + 1)
    rw [hset _ (by omega)]
    exact hmem (B.tab (B.gen + 1) + i, _) (List.mem_append_right _ (List.mem_map.2 ⟨i, List.mem_range.2 hi, rfl⟩))
  · intro p v s hp hs
    simp only at hs ⊢
    have hpl : p < B.pages := by rw [← hv]; exact (List.getElem?_eq_some_iff.1 hp).1
    have g := h3 p s hpl
    show ∃ L, (K1.set (hdOf B).1 (hdOf B).2)[B.plc p s]? = some L ∧ _
    rw [hset _ (by omega)]
    by_cases hin : p ∈ ks
    · refine ⟨_, ?_, hks p v hin hp⟩
      have e : boolF next p = s := by rw [boolF, hs]; rfl
      have := hmem (B.plc p (boolF next p), padL (ch p) B.size) (List.mem_append_left _ (List.mem_map.2 ⟨p, hin, rfl⟩))
      rw [e] at this
      exact this
    · rw [hfar _ ?_]
      · exact hno p v s hin hp hs
      · intro y hy e
        rcases ws_mem hy with ⟨q, hq, rfl⟩ | ⟨i, hi, rfl⟩
        · have := (plc_inj e).1
          subst this
          exact hin hq
        · have := h2 (B.gen + 1)
          simp only at e
          omega
/-- it fell before that -/
theorem fell_lies {K : List (List UInt8)} {vals : List (List UInt8)} (h : Lies K B vals) (hk : ∀ p ∈ ks, p < B.pages) (hnx : ∀ p ∈ ks, ∀ s, B.second[p]? = some s → boolF next p ≠ s) (kf : Nat → Bool) (i : Nat) :
    Lies (settleN kf (wsOf B next ks ch) K i) B vals := by
  obtain ⟨h1, h2, h3, h4⟩ := h.f.places
  have hrn := h.f.rng
  have hfar : ∀ x, (∀ y ∈ wsOf B next ks ch, y.1 ≠ x) → (settleN kf (wsOf B next ks ch) K i)[x]? = K[x]? := fun x hx => settle_far _ _ _ hx _
  have hlow : ∀ x, x < B.a + 2 → (settleN kf (wsOf B next ks ch) K i)[x]? = K[x]? := fun x hx => hfar x fun y hy e => by have := ws_rng h.f hk hy; omega
  refine { f := ⟨by rw [settleN_len]; exact h.f.rng, h.f.f, h.f.z, h.f.slen⟩, len := settle_lens h.len (fun y hy => (ws_rng h.f hk hy).2.2) _, vlen := h.vlen, head := ?_, other := ?_, tabs := ?_, page := ?_ }
  · rw [hlow _ (by omega)]; exact h.head
  · intro L hL
    rw [hlow _ (by omega)] at hL
    exact h.other L hL
  · intro j hj
    rw [hfar]
    · exact h.tabs j hj
    · intro y hy e
      have g1 := h2 B.gen
      rcases ws_mem hy with ⟨q, hq, rfl⟩ | ⟨m, hm, rfl⟩
      · have := h3 q (boolF next q) (hk q hq)
        simp only at e
        omega
      · simp only at e
        unfold BookV.tab tabAt BookV.T at *
        rcases Nat.mod_two_eq_zero_or_one B.gen with e1 | e1
        · rw [e1, show (B.gen + 1) % 2 = 1 by omega] at e
          omega
        · rw [e1, show (B.gen + 1) % 2 = 0 by omega] at e
          omega
  · intro p v s hp hs
    rw [hfar]
    · exact h.page p v s hp hs
    · intro y hy e
      have hpl : p < B.pages := by rw [← h.vlen]; exact (List.getElem?_eq_some_iff.1 hp).1
      have g := h3 p s hpl
      rcases ws_mem hy with ⟨q, hq, rfl⟩ | ⟨m, hm, rfl⟩
      · obtain ⟨e1, e2⟩ := plc_inj e
        subst e1
        exact hnx q hq s hs e2
      · have := h2 (B.gen + 1)
        simp only at e
        omega
/-- the sectors beside it -/
theorem ws_beside {K : List (List UInt8)} (f : Fits K.length B) (hk : ∀ p ∈ ks, p < B.pages) (kf : Nat → Bool) (i : Nat) {x : Nat} (hx : x < B.a ∨ B.a + B.n ≤ x) : (settleN kf (wsOf B next ks ch) K i)[x]? = K[x]? :=
  settle_far _ _ _ (fun y hy e => by have := ws_rng f hk hy; omega) _
end
end Go.Proofs.YtnddaildicmneaaGreat
/-
  pages: a book in memory; the methods that only ask.
-/
namespace Go.Proofs.YtnddaildicmneaaGreat
open Go.Proofs Go.RowKit Go.Sort Go.Maps

/-- ints as keys -/
def keyI : KeyT Int where
  t := 3
  val x := .int .i64 x
  ok x := wfI x
  keyed := Maps.int_keyed Tryz.underlying3
  key x h := ⟨_, Maps.keyOf_int_mk Tryz.underlying3 h⟩
  inj x y h := by simpa using h
  inv v kl h := by
    obtain ⟨x, hx, hl, hw⟩ := Maps.keyOf_i64 Tryz.underlying3 h
    first | exact ⟨x, hx, hw⟩ | (refine ⟨x, hx, ?_⟩; simpa [wfI, hl] using hw)
abbrev EntV := Nat × Value × List UInt8
def entI (ce : List EntV) : List (Int × Value) := ce.map fun x => ((x.1 : Int), x.2.1)
/-- a book without its disk; `M`: the blocks that its methods may write -/
structure BAt (w : World) (s d c : Nat) (sv : Value) (ce : List EntV) (B : BookV) : Prop where
  box : Blk w s 63 #[dp d, .int .i64 B.a, .int .i64 B.n, .int .i64 B.size, .int .u64 B.gen, .int .i64 B.pages, sv, .map (some c)]
  sec : recBo.Row w sv B.second
  map : KMap keyI w c (entI ce)
  vals : ∀ x ∈ ce, recB.Row w x.2.1 x.2.2
  ch : B.changed = ce.map fun x => (x.1, x.2.2)
def MS (s c : Nat) : Nat → Prop := fun k => k = s ∨ k = c
/-- the row `v` lies apart from the blocks `X` -/
def XOk (X : Nat → Prop) (w : World) (v : Value) : Prop := (∀ k, v.ownBlock = some k → ¬ X k) ∧ ∀ k, X k → k < w.heap.size
theorem XOk.keep {X : Nat → Prop} {w w' : World} {v : Value} (h : XOk X w v) (hs : w.heap.size ≤ w'.heap.size) : XOk X w' v := ⟨h.1, fun k hx => Nat.lt_of_lt_of_le (h.2 k hx) hs⟩
theorem XOk.fresh {X : Nat → Prop} {w w' : World} {v v' : Value} (h : XOk X w v) (hs : w.heap.size ≤ w'.heap.size) (e : Above w.heap.size v'.ownBlock) : XOk X w' v' := ⟨fun k hk hx => by
  have := e k hk
  have := h.2 k hx
  omega, fun k hx => Nat.lt_of_lt_of_le (h.2 k hx) hs⟩
def BP (X : Nat → Prop) (w : World) (s d : Nat) (M : Nat → Prop) (B : BookV) : Prop := ∃ c sv ce, M = MS s c ∧ BAt w s d c sv ce B ∧ XOk X w sv
section
variable {X : Nat → Prop} {w w' : World} {s d c : Nat} {sv : Value} {ce : List EntV} {B : BookV} {S M F : Nat → Prop} {D : DiskV}
theorem notRaw_box {q : Nat} {T : TypeId} {cs : Array Value} (h : Blk w q T cs) (h1 : T ≠ 5) (h2 : T ≠ 4) : NotRaw w q := fun cs2 T2 fr hh => by
  unfold Blk at h
  rw [h] at hh
  injection hh with hh
  injection hh with _ hh
  rw [← hh]; exact ⟨h1, h2⟩
theorem notRaw_map {κ : Type} [DecidableEq κ] {K : KeyT κ} {l : List (κ × Value)} {c : Nat} (h : KMap K w c l) : NotRaw w c := fun cs T fr hk => by
  obtain ⟨D, ⟨es, clock, hb2, -⟩, -⟩ := h.own
  rw [hk] at hb2
  cases hb2
theorem BAt.ne (h : BAt w s d c sv ce B) : s ≠ c := h.map.ne_blk h.box
theorem BAt.notRaw (h : BAt w s d c sv ce B) : ∀ k, MS s c k → NotRaw w k := by
  rintro k (rfl | rfl)
  · exact notRaw_box h.box (by decide) (by decide)
  · exact notRaw_map h.map
theorem BAt.keepAll (h : BAt w s d c sv ce B) (hk : Keeps S w w') (hd : ∀ k, MS s c k → ¬ S k) (hr : ∀ k, S k → NotRaw w k) : BAt w' s d c sv ce B where
  box := h.box.keep hk (hd s (.inl rfl))
  sec := h.sec.keep hk (fun b e hs => row_raw h.sec (.inr rfl) (hr b hs) e)
  map := h.map.keep hk (hd c (.inr rfl))
  vals x hx := (h.vals x hx).keep hk (fun b e hs => row_raw (h.vals x hx) (.inl rfl) (hr b hs) e)
  ch := h.ch
theorem BAt.same (h : BAt w s d c sv ce B) (hk : Keeps nowhere w w') : BAt w' s d c sv ce B := h.keepAll hk (fun _ _ h => h) (fun _ h => h.elim)
theorem BAt.lt (h : BAt w s d c sv ce B) : ∀ k, MS s c k → k < w.heap.size := by
  rintro k (rfl | rfl)
  · exact h.box.lt
  · exact h.map.lt
theorem BAt.cell (h : BAt w s d c sv ce B) (k : Nat) : w.cell? ⟨s, k, none⟩ = (#[dp d, .int .i64 B.a, .int .i64 B.n, .int .i64 B.size, .int .u64 B.gen, .int .i64 B.pages, sv, .map (some c)] : Array Value)[k]? := h.box.cell k
theorem BP.keepAll (h : BP X w s d M B) (hk : Keeps S w w') (hd : ∀ k, M k → ¬ S k) (hr : ∀ k, S k → NotRaw w k) : BP X w' s d M B := by
  obtain ⟨c, sv, ce, rfl, h, hx⟩ := h
  exact ⟨c, sv, ce, rfl, h.keepAll hk hd hr, hx.keep hk.size⟩
theorem BP.same (h : BP X w s d M B) (hk : Keeps nowhere w w') : BP X w' s d M B := h.keepAll hk (fun _ _ h => h) (fun _ h => h.elim)
theorem BP.lt (h : BP X w s d M B) : ∀ k, M k → k < w.heap.size := by
  obtain ⟨c, sv, ce, rfl, h, hx⟩ := h
  exact h.lt
theorem BP.notRaw (h : BP X w s d M B) : ∀ k, M k → NotRaw w k := by
  obtain ⟨c, sv, ce, rfl, h, hx⟩ := h
  exact h.notRaw
/-- a book that may be: small numbers -/
structure BOk (B : BookV) : Prop where
  z1 : 64 ≤ B.size
  z2 : B.size ≤ 1000000
  n1 : B.a + B.n ≤ 1000000
  p1 : B.pages ≤ 1024
  g : B.gen < 18446744073709551616
def bp (s : Nat) : Value := .pointer (some ⟨s, 0, none⟩)
theorem bpages_any (h : BP X w s d M B) : Calls Tryz.prog 23 #[bp s] w (RetV (.int .i64 B.pages) w) := by
  obtain ⟨c, sv, ce, rfl, h, hx⟩ := h
  have c5 := h.cell 5
  simp at c5
  clear h
  unfold bp
  go_enter Tryz.func23, Tryz.ntmps23
  go_wp2
  go_ret
  exact ⟨rfl, rfl⟩
theorem bmost_any (h : BP X w s d M B) : Calls Tryz.prog 10 #[bp s] w (RetV (.int .i64 B.pages) w) := by
  obtain ⟨c, sv, ce, rfl, h, hx⟩ := h
  have c5 := h.cell 5
  simp at c5
  clear h
  unfold bp
  go_enter Tryz.func10, Tryz.ntmps10
  go_wp2
  go_ret
  exact ⟨rfl, rfl⟩
def inP (pages : Nat) (p : Int) : Bool := decide (0 ≤ p ∧ p < pages)
theorem bin_any (p : Int) (h : BP X w s d M B) : Calls Tryz.prog 29 #[bp s, .int .i64 p] w (RetV (.bool (inP B.pages p)) w) := by
  obtain ⟨c, sv, ce, rfl, h, hx⟩ := h
  have c5 := h.cell 5
  simp at c5
  clear h
  unfold bp
  by_cases h0 : 0 ≤ p
  · have h0' : p ≥ 0 := h0
    have hR : inP B.pages p = decide (p < B.pages) := by unfold inP; simp [h0]
    have HR := Lib.hid hR
    clear hR
    go_enter Tryz.func29, Tryz.ntmps29
    go_wp2_with fail
    go_ret
    exact ⟨by rw [HR.out]; rfl, rfl⟩
  · have h0' : ¬ p ≥ 0 := h0
    have hR : inP B.pages p = false := by unfold inP; simp [h0]
    have HR := Lib.hid hR
    clear hR
    go_enter Tryz.func29, Tryz.ntmps29
    go_wp2_with fail
    go_ret
    exact ⟨by rw [HR.out]; rfl, rfl⟩
def fitsI (n p : Int) : Bool := decide (1 ≤ p ∧ p ≤ 1024 ∧ 16 ≤ n ∧ p ≤ (n - 16) / 3)
theorem fits_any (n p : Int) (w : World) (hn : n ≤ 9223372036854775807) : Calls Tryz.prog 25 #[.int .i64 n, .int .i64 p] w (RetV (.bool (fitsI n p)) w) := by
  by_cases h1 : 1 ≤ p
  · by_cases h2 : p ≤ 1024
    · by_cases h3 : 16 ≤ n
      · have e1 : IntKind.i64.wrap (n - 16) = n - 16 := IntWalk.i64_in _ (by omega)
        have e2 : Int.tdiv (n - 16) 3 = (n - 16) / 3 := Int.tdiv_eq_ediv_of_nonneg (by omega)
        have e3 : IntKind.i64.wrap ((n - 16) / 3) = (n - 16) / 3 := IntWalk.i64_in _ (by omega)
        have g1 : p ≥ 1 := h1
        have g3 : n ≥ 16 := h3
        have hR : fitsI n p = decide ((n - 16) / 3 ≥ p) := by unfold fitsI; simp [h1, h2, h3]
        have HR := Lib.hid hR
        clear hR
        go_enter Tryz.func25, Tryz.ntmps25
        go_wp2_with fail
        go_ret
        exact ⟨by rw [HR.out]; rfl, rfl⟩
      · have g1 : p ≥ 1 := h1
        have g3 : ¬ n ≥ 16 := h3
        have hR : fitsI n p = false := by unfold fitsI; simp [h3]
        have HR := Lib.hid hR
        clear hR
        go_enter Tryz.func25, Tryz.ntmps25
        go_wp2_with fail
        go_ret
        exact ⟨by rw [HR.out]; rfl, rfl⟩
    · have g1 : p ≥ 1 := h1
      have hR : fitsI n p = false := by unfold fitsI; simp [h2]
      have HR := Lib.hid hR
      clear hR
      go_enter Tryz.func25, Tryz.ntmps25
      go_wp2_with fail
      go_ret
      exact ⟨by rw [HR.out]; rfl, rfl⟩
  · have g1 : ¬ p ≥ 1 := h1
    have hR : fitsI n p = false := by unfold fitsI; simp [h1]
    have HR := Lib.hid hR
    clear hR
    go_enter Tryz.func25, Tryz.ntmps25
    go_wp2_with fail
    go_ret
    exact ⟨by rw [HR.out]; rfl, rfl⟩
theorem fitsI_nat (n p : Nat) : fitsI n p = decide (fitsN n p) := by
  unfold fitsI
  rw [Bool.eq_iff_iff, decide_eq_true_iff, decide_eq_true_iff]
  unfold fitsN
  constructor
  · rintro ⟨h1, h2, h3, h4⟩
    refine ⟨by omega, by omega, by omega⟩
  · rintro ⟨h1, h2, h3⟩
    refine ⟨by omega, by omega, by omega, by omega⟩
end
end Go.Proofs.YtnddaildicmneaaGreat
/-
  pages: where things lie; Abort; on; what a panic tells.
-/
namespace Go.Proofs.YtnddaildicmneaaGreat
open Go.Proofs Go.RowKit Go.Sort Go.Maps

def RetK (v : Value) (w : World) : Ending → World → Prop := fun e w' => e = .returned v ∧ Keeps nowhere w w'
section
variable {X : Nat → Prop} {w w' : World} {s d c : Nat} {sv : Value} {ce : List EntV} {B : BookV} {S M F : Nat → Prop} {D : DiskV}
set_option maxHeartbeats 1000000 in
theorem btables_any (h : BP X w s d M B) (ok : BOk B) : Calls Tryz.prog 34 #[bp s] w (RetK (.int .i64 B.T) w) := by
  obtain ⟨c, sv, ce, rfl, h, hx⟩ := h
  have c5 := h.cell 5
  have c3 := h.cell 3
  simp at c5 c3
  clear h
  obtain ⟨z1, z2, n1, p1, g⟩ := ok
  have hT : B.T = (B.pages + 8 * B.size - 1) / (8 * B.size) := rfl
  obtain ⟨z, hz⟩ : ∃ z, z = B.size := ⟨_, rfl⟩
  obtain ⟨p, hp⟩ : ∃ p, p = B.pages := ⟨_, rfl⟩
  rw [← hz, ← hp] at hT
  rw [← hz] at c3 z1 z2
  rw [← hp] at c5 p1
  clear hz hp n1 g
  have e1 : IntKind.i64.wrap (8 * (z : Int)) = ((8 * z : Nat) : Int) := by rw [IntWalk.i64_in _ (by omega)]; omega
  have e2 : IntKind.i64.wrap ((p : Int) + ((8 * z : Nat) : Int)) = ((p + 8 * z : Nat) : Int) := by rw [IntWalk.i64_in _ (by omega)]; omega
  have e3 : IntKind.i64.wrap (((p + 8 * z : Nat) : Int) - 1) = ((p + 8 * z - 1 : Nat) : Int) := by rw [IntWalk.i64_in _ (by omega)]; omega
  have e4 : Int.tdiv ((p + 8 * z - 1 : Nat) : Int) ((8 * z : Nat) : Int) = (((p + 8 * z - 1) / (8 * z) : Nat) : Int) := by
    rw [Int.tdiv_eq_ediv_of_nonneg (by omega)]; exact (Int.natCast_ediv _ _).symm
  have hle : (p + 8 * z - 1) / (8 * z) ≤ p + 8 * z - 1 := Nat.div_le_self _ _
  have e5 : IntKind.i64.wrap (((p + 8 * z - 1) / (8 * z) : Nat) : Int) = (((p + 8 * z - 1) / (8 * z) : Nat) : Int) := IntWalk.i64_in _ (by omega)
  have h0 : ¬ ((8 * z : Nat) : Int) = 0 := by omega
  have h0b : (((8 * z : Nat) : Int) == 0) = false := by simp; omega
  obtain ⟨m, hm⟩ : ∃ m : Int, m = ((8 * z : Nat) : Int) := ⟨_, rfl⟩
  obtain ⟨m2, hm2⟩ : ∃ m : Int, m = ((p + 8 * z : Nat) : Int) := ⟨_, rfl⟩
  obtain ⟨m3, hm3⟩ : ∃ m : Int, m = ((p + 8 * z - 1 : Nat) : Int) := ⟨_, rfl⟩
  obtain ⟨m4, hm4⟩ : ∃ m : Int, m = (((p + 8 * z - 1) / (8 * z) : Nat) : Int) := ⟨_, rfl⟩
  rw [hT]
  rw [← hm4] at e4 e5 ⊢
  rw [← hm3] at e3 e4
  rw [← hm2] at e2 e3
  rw [← hm] at e1 e2 e4 h0 h0b
  clear hm hm2 hm3 hm4 hle hT
  unfold bp
  go_enter Tryz.func34, Tryz.ntmps34
  go_wp2_with fail
  go_quiet (fail)
  go_wp2_with fail
  go_ret
  exact ⟨rfl, (Keeps.refl _ _).drewN _⟩
theorem and1_u64 (a : Nat) (ha : a < 18446744073709551616) : bits .and .u64 (a : Int) 1 = ((a % 2 : Nat) : Int) := by
  have h1 : (BitVec.ofInt 64 (a : Int)).toNat = a := by
    rw [BitVec.ofInt_natCast, BitVec.toNat_ofNat]; exact Nat.mod_eq_of_lt (by omega)
  have h2 : (BitVec.ofInt 64 (1 : Int)).toNat = 1 := by decide
  show IntKind.u64.wrap ((BitVec.ofInt 64 (a : Int) &&& BitVec.ofInt 64 (1 : Int)).toNat : Int) = _
  rw [BitVec.toNat_and, h1, h2, Nat.and_one_is_mod, IntKind.wrap_u64]
  omega
theorem T_le (ok : BOk B) : B.T ≤ 1024 := by
  have := ok.z1
  have := ok.p1
  have : B.T < 1025 := Nat.div_lt_of_lt_mul (by omega)
  omega
set_option maxHeartbeats 1000000 in
theorem btable_any (gn : Nat) (h : BP X w s d M B) (ok : BOk B) (hg : gn < 18446744073709551616) : Calls Tryz.prog 36 #[bp s, .int .u64 gn] w (RetK (.int .i64 (B.tab gn)) w) := by
  have hT := fun w1 (hk : Keeps nowhere w w1) => btables_any (h.same hk) ok
  have hTl := T_le ok
  have hdef : B.tab gn = B.a + 2 + gn % 2 * B.T := rfl
  obtain ⟨c, sv, ce, rfl, h, hx⟩ := h
  obtain ⟨z1, z2, n1, p1, -⟩ := ok
  have q1 : ∀ w', Keeps nowhere w.drew w' → w'.cell? ⟨s, 1, none⟩ = some (.int .i64 B.a) := fun w' e => by simpa using (h.same ((Keeps.refl nowhere w).drew.more e)).cell 1
  clear h
  obtain ⟨r, hr⟩ : ∃ r, r = B.tab gn := ⟨_, rfl⟩
  obtain ⟨t, ht⟩ : ∃ t, t = B.T := ⟨_, rfl⟩
  obtain ⟨a, ha⟩ : ∃ a, a = B.a := ⟨_, rfl⟩
  rw [← hr, ← ha, ← ht] at hdef
  rw [← ht] at hTl
  rw [← ha] at q1 n1
  simp only [← ht] at hT
  rw [← hr]
  clear hr ha ht z1 z2 p1
  have e0 := and1_u64 gn hg
  obtain ⟨m, hm⟩ : ∃ m, m = gn % 2 := ⟨_, rfl⟩
  have hm2 : m < 2 := by omega
  rw [← hm] at e0 hdef
  have e1 : IntKind.i64.wrap ((a : Int) + 2) = ((a + 2 : Nat) : Int) := by rw [IntWalk.i64_in _ (by omega)]; omega
  have e2 : IntKind.i64.wrap (m : Int) = m := IntWalk.i64_in _ (by omega)
  have e3 : IntKind.i64.wrap ((m : Int) * t) = ((m * t : Nat) : Int) := by
    have : m * t ≤ 1 * t := Nat.mul_le_mul_right _ (by omega)
    rw [IntWalk.i64_in _ (by rcases (by omega : m = 0 ∨ m = 1) with rfl | rfl <;> simp <;> omega)]; simp
  have e4 : IntKind.i64.wrap (((a + 2 : Nat) : Int) + ((m * t : Nat) : Int)) = (r : Int) := by
    have : m * t ≤ 1 * t := Nat.mul_le_mul_right _ (by omega)
    rw [IntWalk.i64_in _ (by omega)]; omega
  obtain ⟨m1, hm1⟩ : ∃ m : Int, m = ((a + 2 : Nat) : Int) := ⟨_, rfl⟩
  obtain ⟨m3, hm3⟩ : ∃ x : Int, x = ((m * t : Nat) : Int) := ⟨_, rfl⟩
  rw [← hm3] at e3 e4
  rw [← hm1] at e1 e4
  clear hm hm1 hm3 hdef hm2 hTl n1
  unfold bp at hT ⊢
  have HT := Lib.hid hT
  clear hT
  go_enter Tryz.func36, Tryz.ntmps36
  go_wp2_with fail
  refine wp_region_script [0, 1, 2, 3, 4, 5, 6, 7, 8, 10, 11, 12] [3] [.ps [0, 1, 2], .fs [3], .ps [4, 5, 6, 7, 8], .es [9] true, .ps [10, 11, 12]] (Keeps nowhere w.drew) rfl (by kernel_rfl) ?_
  refine wpS_ps rfl fun K hK => ?_
  simp only [List.map_cons, List.map_nil, Option.getD_some, List.getElem?_toArray, List.getElem?_cons_zero, List.getElem?_cons_succ]
  iterate 3 (first | (apply quietO_cons _ rfl; (intro w' _; go_simp; rfl)) | apply quietO_skip rfl)
  refine hK _ ?_
  clear hK K
  simp only [Act.put, List.setIfInBounds_toArray, List.set_cons_zero, List.set_cons_succ]
  refine wpS_fs rfl (Keeps.refl _ _) fun K hK => ?_
  simp only [List.map_cons, List.map_nil, Option.getD_some, List.getElem?_toArray, List.getElem?_cons_zero, List.getElem?_cons_succ]
  iterate 1 (first | (apply quietO_cons _ rfl; (intro w' hs; have c_0 := q1 w' hs; go_simp; rfl)) | apply quietO_skip rfl)
  refine hK _ ?_
  clear hK K
  simp only [Act.put, List.setIfInBounds_toArray, List.set_cons_zero, List.set_cons_succ]
  refine wpS_ps rfl fun K hK => ?_
  simp only [List.map_cons, List.map_nil, Option.getD_some, List.getElem?_toArray, List.getElem?_cons_zero, List.getElem?_cons_succ]
  iterate 5 (first | (apply quietO_cons _ rfl; (intro w' _; go_simp; rfl)) | apply quietO_skip rfl)
  refine hK _ ?_
  clear hK K
  simp only [Act.put, List.setIfInBounds_toArray, List.set_cons_zero, List.set_cons_succ]
  refine wpS_es rfl fun K hK => ?_
  have HK := Lib.hid hK
  clear hK
  simp only [List.map_cons, List.map_nil, Option.getD_some, List.getElem?_toArray, List.getElem?_cons_zero, List.getElem?_cons_succ]
  go_wp2_with fail
  refine (HT.out _ (Keeps.refl nowhere w).drew).mono ?_
  rintro e w2 ⟨rfl, hk2⟩
  go_wp2_with fail
  refine HK.out _ _ (fun _ => hk2) ?_
  clear HK K
  refine wpS_ps rfl fun K hK => ?_
  simp only [List.map_cons, List.map_nil, Option.getD_some, List.getElem?_toArray, List.getElem?_cons_zero, List.getElem?_cons_succ]
  iterate 3 (first | (apply quietO_cons _ rfl; (intro w' _; go_simp; rfl)) | apply quietO_skip rfl)
  refine hK _ ?_
  clear hK K
  simp only [Act.put, List.setIfInBounds_toArray, List.set_cons_zero, List.set_cons_succ]
  refine wpS_nil ?_
  go_wp2_with fail
  go_ret
  exact ⟨rfl, (Keeps.refl nowhere w).drew.more hk2⟩
set_option maxHeartbeats 1000000 in
theorem bplace_any (pg : Nat) (b : Bool) (h : BP X w s d M B) (ok : BOk B) (hp : pg < 1024) : Calls Tryz.prog 42 #[bp s, .int .i64 pg, .bool b] w (RetK (.int .i64 (B.plc pg b)) w) := by
  have hT := fun w1 (hk : Keeps nowhere w w1) => btables_any (h.same hk) ok
  have hTl := T_le ok
  have hdef : B.plc pg b = B.a + 2 + 2 * B.T + 2 * pg + b.toNat := rfl
  obtain ⟨c, sv, ce, rfl, h, hx⟩ := h
  obtain ⟨z1, z2, n1, p1, -⟩ := ok
  have q1 : ∀ w', Keeps nowhere w.drew w' → w'.cell? ⟨s, 1, none⟩ = some (.int .i64 B.a) := fun w' e => by simpa using (h.same ((Keeps.refl nowhere w).drew.more e)).cell 1
  clear h
  obtain ⟨r, hr⟩ : ∃ r, r = B.plc pg b := ⟨_, rfl⟩
  obtain ⟨t, ht⟩ : ∃ t, t = B.T := ⟨_, rfl⟩
  obtain ⟨a, ha⟩ : ∃ a, a = B.a := ⟨_, rfl⟩
  rw [← hr, ← ha, ← ht] at hdef
  rw [← ht] at hTl
  rw [← ha] at q1 n1
  simp only [← ht] at hT
  rw [← hr]
  clear hr ha ht z1 z2 p1
  have e1 : IntKind.i64.wrap ((a : Int) + 2) = ((a + 2 : Nat) : Int) := by rw [IntWalk.i64_in _ (by omega)]; omega
  have e2 : IntKind.i64.wrap (2 * (t : Int)) = ((2 * t : Nat) : Int) := by rw [IntWalk.i64_in _ (by omega)]; omega
  have e3 : IntKind.i64.wrap (2 * (pg : Int)) = ((2 * pg : Nat) : Int) := by rw [IntWalk.i64_in _ (by omega)]; omega
  have e4 : IntKind.i64.wrap (((a + 2 : Nat) : Int) + ((2 * t : Nat) : Int)) = ((a + 2 + 2 * t : Nat) : Int) := by rw [IntWalk.i64_in _ (by omega)]; omega
  obtain ⟨r0, hr0⟩ : ∃ r0, r0 = a + 2 + 2 * t + 2 * pg := ⟨_, rfl⟩
  have e5 : IntKind.i64.wrap (((a + 2 + 2 * t : Nat) : Int) + ((2 * pg : Nat) : Int)) = (r0 : Int) := by rw [IntWalk.i64_in _ (by omega)]; omega
  have e6 : IntKind.i64.wrap ((r0 : Int) + 1) = (r0 : Int) + 1 := IntWalk.i64_in _ (by omega)
  obtain ⟨m1, hm1⟩ : ∃ m : Int, m = ((a + 2 : Nat) : Int) := ⟨_, rfl⟩
  obtain ⟨m2, hm2⟩ : ∃ m : Int, m = ((2 * t : Nat) : Int) := ⟨_, rfl⟩
  obtain ⟨m3, hm3⟩ : ∃ m : Int, m = ((2 * pg : Nat) : Int) := ⟨_, rfl⟩
  obtain ⟨m4, hm4⟩ : ∃ m : Int, m = ((a + 2 + 2 * t : Nat) : Int) := ⟨_, rfl⟩
  rw [← hm1] at e1 e4
  rw [← hm2] at e2 e4
  rw [← hm3] at e3 e5
  rw [← hm4] at e4 e5
  rw [← hr0] at hdef
  clear hm1 hm2 hm3 hm4 hr0 hTl n1 hp
  unfold bp at hT ⊢
  have HT := Lib.hid hT
  clear hT
  go_enter Tryz.func42, Tryz.ntmps42
  go_wp2_with fail
  refine wp_region_script [0, 1, 2, 3, 4, 5, 7, 8, 9, 10, 11, 12] [3] [.ps [0, 1, 2], .fs [3], .ps [4, 5, 9, 10], .es [6] true, .ps [7, 8, 11, 12]] (Keeps nowhere w.drew) rfl (by kernel_rfl) ?_
  refine wpS_ps rfl fun K hK => ?_
  simp only [List.map_cons, List.map_nil, Option.getD_some, List.getElem?_toArray, List.getElem?_cons_zero, List.getElem?_cons_succ]
  iterate 3 (first | (apply quietO_cons _ rfl; (intro w' _; go_simp; rfl)) | apply quietO_skip rfl)
  refine hK _ ?_
  clear hK K
  simp only [Act.put, List.setIfInBounds_toArray, List.set_cons_zero, List.set_cons_succ]
  refine wpS_fs rfl (Keeps.refl _ _) fun K hK => ?_
  simp only [List.map_cons, List.map_nil, Option.getD_some, List.getElem?_toArray, List.getElem?_cons_zero, List.getElem?_cons_succ]
  iterate 1 (first | (apply quietO_cons _ rfl; (intro w' hs; have c_0 := q1 w' hs; go_simp; rfl)) | apply quietO_skip rfl)
  refine hK _ ?_
  clear hK K
  simp only [Act.put, List.setIfInBounds_toArray, List.set_cons_zero, List.set_cons_succ]
  refine wpS_ps rfl fun K hK => ?_
  simp only [List.map_cons, List.map_nil, Option.getD_some, List.getElem?_toArray, List.getElem?_cons_zero, List.getElem?_cons_succ]
  iterate 4 (first | (apply quietO_cons _ rfl; (intro w' _; go_simp; rfl)) | apply quietO_skip rfl)
  refine hK _ ?_
  clear hK K
  simp only [Act.put, List.setIfInBounds_toArray, List.set_cons_zero, List.set_cons_succ]
  refine wpS_es rfl fun K hK => ?_
  have HK := Lib.hid hK
  clear hK
  simp only [List.map_cons, List.map_nil, Option.getD_some, List.getElem?_toArray, List.getElem?_cons_zero, List.getElem?_cons_succ]
  go_wp2_with fail
  refine (HT.out _ (Keeps.refl nowhere w).drew).mono ?_
  rintro e w2 ⟨rfl, hk2⟩
  go_wp2_with fail
  refine HK.out _ _ (fun _ => hk2) ?_
  clear HK K
  refine wpS_ps rfl fun K hK => ?_
  simp only [List.map_cons, List.map_nil, Option.getD_some, List.getElem?_toArray, List.getElem?_cons_zero, List.getElem?_cons_succ]
  iterate 4 (first | (apply quietO_cons _ rfl; (intro w' _; go_simp; rfl)) | apply quietO_skip rfl)
  refine hK _ ?_
  clear hK K
  simp only [Act.put, List.setIfInBounds_toArray, List.set_cons_zero, List.set_cons_succ]
  refine wpS_nil ?_
  cases b with
  | false =>
    have hr : r = r0 := hdef
    clear hdef
    have Hr := Lib.hid hr
    clear hr
    go_wp2_with fail
    go_ret
    exact ⟨by rw [Hr.out]; rfl, (Keeps.refl nowhere w).drew.more hk2⟩
  | true =>
    have hr : r = r0 + 1 := hdef
    clear hdef
    have Hr := Lib.hid hr
    clear hr
    go_wp2_with fail
    go_ret
    exact ⟨by rw [Hr.out]; simp, (Keeps.refl nowhere w).drew.more hk2⟩
theorem must_ok (w : World) : Calls Tryz.prog 46 #[.int .i64 0] w (RetV (.tuple #[]) w) := by
  go_enter Tryz.func46, Tryz.ntmps46
  go_wp2
  go_end0
  exact ⟨rfl, rfl⟩
def panicE (x : Int) : Ending := .panicked [{ v := .iface 26 (.int .i64 x), recovered := false }]
theorem must_bad (x : Int) (hx : x ≠ 0) (w : World) : Calls Tryz.prog 46 #[.int .i64 x] w fun e w' => e = panicE x ∧ w = w' := by
  have hmi : ∀ w, (Instr.makeInterface 26 (.int .i64 x)).run Tryz.prog w = .ok (.iface 26 (.int .i64 x)) w := fun _ => by kernel_rfl
  go_enter Tryz.func46, Tryz.ntmps46
  go_wp2
  exact ⟨rfl, rfl, rfl⟩
set_option maxHeartbeats 400000 in
theorem bcaught_idle (p : Nat) (w : World) :
    CallsD Tryz.prog 45 #[.pointer (some ⟨p, 0, none⟩)] .returning w fun e u' w' => e = .returned (.tuple #[]) ∧ u' = .returning ∧ w' = w := by
  refine callsD_of_wpS Tryz.func45 rfl fun c₀ cs hu => ?_
  apply wpS_seq
  apply wpS_region
  simp [wpOpsS, go_sem, recoverD, hu, Tryz.ntmps45, Exit.thenS, Array.replicate_succ]
  refine wpS_of_wp ?_
  go_wp2
  cases c₀
  simp_all [bodyPostS, results, Tryz.results45]
set_option maxHeartbeats 400000 in
theorem bcaught_panic (p : Nat) (x : Int) (y : Int) (older : List PanicEntry) (w : World) (hb : Blk w p 26 #[.int .i64 y]) :
    CallsD Tryz.prog 45 #[.pointer (some ⟨p, 0, none⟩)] (.panicking ({ v := .iface 26 (.int .i64 x), recovered := false } :: older)) w fun e u' w' =>
      e = .returned (.tuple #[]) ∧ u' = .panicking ({ v := .iface 26 (.int .i64 x), recovered := true } :: older) ∧ w' = w.setCell ⟨p, 0, none⟩ (.int .i64 x) := by
  have hc1 := hb.cell 0
  have hf1 := hb.frozen 0
  simp at hc1
  clear hb
  have hta : ∀ w, (Instr.typeAssert (.iface 26 (.int .i64 x)) 20 26 true).run Tryz.prog w = .ok (.tuple #[.int .i64 x, .bool true]) w := fun _ => by kernel_rfl
  refine callsD_of_wpS Tryz.func45 rfl fun c₀ cs hu => ?_
  apply wpS_seq
  apply wpS_region
  simp [wpOpsS, go_sem, recoverD, hu, Tryz.ntmps45, Exit.thenS, Array.replicate_succ]
  refine wpS_of_wp ?_
  go_wp2
  simp [bodyPostS, results, Tryz.results45]
theorem BP.abort (h : BAt w s d c sv ce B) (hx : XOk X w sv) : ∃ w', w' = (w.alloc (.map #[] 0)).setCell ⟨s, 7, none⟩ (.map (some w.heap.size)) ∧ BP X w' s d (MS s w.heap.size) { B with changed := [] } ∧ Keeps (MS s c) w w' := by
  have hk1 := (Keeps.refl nowhere w).alloc (.map #[] 0)
  have h1 := h.same hk1
  have hks : Keeps (only s) (w.alloc (.map #[] 0)) ((w.alloc (.map #[] 0)).setCell ⟨s, 7, none⟩ (.map (some w.heap.size))) := (Keeps.refl (only s) _).setCell (p := ⟨s, 7, none⟩) (fun _ => rfl) _
  have hb := h1.box.set_ 7 (.map (some w.heap.size))
  have hm := KMap.new keyI w
  have hlt := h.box.lt
  refine ⟨_, rfl, ⟨w.heap.size, sv, [], rfl, ⟨by simpa using hb, h1.sec.keep hks (fun b e hs => row_raw h1.sec (.inr rfl) (notRaw_box h1.box (by decide) (by decide)) (by rw [← (show b = s from hs)]; exact e)), hm.keep hks (fun e => by have e2 : w.heap.size = s := e; omega), by simp, rfl⟩, hx.keep (Nat.le_trans hk1.size hks.size)⟩, ?_⟩
  exact (hk1.mono (T := MS s c) (fun _ _ h => h.elim)).trans hks (fun k _ e => .inl e)
def BGo (X : Nat → Prop) (w : World) (s d : Nat) (M : Nat → Prop) (w' : World) (B : BookV) : Prop := ∃ M', BP X w' s d M' B ∧ Keeps M w w' ∧ ∀ k, M' k → M k ∨ w.heap.size ≤ k
theorem babort_any (h : BP X w s d M B) : Calls Tryz.prog 13 #[bp s] w fun e w' => e = .returned (.tuple #[]) ∧ BGo X w s d M w' { B with changed := [] } := by
  obtain ⟨c, sv, ce, rfl, h, hx⟩ := h
  obtain ⟨w1, hw1, h1, h2⟩ := BP.abort h hx
  have c7 := (h.same ((Keeps.refl nowhere w).alloc (.map #[] 0))).cell 7
  have f7 := (h.same ((Keeps.refl nowhere w).alloc (.map #[] 0))).box.frozen 7
  simp at c7
  have hmm := @run_makeMap Tryz.prog
  clear h
  unfold bp
  have Hw1 := Lib.hid hw1
  have H1 := Lib.hid h1
  have H2 := Lib.hid h2
  clear hw1 h1 h2
  go_enter Tryz.func13, Tryz.ntmps13
  go_wp2_with fail
  rw [← Hw1.out]
  go_end0
  refine ⟨rfl, _, H1.out, H2.out, ?_⟩
  rintro k (e | e)
  · exact .inl (.inl e)
  · exact .inr (by omega)
end
end Go.Proofs.YtnddaildicmneaaGreat
/- Layings of the shelf's contracts at this seat, in plain words (the kit's tool lay-plain.mjs wrote them; wip/layp.py). -/
namespace Go.Proofs.YtnddaildicmneaaGreat
open Go.Shelf Go.Proofs
def keysI_ren : Go.Shelf.Ren := ⟨fun | 7 => 41 | 10 => 59 | n => n, fun | 23 => 61 | 26 => 3 | 3 => 33 | 28 => 74 | 0 => 0 | 27 => 69 | 33 => 66 | 4 => 4 | n => n, fun | n => n⟩
theorem keysI : Go.Proofs.SlLaysZI.n7 Tryz.prog keysI_ren := {
  mixed := by kernel_rfl
  f7 := ⟨Tryz.f41.name, by decide, Tryz.func41.trans (congrArg some (by kernel_rfl))⟩
  f10 := ⟨Tryz.f59.name, by decide, Tryz.func59.trans (congrArg some (by kernel_rfl))⟩
  t0 := Tryz.underlying0
  a0 := Tryz.isAgg0
  z0 := Tryz.sizeOf0
  v0 := Tryz.zeroValue0
  t4 := Tryz.underlying4
  a4 := Tryz.isAgg4
  z4 := Tryz.sizeOf4
  v4 := Tryz.zeroValue4
  t23 := Tryz.underlying61
  a23 := Tryz.isAgg61
  z23 := Tryz.sizeOf61
  v23 := Tryz.zeroValue61
  t26 := Tryz.underlying3
  a26 := Tryz.isAgg3
  z26 := Tryz.sizeOf3
  v26 := Tryz.zeroValue3
  t27 := Tryz.underlying69
  a27 := Tryz.isAgg69
  z27 := Tryz.sizeOf69
  v27 := Tryz.zeroValue69
  t28 := Tryz.underlying74
  a28 := Tryz.isAgg74
  z28 := Tryz.sizeOf74
  v28 := Tryz.zeroValue74
  t33 := Tryz.underlying66
  a33 := Tryz.isAgg66
  z33 := Tryz.sizeOf66
  v33 := Tryz.zeroValue66 }
def sortedI_ren : Go.Shelf.Ren := ⟨fun | 6 => 40 | 8 => 57 | 9 => 58 | 11 => 66 | 13 => 68 | 12 => 67 | 23 => 83 | 24 => 84 | 14 => 74 | 15 => 75 | 16 => 76 | 17 => 77 | 18 => 78 | 19 => 79 | 20 => 80 | 21 => 81 | 22 => 82 | 25 => 87 | 26 => 88 | 27 => 89 | 28 => 90 | 29 => 91 | 30 => 92 | 31 => 101 | n => n, fun | 26 => 3 | 28 => 74 | 24 => 49 | 0 => 0 | 3 => 3 | 37 => 65 | 48 => 123 | 50 => 58 | 4 => 4 | 40 => 116 | 39 => 115 | 45 => 120 | 5 => 5 | 9 => 9 | 51 => 126 | 55 => 130 | 57 => 137 | 58 => 78 | 33 => 66 | n => n, fun | n => n⟩
theorem sortedI : Go.Proofs.SlLaysZI.n6 Tryz.prog sortedI_ren := {
  mixed := by kernel_rfl
  f6 := ⟨Tryz.f40.name, by decide, Tryz.func40.trans (congrArg some (by kernel_rfl))⟩
  f8 := ⟨Tryz.f57.name, by decide, Tryz.func57.trans (congrArg some (by kernel_rfl))⟩
  f11 := ⟨Tryz.f66.name, by decide, Tryz.func66.trans (congrArg some (by kernel_rfl))⟩
  t0 := Tryz.underlying0
  a0 := Tryz.isAgg0
  z0 := Tryz.sizeOf0
  v0 := Tryz.zeroValue0
  t24 := Tryz.underlying49
  a24 := Tryz.isAgg49
  z24 := Tryz.sizeOf49
  v24 := Tryz.zeroValue49
  t26 := Tryz.underlying3
  a26 := Tryz.isAgg3
  z26 := Tryz.sizeOf3
  v26 := Tryz.zeroValue3
  t28 := Tryz.underlying74
  a28 := Tryz.isAgg74
  z28 := Tryz.sizeOf74
  v28 := Tryz.zeroValue74
  i26 := by kernel_rfl }
def sortI_ren : Go.Shelf.Ren := ⟨fun | 5 => 58 | 8 => 68 | 7 => 67 | 19 => 83 | 20 => 84 | 10 => 74 | 11 => 75 | 12 => 76 | 13 => 77 | 14 => 78 | 15 => 79 | 16 => 80 | 17 => 81 | 18 => 82 | 30 => 87 | 31 => 88 | 32 => 89 | 33 => 90 | 34 => 91 | 35 => 92 | 40 => 101 | n => n, fun | 23 => 49 | 25 => 3 | 3 => 3 | 32 => 65 | 22 => 49 | 0 => 0 | 44 => 123 | 46 => 58 | 4 => 4 | 36 => 116 | 35 => 115 | 41 => 120 | 5 => 5 | 9 => 9 | 53 => 126 | 57 => 130 | 63 => 137 | 64 => 78 | n => n, fun | n => n⟩
theorem sortI : Go.Proofs.SlLaysM.n5 Tryz.prog sortI_ren := {
  mixed := by kernel_rfl
  f5 := ⟨Tryz.f58.name, by decide, Tryz.func58.trans (congrArg some (by kernel_rfl))⟩
  f7 := ⟨Tryz.f67.name, by decide, Tryz.func67.trans (congrArg some (by kernel_rfl))⟩
  f8 := Tryz.func68.trans (congrArg some (by kernel_rfl))
  f10 := ⟨Tryz.f74.name, by decide, Tryz.func74.trans (congrArg some (by kernel_rfl))⟩
  f11 := ⟨Tryz.f75.name, by decide, Tryz.func75.trans (congrArg some (by kernel_rfl))⟩
  f12 := ⟨Tryz.f76.name, by decide, Tryz.func76.trans (congrArg some (by kernel_rfl))⟩
  f13 := ⟨Tryz.f77.name, by decide, Tryz.func77.trans (congrArg some (by kernel_rfl))⟩
  f14 := ⟨Tryz.f78.name, by decide, Tryz.func78.trans (congrArg some (by kernel_rfl))⟩
  f15 := ⟨Tryz.f79.name, by decide, Tryz.func79.trans (congrArg some (by kernel_rfl))⟩
  f16 := ⟨Tryz.f80.name, by decide, Tryz.func80.trans (congrArg some (by kernel_rfl))⟩
  f17 := ⟨Tryz.f81.name, by decide, Tryz.func81.trans (congrArg some (by kernel_rfl))⟩
  f18 := ⟨Tryz.f82.name, by decide, Tryz.func82.trans (congrArg some (by kernel_rfl))⟩
  f19 := Tryz.func83.trans (congrArg some (by kernel_rfl))
  f20 := Tryz.func84.trans (congrArg some (by kernel_rfl))
  f30 := ⟨Tryz.f87.name, by decide, Tryz.func87.trans (congrArg some (by kernel_rfl))⟩
  f31 := Tryz.func88.trans (congrArg some (by kernel_rfl))
  f32 := Tryz.func89.trans (congrArg some (by kernel_rfl))
  f33 := ⟨Tryz.f90.name, by decide, Tryz.func90.trans (congrArg some (by kernel_rfl))⟩
  f34 := ⟨Tryz.f91.name, by decide, Tryz.func91.trans (congrArg some (by kernel_rfl))⟩
  f35 := ⟨Tryz.f92.name, by decide, Tryz.func92.trans (congrArg some (by kernel_rfl))⟩
  f40 := ⟨Tryz.f101.name, by decide, Tryz.func101.trans (congrArg some (by kernel_rfl))⟩
  t0 := Tryz.underlying0
  a0 := Tryz.isAgg0
  z0 := Tryz.sizeOf0
  v0 := Tryz.zeroValue0
  t3 := Tryz.underlying3
  a3 := Tryz.isAgg3
  z3 := Tryz.sizeOf3
  v3 := Tryz.zeroValue3
  t4 := Tryz.underlying4
  a4 := Tryz.isAgg4
  z4 := Tryz.sizeOf4
  v4 := Tryz.zeroValue4
  t5 := Tryz.underlying5
  a5 := Tryz.isAgg5
  z5 := Tryz.sizeOf5
  v5 := Tryz.zeroValue5
  t9 := Tryz.underlying9
  a9 := Tryz.isAgg9
  z9 := Tryz.sizeOf9
  v9 := Tryz.zeroValue9
  t22 := Tryz.underlying49
  a22 := Tryz.isAgg49
  z22 := Tryz.sizeOf49
  v22 := Tryz.zeroValue49
  t23 := Tryz.underlying49
  a23 := Tryz.isAgg49
  z23 := Tryz.sizeOf49
  v23 := Tryz.zeroValue49
  t25 := Tryz.underlying3
  a25 := Tryz.isAgg3
  z25 := Tryz.sizeOf3
  v25 := Tryz.zeroValue3
  t32 := Tryz.underlying65
  a32 := Tryz.isAgg65
  z32 := Tryz.sizeOf65
  v32 := Tryz.zeroValue65
  t35 := Tryz.underlying115
  a35 := Tryz.isAgg115
  z35 := Tryz.sizeOf115
  v35 := Tryz.zeroValue115
  t36 := Tryz.underlying116
  a36 := Tryz.isAgg116
  z36 := Tryz.sizeOf116
  v36 := Tryz.zeroValue116
  t41 := Tryz.underlying120
  a41 := Tryz.isAgg120
  z41 := Tryz.sizeOf120
  v41 := Tryz.zeroValue120
  t44 := Tryz.underlying123
  a44 := Tryz.isAgg123
  z44 := Tryz.sizeOf123
  v44 := Tryz.zeroValue123
  t46 := Tryz.underlying58
  a46 := Tryz.isAgg58
  z46 := Tryz.sizeOf58
  v46 := Tryz.zeroValue58
  t53 := Tryz.underlying126
  a53 := Tryz.isAgg126
  z53 := Tryz.sizeOf126
  v53 := Tryz.zeroValue126
  t57 := Tryz.underlying130
  a57 := Tryz.isAgg130
  z57 := Tryz.sizeOf130
  v57 := Tryz.zeroValue130
  t63 := Tryz.underlying137
  a63 := Tryz.isAgg137
  z63 := Tryz.sizeOf137
  v63 := Tryz.zeroValue137
  t64 := Tryz.underlying78
  a64 := Tryz.isAgg78
  z64 := Tryz.sizeOf78
  v64 := Tryz.zeroValue78 }
end Go.Proofs.YtnddaildicmneaaGreat
/-
  pages: the keys of a map of ints, sorted.
-/
namespace Go.Proofs.YtnddaildicmneaaGreat
open Go.Proofs Go.RowKit Go.Sort Go.Maps Go.Shelf

def recI : RecT Int := ⟨3, 1, fun x => [.int .i64 x], fun _ => rfl, fun _ u hu => by rw [List.mem_singleton.1 hu]; rfl, by decide⟩
theorem recI_cells (l : List Int) : recI.cells l = l.map encZ := by
  unfold RecT.cells recI
  induction l with
  | nil => rfl
  | cons x l ih => simp [ih, encZ]
theorem sortsI (m : Nat) : AnyZI.SortsIn Tryz.prog sortedI_ren Fence.wide m :=
  ⟨fun blk off cap ss W hH hblk hsz => callsIn_wide.2 (AnyM.slices_Sort_int sortI blk off cap ss W hH hblk hsz),
   fun p cap W => callsIn_wide.2 (AnyM.slices_Sort_int_none sortI p cap W)⟩
section
variable {X : Nat → Prop} {w : World} {b : Nat} {l : List (Int × Value)}
theorem keyI_lit {x : Int} (h : wfI x) : keyI.lit x = .int .i64 x := by
  have h1 := keyI.litOf (x := x) h
  have h2 : keyOf Tryz.prog keyI.t (keyI.val x) = some (.int .i64 x) := Maps.keyOf_int_mk Tryz.underlying3 h
  rw [h1] at h2
  exact Option.some.inj h2
theorem KMap.perm_keys (h : KMap keyI w b l) {D : DataW Value} (ho : w.ownsMap Tryz.prog keyI.t rdAny b l.length D) (hh : ∀ x, keyI.ok x → (Maps.has D (keyI.lit x) = true ↔ x ∈ l.map (·.1))) : (l.map (·.1)).Perm (intKeys D) := by
  obtain ⟨es, hD, hpw, _⟩ := ho.entries keyI.keyed
  obtain ⟨es', hD', hko⟩ := ho.keysOf
  obtain rfl : es = es' := by rw [hD] at hD'; simpa using hD'
  subst hD
  have hint : ∀ p ∈ es, ∃ x, p.1 = .int .i64 x ∧ wfI x := fun p hp => by
    obtain ⟨v, hv⟩ := hko p hp
    obtain ⟨x, _, hx, hw⟩ := Maps.keyOf_i64 Tryz.underlying3 hv
    exact ⟨x, hx, by simpa [wfI] using hw⟩
  refine perm_intKeys hpw (fun p hp => by obtain ⟨x, hx, -⟩ := hint p hp; exact ⟨x, hx⟩) h.nd fun x => ?_
  by_cases hx : wfI x
  · have := hh x hx
    rw [keyI_lit hx] at this
    exact this.symm
  · constructor
    · intro hm
      obtain ⟨p, hp, rfl⟩ := List.mem_map.1 hm
      exact absurd (h.ok p hp) hx
    · intro hm
      rw [has_eq, List.any_eq_true] at hm
      obtain ⟨p, hp, hs⟩ := hm
      obtain ⟨a, ha, hw⟩ := hint p hp
      rw [ha] at hs
      have : a = x := by simpa [Lit.sameKey] using hs
      exact absurd (this ▸ hw) hx
def srtI (l : List Int) : List Int := l.mergeSort fun x y => decide (x ≤ y)
def keysVal (q : Nat) : Value := .func (.func 59) #[] #[.pointer (some ⟨q, 0, none⟩)]
theorem ikeys_any (w : World) (b : Nat) : Calls Tryz.prog 41 #[.map (some b)] w fun e w' => e = .returned (keysVal w.heap.size) ∧ w' = w.alloc (.cells #[.map (some b)] 61) :=
  (callsIn_wide (n := 6)).1 (AnyZI.keys_in keysI Fence.wide 6 trivial rfl (some b) w)
theorem ownsRow_down {w : World} {base : Nat} {e : TypeId} {size n : Nat} {v : Value} {xs : List Value} (h : w.ownsRow base e size v n xs) : w.ownsRow 0 e size v n xs :=
  ⟨h.1, h.2.imp id fun ⟨g, cap, cur, h1, _, h3⟩ => ⟨g, cap, cur, h1, Nat.zero_le _, h3⟩⟩
theorem isorted_any (h : KMap keyI w b l) (hl : l.length ≤ 1000000) :
    Calls Tryz.prog 40 #[keysVal w.heap.size] (w.alloc (.cells #[.map (some b)] 61)) fun e w' => ∃ v, e = .returned v ∧ recI.Row w' v (srtI (l.map (·.1))) ∧ Keeps nowhere w w' ∧ (∀ k, v.ownBlock = some k → w.heap.size ≤ k) := by
  obtain ⟨D, ho, hsz, hh⟩ := h.has
  have hp := h.perm_keys ho hh
  have hka := (Keeps.refl nowhere w).alloc (.cells #[.map (some b)] 61)
  have hown : (w.alloc (.cells #[.map (some b)] 61)).ownsMap Tryz.prog keyI.t rdAny b l.length D := by
    obtain ⟨es, clock, hb, Ft, hs, hD⟩ := ho
    exact ⟨es, clock, (hka.block b (Array.getElem?_eq_some_iff.1 hb).1 (fun h => h)).trans hb, Ft, hs, hD⟩
  have hseq : SeqGives Fence.wide 2 Tryz.prog 59 #[.pointer (some ⟨w.heap.size, 0, none⟩)] encZ (fun ss => ss.Perm (intKeys D)) (Maps.size D) (w.alloc (.cells #[.map (some b)] 61)) :=
    AnyZI.keys_gives (ρ := keysI_ren) { keysI with } Fence.wide _ trivial rfl (by omega) w.heap.size b l.length D _ (by simp) (by simp) hown
  have cS := AnyZI.sorted_in sortedI Fence.wide 5 trivial trivial trivial trivial rfl (by omega) (sortsI _) (enters_of Tryz.func58 (by kernel_rfl) rfl) 59 #[.pointer (some ⟨w.heap.size, 0, none⟩)] trivial (enters_of Tryz.func59 (by kernel_rfl) rfl) _ _
    (by rw [hsz]; unfold maxLen; omega) (by rw [hsz]; omega) _ hseq
  change CallsIn _ _ Tryz.prog 40 _ _ _ at cS
  refine Calls.mono ((callsIn_wide (n := 5)).1 cS) ?_
  rintro e w' ⟨v, ss, rfl, hpm, hrow, -, hb⟩
  have hss : ss.mergeSort (fun x y => decide (x ≤ y)) = srtI (l.map (·.1)) := mergeSort_of_perm_i (hpm.trans hp.symm)
  rw [hss] at hrow
  refine ⟨v, rfl, ?_, hka.more (_root_.Go.Proofs.YtnddaildicmneaaGreat.Below.keeps hb), fun k hk => ?_⟩
  · have hlen : ss.length = (srtI (l.map (·.1))).length := by rw [← hss, List.length_mergeSort]
    unfold RecT.Row
    rw [recI_cells, ← hlen]
    exact ownsRow_down hrow
  · have := (hrow.lt k hk).1
    simp at this
    omega
end
end Go.Proofs.YtnddaildicmneaaGreat
/-
  pages: the table as bytes.
-/
namespace Go.Proofs.YtnddaildicmneaaGreat
open Go.Proofs Go.RowKit Go.Sort Go.Maps

def tabF (f : Nat → Bool) (N : Nat) : List UInt8 := (List.range N).map fun j => UInt8.ofNat (byteN f j)
theorem tabF_len (f : Nat → Bool) (N : Nat) : (tabF f N).length = N := by simp [tabF]
theorem tabF_get (f : Nat → Bool) {N j : Nat} (h : j < N) : (tabF f N)[j]? = some (UInt8.ofNat (byteN f j)) := by simp [tabF, h]
theorem tabF_upd (f : Nat → Bool) (N i : Nat) (b : Bool) : (tabF f N).set (i / 8) (UInt8.ofNat (byteN (upd f i b) (i / 8))) = tabF (upd f i b) N := by
  refine List.ext_getElem? fun j => ?_
  by_cases hj : j < N
  · by_cases e : i / 8 = j
    · subst e
      rw [List.getElem?_set_self (by rw [tabF_len]; exact hj), tabF_get _ hj]
    · rw [List.getElem?_set_ne e, tabF_get _ hj, tabF_get _ hj, byteN_upd_ne f i j b (fun h => e h.symm)]
  · rw [List.getElem?_eq_none (by rw [List.length_set, tabF_len]; omega), List.getElem?_eq_none (by rw [tabF_len]; omega)]
theorem tabF_zero (N : Nat) : tabF (fun _ => false) N = zerosB N := by
  refine List.ext_getElem (by simp [tabF, zerosB]) fun i h1 h2 => ?_
  simp [tabF, zerosB, byteN]
def upto (l : List Bool) (i : Nat) : Nat → Bool := fun k => decide (k < i) && boolF l k
theorem upto_zero (l : List Bool) : upto l 0 = fun _ => false := by funext k; simp [upto]
theorem upto_true {l : List Bool} {i : Nat} (h : l[i]? = some true) : upto l (i + 1) = upd (upto l i) i true := by
  funext k
  unfold upto upd
  by_cases e : k = i
  · subst e
    simp [boolF, h]
  · rw [if_neg e]
    by_cases h1 : k < i
    · simp [h1, show k < i + 1 by omega]
    · simp [h1, show ¬ k < i + 1 by omega]
theorem upto_false {l : List Bool} {i : Nat} (h : l[i]? = some false) : upto l (i + 1) = upto l i := by
  funext k
  unfold upto
  by_cases e : k = i
  · subst e
    simp [boolF, h]
  · by_cases h1 : k < i
    · simp [h1, show k < i + 1 by omega]
    · simp [h1, show ¬ k < i + 1 by omega]
theorem upto_end (l : List Bool) : upto l l.length = boolF l := by
  funext k
  unfold upto
  by_cases h : k < l.length
  · simp [h]
  · simp [h, boolF]
theorem rdBo_cl {w w' : World} {A : Option Addr} {n c : Nat} {g : Option Nat} {L : List Bool} (h : recBo.Rd w (.slice A n c) g L) (hk : Keeps nowhere w w') {i : Nat} {x : Bool} (hx : L[i]? = some x) : ∃ b o, A = some ⟨b, o, none⟩ ∧ w'.cell? ⟨b, o + i, none⟩ = some (.bool x) := by
  obtain ⟨A', c', hv, -, -, -, h3, -⟩ := h.same hk
  injection hv with h1 _ _
  obtain ⟨b, o, hA, -, hc⟩ := h3 (by have := (List.getElem?_eq_some_iff.1 hx).1; omega)
  refine ⟨b, o, h1.trans hA, ?_⟩
  have := hc i x hx 0 (by decide)
  rw [show i * recBo.n = i from Nat.mul_one i] at this
  simpa [recBo] using this
theorem row_setB {w : World} {q n c : Nat} {L : List UInt8} (h : recB.Row w (.slice (some ⟨q, 0, none⟩) n c) L) {i : Nat} (hi : i < n) (x : UInt8) :
    (∃ u, L[i]? = some u ∧ w.cell? ⟨q, i, none⟩ = some (bv u)) ∧ w.frozen? ⟨q, i, none⟩ = false ∧ recB.Row (w.setCell ⟨q, i, none⟩ (bv x)) (.slice (some ⟨q, 0, none⟩) n c) (L.set i x) ∧ Keeps (only q) w (w.setCell ⟨q, i, none⟩ (bv x)) := by
  obtain ⟨A, c', hv, -⟩ := h.form
  injection hv with _ hn _
  subst hn
  obtain ⟨h1, h2, h3⟩ := h.store hi x
  obtain ⟨h4, h5⟩ := h1 0 (by decide)
  have ew : w.setCells q (i * recB.n) (recB.cs x) = w.setCell ⟨q, i, none⟩ (bv x) := by show w.setCell ⟨q, i * 1, none⟩ _ = _; rw [Nat.mul_one]
  rw [ew] at h2 h3
  rw [Nat.add_zero, show i * recB.n = i from Nat.mul_one i] at h4 h5
  obtain ⟨u, hu⟩ : ∃ u, L[i]? = some u := ⟨_, List.getElem?_eq_getElem hi⟩
  have hat := h.at_ hu 0 (by decide)
  rw [show i * recB.n = i from Nat.mul_one i, Nat.add_zero] at hat
  exact ⟨⟨u, hu, by simpa [recB] using hat⟩, h5, h2, h3⟩
theorem pow_l8 (m : Nat) (hm : m < 8) : (1 : Int) ≤ 2 ^ m ∧ (2 : Int) ^ m ≤ 128 ∧ 2 ^ m ≤ 128 := by
  rcases (by omega : m = 0 ∨ m = 1 ∨ m = 2 ∨ m = 3 ∨ m = 4 ∨ m = 5 ∨ m = 6 ∨ m = 7) with rfl | rfl | rfl | rfl | rfl | rfl | rfl | rfl <;> decide
section
variable {X : Nat → Prop} {w w' : World} {s d c : Nat} {sv : Value} {ce : List EntV} {B : BookV} {S M F : Nat → Prop} {D : DiskV}
set_option maxRecDepth 20000 in
set_option maxHeartbeats 4000000 in
theorem bbitmap_any (A : Option Addr) (N cp : Nat) (g : Option Nat) (l : List Bool) (h : BP X w s d M B) (ok : BOk B) (hr : recBo.Rd w (.slice A N cp) g l) (hN : N = l.length) (hl : N ≤ B.pages) :
    Calls Tryz.prog 48 #[bp s, .slice A N cp] w fun e w' => ∃ q, e = .returned (.slice (some ⟨q, 0, none⟩) (B.T * B.size) (B.T * B.size)) ∧ recB.Row w' (.slice (some ⟨q, 0, none⟩) (B.T * B.size) (B.T * B.size)) (tabL l (B.T * B.size)) ∧ w.heap.size ≤ q ∧ Keeps nowhere w w' := by
  have hT := fun w1 (hk : Keeps nowhere w w1) => btables_any (h.same hk) ok
  have hTl := T_le ok
  obtain ⟨n, hn⟩ : ∃ n, n = B.T * B.size := ⟨_, rfl⟩
  have hge : N ≤ 8 * n := by rw [hn]; exact Nat.le_trans hl (tabN_ge ok.z1)
  have hn9 : n ≤ 1024 * 1000000 := by rw [hn]; exact Nat.mul_le_mul hTl ok.z2
  have hN4 : N ≤ 1024 := Nat.le_trans hl ok.p1
  obtain ⟨c, sv, ce, rfl, h, hx⟩ := h
  have q3 : ∀ w', Keeps nowhere w.drew w' → w'.cell? ⟨s, 3, none⟩ = some (.int .i64 B.size) := fun w' e => by simpa using (h.same ((Keeps.refl nowhere w).drew.more e)).cell 3
  have hmul : IntKind.i64.wrap ((B.T : Int) * B.size) = (n : Int) := by rw [IntWalk.i64_in _ (by rw [← Int.natCast_mul, ← hn]; omega), ← Int.natCast_mul, ← hn]
  rw [← hn]
  obtain ⟨t, ht⟩ : ∃ t, t = B.T := ⟨_, rfl⟩
  obtain ⟨z, hz⟩ : ∃ z, z = B.size := ⟨_, rfl⟩
  rw [← ht, ← hz] at hmul
  rw [← hz] at q3
  simp only [← ht] at hT
  clear h ok hTl hn ht hz hl
  unfold bp at hT ⊢
  have HT := Lib.hid hT
  have Hr := Lib.hid hr
  have HN := Lib.hid hN
  clear hT hr hN
  go_enter Tryz.func48, Tryz.ntmps48
  go_upto_region 1 with fail
  refine wp_region_script [0, 2, 3, 4, 5, 6] [5] [.ps [0, 2, 3, 4], .fs [5], .es [1] true, .ps [6], .es [7, 8] false] (Keeps nowhere w.drew) rfl (by kernel_rfl) ?_
  refine wpS_ps rfl fun K hK => ?_
  simp only [List.map_cons, List.map_nil, Option.getD_some, List.getElem?_toArray, List.getElem?_cons_zero, List.getElem?_cons_succ]
  iterate 4 (first | (apply quietO_cons _ rfl; (intro w' _; go_simp; rfl)) | apply quietO_skip rfl)
  refine hK _ ?_
  clear hK K
  simp only [Act.put, List.setIfInBounds_toArray, List.set_cons_zero, List.set_cons_succ]
  refine wpS_fs rfl (Keeps.refl _ _) fun K hK => ?_
  simp only [List.map_cons, List.map_nil, Option.getD_some, List.getElem?_toArray, List.getElem?_cons_zero, List.getElem?_cons_succ]
  iterate 1 (first | (apply quietO_cons _ rfl; (intro w' hs; have c_0 := q3 w' hs; go_simp; rfl)) | apply quietO_skip rfl)
  refine hK _ ?_
  clear hK K
  simp only [Act.put, List.setIfInBounds_toArray, List.set_cons_zero, List.set_cons_succ]
  refine wpS_es rfl fun K hK => ?_
  have HK := Lib.hid hK
  clear hK
  simp only [List.map_cons, List.map_nil, Option.getD_some, List.getElem?_toArray, List.getElem?_cons_zero, List.getElem?_cons_succ]
  go_wp2_with fail
  refine (HT.out _ (Keeps.refl nowhere w).drew).mono ?_
  rintro e w2 ⟨rfl, hk2⟩
  go_wp2_with fail
  refine HK.out _ _ (fun _ => hk2) ?_
  clear HK K
  refine wpS_ps rfl fun K hK => ?_
  simp only [List.map_cons, List.map_nil, Option.getD_some, List.getElem?_toArray, List.getElem?_cons_zero, List.getElem?_cons_succ]
  iterate 1 (first | (apply quietO_cons _ rfl; (intro w' _; go_simp; rfl)) | apply quietO_skip rfl)
  refine hK _ ?_
  clear hK K
  simp only [Act.put, List.setIfInBounds_toArray, List.set_cons_zero, List.set_cons_succ]
  refine wpS_es rfl fun K hK => ?_
  have HK := Lib.hid hK
  clear hK
  simp only [List.map_cons, List.map_nil, Option.getD_some, List.getElem?_toArray, List.getElem?_cons_zero, List.getElem?_cons_succ]
  go_wp2_with (at_make; refine wpList_make_bytesB _ rfl _ _ rfl n (n : Int) rfl rfl rfl (by omega) ?_)
  intro w3 hx3 hk3
  obtain ⟨q, hq⟩ : ∃ q, q = w2.heap.size := ⟨_, rfl⟩
  rw [← hq] at hx3
  simp only [← hq]
  have hk03 : Keeps nowhere w w3 := ((Keeps.refl nowhere w).drew.more hk2).more hk3
  have hqw : w.heap.size ≤ q := by rw [hq]; exact ((Keeps.refl nowhere w).drew.more hk2).size
  rw [← tabF_zero, ← upto_zero l] at hx3
  clear hk2 hk3 hq
  have Hx3 := Lib.hid hx3
  have Hk03 := Lib.hid hk03
  have Hqw := Lib.hid hqw
  clear hx3 hk03 hqw
  go_wp2_with fail
  refine HK.out _ _ (fun h => by cases h) ?_
  clear HK K
  refine wpS_nil ?_
  go_upto_region 3 with fail
  go_loopw [18] (fun iv wr => ∃ i : Nat, iv = .int .i64 i ∧ i ≤ N ∧ recB.Row wr (.slice (some ⟨q, 0, none⟩) n n) (tabF (upto l i) n) ∧ Keeps nowhere w wr) (fun iv _ => N - (intOf iv).toNat)
  case atStart => exact ⟨0, rfl, Nat.zero_le _, Hx3.out, Hk03.out⟩
  case round =>
    obtain ⟨i, rfl, hi, hx, hk⟩ := hrel
    by_cases hlt : i < N
    · have hltI : (i : Int) < N := by omega
      have hi1 : IntKind.i64.wrap ((i : Int) + 1) = i + 1 := IntWalk.i64_in _ (by omega)
      obtain ⟨y, hy⟩ : ∃ y, l[i]? = some y := ⟨_, List.getElem?_eq_getElem (by rw [← HN.out]; exact hlt)⟩
      obtain ⟨b, o, hA, hcy⟩ := rdBo_cl Hr.out hk hy
      subst hA
      cases y with
      | false =>
        have hx' := hx
        rw [← upto_false hy] at hx'
        clear hx
        have Hx' := Lib.hid hx'
        have Hk := Lib.hid hk
        have Hy := Lib.hid hy
        clear hx' hk hy
        go_wp2_with fail
        go_roundw
        case rel => exact ⟨i + 1, by simp, by omega, Hx'.out, Hk.out⟩
        case measure => simp [intOf]; omega
      | true =>
        obtain ⟨j, hj⟩ : ∃ j, j = i / 8 := ⟨_, rfl⟩
        obtain ⟨m, hm⟩ : ∃ m, m = i % 8 := ⟨_, rfl⟩
        have hm8 : m < 8 := by omega
        have hjn : j < n := by omega
        have hjI : (j : Int) < n := by omega
        have hj0 : (0 : Int) ≤ j := by omega
        have hquo : Int.tdiv (i : Int) 8 = (j : Int) := by rw [Int.tdiv_eq_ediv_of_nonneg (by omega)]; omega
        have hquo2 : (i : Int) / 8 = (j : Int) := by omega
        have hrem : Int.tmod (i : Int) 8 = (m : Int) := by rw [Int.tmod_eq_emod_of_nonneg (by omega)]; omega
        have hrem2 : (i : Int) % 8 = (m : Int) := by omega
        have hjw : IntKind.i64.wrap (j : Int) = j := IntWalk.i64_in _ (by omega)
        have hmw : IntKind.i64.wrap (m : Int) = m := IntWalk.i64_in _ (by omega)
        obtain ⟨⟨u, hu, cu⟩, fu, hx2, hk2⟩ := row_setB hx hjn (UInt8.ofNat (byteN (upto l (i + 1)) j))
        rw [tabF_get _ hjn] at hu
        injection hu with hu
        have hbit := byteN_bit (upto l i) j m hm8
        rw [show 8 * j + m = i by omega, show upto l i i = false by simp [upto]] at hbit
        have hup := (byteN_upd (upto l i) i).1
        rw [show upto l i i = false by simp [upto], ← hj, ← hm] at hup
        simp only [Bool.false_eq_true, if_false] at hup
        have hx8 := byteN_lt (upto l i) j
        rw [← or_bit _ hx8 _ hm8 hbit, ← upto_true hy] at hup
        obtain ⟨x, hxx⟩ : ∃ x, x = byteN (upto l i) j := ⟨_, rfl⟩
        rw [← hxx] at hu hup hx8
        have hbu : bv u = .int .u8 (x : Int) := by
          rw [← hu]; unfold bv; rw [UInt8.toNat_ofNat', Nat.mod_eq_of_lt (by omega)]
        obtain ⟨y, hyy⟩ : ∃ y, y = x ||| 2 ^ m := ⟨_, rfl⟩
        have hy8 : y < 256 := by rw [hyy, ← hup]; exact byteN_lt _ _
        rw [← hyy] at hup
        have hbn : bv (UInt8.ofNat (byteN (upto l (i + 1)) j)) = .int .u8 (y : Int) := by
          rw [hup]; unfold bv; rw [UInt8.toNat_ofNat', Nat.mod_eq_of_lt (by omega)]
        rw [hbn] at hx2 hk2
        rw [upto_true hy, hj, tabF_upd, ← upto_true hy, ← hj] at hx2
        rw [hbu] at cu
        obtain ⟨b1, b2, b3⟩ := pow_l8 m hm8
        have hw1 : IntKind.u8.wrap ((2 : Int) ^ m) = 2 ^ m := by rw [IntKind.wrap_u8']; omega
        have hw2 : (2 : Int) ^ m % 256 = 2 ^ m := by omega
        have hw3 : bits .or .u8 (x : Int) (2 ^ m) = y := by
          have := u8_or_nat x (2 ^ m) hx8 (by omega)
          rw [hyy, ← this]; simp
        have q5 : ∀ w', w' = wr.drew → w'.cell? ⟨q, j, none⟩ = some (.int .u8 (x : Int)) := fun w' e => by rw [e]; exact cu
        have hx3 : recB.Row (wr.drew.setCell ⟨q, j, none⟩ (.int .u8 (y : Int))) (.slice (some ⟨q, 0, none⟩) n n) (tabF (upto l (i + 1)) n) := hx2.same (Keeps.refl nowhere _).drew
        have hk3 : Keeps nowhere w (wr.drew.setCell ⟨q, j, none⟩ (.int .u8 (y : Int))) := (hk.drew).setCell (p := ⟨q, j, none⟩) (fun h => by have := Hqw.out; simp at h; omega) _
        have hci : wr.cell? ⟨b, o + i, none⟩ = some (.bool true) := hcy
        clear hx hx2 hk2 hbn hbu hup hbit hu hyy hxx b1 b2 b3 hk
        have Hx3 := Lib.hid hx3
        have Hk3 := Lib.hid hk3
        have Hy := Lib.hid hy
        have Hj := Lib.hid hj
        have Hm := Lib.hid hm
        clear hx3 hk3 hy hj hm
        go_wp2_with fail
        refine wp_region_script [0, 1, 2, 3, 4, 5, 6, 7, 8, 9] [4] [.ps [0, 1, 2, 3], .fs [4], .ps [5, 6, 7, 8, 9], .es [10] false] (fun w' => w' = wr.drew) rfl (by kernel_rfl) ?_
        refine wpS_ps rfl fun K hK => ?_
        simp only [List.map_cons, List.map_nil, Option.getD_some, List.getElem?_toArray, List.getElem?_cons_zero, List.getElem?_cons_succ]
        iterate 4 (first | (apply quietO_cons _ rfl; (intro w' _; go_simp; rfl)) | apply quietO_skip rfl)
        refine hK _ ?_
        clear hK K
        simp only [Act.put, List.setIfInBounds_toArray, List.set_cons_zero, List.set_cons_succ]
        refine wpS_fs rfl (rfl) fun K hK => ?_
        simp only [List.map_cons, List.map_nil, Option.getD_some, List.getElem?_toArray, List.getElem?_cons_zero, List.getElem?_cons_succ]
        iterate 1 (first | (apply quietO_cons _ rfl; (intro w' hs; have c_0 := q5 w' hs; go_simp; rfl)) | apply quietO_skip rfl)
        refine hK _ ?_
        clear hK K
        simp only [Act.put, List.setIfInBounds_toArray, List.set_cons_zero, List.set_cons_succ]
        refine wpS_ps rfl fun K hK => ?_
        simp only [List.map_cons, List.map_nil, Option.getD_some, List.getElem?_toArray, List.getElem?_cons_zero, List.getElem?_cons_succ]
        iterate 5 (first | (apply quietO_cons _ rfl; (intro w' _; go_simp; rfl)) | apply quietO_skip rfl)
        refine hK _ ?_
        clear hK K
        simp only [Act.put, List.setIfInBounds_toArray, List.set_cons_zero, List.set_cons_succ]
        refine wpS_es rfl fun K hK => ?_
        have HK := Lib.hid hK
        clear hK
        simp only [List.map_cons, List.map_nil, Option.getD_some, List.getElem?_toArray, List.getElem?_cons_zero, List.getElem?_cons_succ]
        go_wp2_with fail
        refine HK.out _ _ (fun h => by cases h) ?_
        clear HK K
        refine wpS_nil ?_
        go_wp2_with fail
        go_roundw
        case rel => exact ⟨i + 1, by simp, by omega, Hx3.out, Hk3.out⟩
        case measure => simp [intOf]; omega
    · obtain rfl : i = N := by omega
      rw [HN.out, upto_end] at hx
      have hx' : recB.Row wr (.slice (some ⟨q, 0, none⟩) n n) (tabL l n) := hx
      clear hx
      have Hx' := Lib.hid hx'
      have Hk := Lib.hid hk
      clear hx' hk
      go_wp2_with fail
      go_ret
      exact ⟨q, rfl, Hx'.out, Hqw.out, Hk.out⟩
end
end Go.Proofs.YtnddaildicmneaaGreat
/-
  pages: on.
-/
namespace Go.Proofs.YtnddaildicmneaaGreat
open Go.Proofs Go.RowKit Go.Sort Go.Maps

def onB (a n z : Nat) : BookV := ⟨a, n, z, 0, 0, [], []⟩
def onE (K : Nat) (off : Bool) (a n : Int) : Int := if 1 ≤ n ∧ n ≤ K ∧ 0 ≤ a ∧ a ≤ K - n then (if off = true then 22 else 0) else 1
/-- what `on` hands back -/
def OnP (w : World) (d : Nat) (D : DiskV) (a n : Int) : Ending → World → Prop := fun e w' =>
  Keeps nowhere w w' ∧ ((onE D.kept.length D.off a n ≠ 0 ∧ e = .returned (.tuple #[.pointer none, .int .i64 (onE D.kept.length D.off a n)])) ∨
    (onE D.kept.length D.off a n = 0 ∧ ∃ s c, e = .returned (.tuple #[bp s, .int .i64 0]) ∧ BAt w' s d c (.slice none 0 0) [] (onB a.toNat n.toNat D.size) ∧ ∀ k, MS s c k → w.heap.size ≤ k))
section
variable {X : Nat → Prop} {w w' : World} {s d c : Nat} {sv : Value} {ce : List EntV} {B : BookV} {S M F : Nat → Prop} {D : DiskV}
theorem bnew_at (w : World) (d a n z : Nat) : BAt ((w.alloc (.map #[] 0)).alloc (.cells #[dp d, .int .i64 a, .int .i64 n, .int .i64 z, .int .u64 0, .int .i64 0, .slice none 0 0, .map (some w.heap.size)] 63)) (w.heap.size + 1) d w.heap.size (.slice none 0 0) [] (onB a n z) := by
  have hb := Blk.new (w.alloc (.map #[] 0)) 63 #[dp d, .int .i64 a, .int .i64 n, .int .i64 z, .int .u64 0, .int .i64 0, .slice none 0 0, .map (some w.heap.size)]
  rw [World.size_alloc] at hb
  exact ⟨hb, RecT.Row.nil _ _, (KMap.new keyI w).same ((Keeps.refl nowhere _).alloc _), by simp, rfl⟩
set_option maxHeartbeats 2000000 in
theorem bon_any (a n : Int) (h : DK X w d F D) (hK : D.kept.length ≤ 1000000) (ha : a ≤ 9223372036854775807) : Calls Tryz.prog 26 #[dp d, .int .i64 a, .int .i64 n] w (OnP w d D a n) := by
  have hsh := dk_shape h
  obtain ⟨K, hKK⟩ : ∃ K, K = D.kept.length := ⟨_, rfl⟩
  rw [← hKK] at hsh hK
  have hmm := @run_makeMap Tryz.prog
  by_cases hbad : 1 ≤ n ∧ n ≤ K ∧ 0 ≤ a ∧ a ≤ K - n
  · obtain ⟨b1, b2, b3, b4⟩ := hbad
    have e0 : onE K D.off a n = if D.off = true then 22 else 0 := if_pos ⟨b1, b2, b3, b4⟩
    have g1 : ¬ n < 1 := by omega
    have g2 : ¬ (K : Int) < n := by omega
    have g3 : ¬ a < 0 := by omega
    have e1 : IntKind.i64.wrap ((K : Int) - n) = K - n := IntWalk.i64_in _ (by omega)
    have g4 : ¬ (K : Int) - n < a := by omega
    have hoff := fun w1 (hk : Keeps nowhere w w1) => dk_off (h.same hk)
    cases ho : D.off with
    | true =>
      rw [ho] at e0 hoff
      rw [if_pos rfl] at e0
      unfold OnP
      rw [← hKK, ho, e0]
      unfold dp at *
      have Hoff := Lib.hid hoff
      have H := Lib.hid h
      have HKK := Lib.hid hKK
      have E0 := Lib.hid e0
      clear hoff h hKK e0
      go_enter Tryz.func26, Tryz.ntmps26
      go_wp2_with fail
      refine (hsh).mono ?_
      rintro e w1 ⟨rfl, hk1⟩
      have hof := Hoff.out w1 hk1
      go_wp2_with fail
      go_wp2_with fail
      refine (hof).mono ?_
      rintro e w2 ⟨rfl, rfl⟩
      go_wp2_with fail
      go_ret2
      exact ⟨hk1, .inl ⟨by decide, rfl⟩⟩
    | false =>
      obtain ⟨a', rfl⟩ := Int.eq_ofNat_of_zero_le b3
      obtain ⟨n', rfl⟩ := Int.eq_ofNat_of_zero_le (show 0 ≤ n by omega)
      rw [ho] at e0 hoff
      rw [if_neg (by decide)] at e0
      obtain ⟨z, hz⟩ : ∃ z, z = D.size := ⟨_, rfl⟩
      rw [← hz] at hsh
      have hnw := fun w1 => bnew_at w1 d a' n' z
      unfold OnP
      rw [← hKK, ho, e0, ← hz]
      unfold dp at *
      rw [Int.toNat_natCast, Int.toNat_natCast]
      have Hoff := Lib.hid hoff
      have H := Lib.hid h
      have HKK := Lib.hid hKK
      have E0 := Lib.hid e0
      have Hz := Lib.hid hz
      have Hnw := Lib.hid hnw
      clear hoff h hKK e0 hz hnw
      go_enter Tryz.func26, Tryz.ntmps26
      go_wp2_with fail
      refine (hsh).mono ?_
      rintro e w1 ⟨rfl, hk1⟩
      have hof := Hoff.out w1 hk1
      have hnew := Hnw.out w1
      have Hnew := Lib.hid hnew
      clear hnew
      go_wp2_with fail
      go_wp2_with fail
      refine (hof).mono ?_
      rintro e w2 ⟨rfl, rfl⟩
      go_wp2_with fail
      go_ret2
      refine ⟨(hk1.alloc _).alloc _, .inr ⟨by trivial, _, _, rfl, Hnew.out, ?_⟩⟩
      have := hk1.size
      rintro k (e | e) <;> omega
  · have e0 : onE K D.off a n = 1 := if_neg hbad
    unfold OnP
    rw [← hKK, e0]
    unfold dp at *
    by_cases g1 : n < 1
    · have H := Lib.hid h
      have HKK := Lib.hid hKK
      have E0 := Lib.hid e0
      have Hbad := Lib.hid hbad
      clear h hKK e0 hbad
      go_enter Tryz.func26, Tryz.ntmps26
      go_wp2_with fail
      refine (hsh).mono ?_
      rintro e w1 ⟨rfl, hk1⟩
      go_wp2_with fail
      go_ret2
      exact ⟨hk1, .inl ⟨by decide, rfl⟩⟩
    · by_cases g2 : (K : Int) < n
      · have H := Lib.hid h
        have HKK := Lib.hid hKK
        have E0 := Lib.hid e0
        have Hbad := Lib.hid hbad
        clear h hKK e0 hbad
        go_enter Tryz.func26, Tryz.ntmps26
        go_wp2_with fail
        refine (hsh).mono ?_
        rintro e w1 ⟨rfl, hk1⟩
        go_wp2_with fail
        go_ret2
        exact ⟨hk1, .inl ⟨by decide, rfl⟩⟩
      · by_cases g3 : a < 0
        · have H := Lib.hid h
          have HKK := Lib.hid hKK
          have E0 := Lib.hid e0
          have Hbad := Lib.hid hbad
          clear h hKK e0 hbad
          go_enter Tryz.func26, Tryz.ntmps26
          go_wp2_with fail
          refine (hsh).mono ?_
          rintro e w1 ⟨rfl, hk1⟩
          go_wp2_with fail
          go_ret2
          exact ⟨hk1, .inl ⟨by decide, rfl⟩⟩
        · have e1 : IntKind.i64.wrap ((K : Int) - n) = K - n := IntWalk.i64_in _ (by omega)
          have g4 : (K : Int) - n < a := by omega
          have H := Lib.hid h
          have HKK := Lib.hid hKK
          have E0 := Lib.hid e0
          have Hbad := Lib.hid hbad
          clear h hKK e0 hbad
          go_enter Tryz.func26, Tryz.ntmps26
          go_wp2_with fail
          refine (hsh).mono ?_
          rintro e w1 ⟨rfl, hk1⟩
          go_wp2_with fail
          go_ret2
          exact ⟨hk1, .inl ⟨by decide, rfl⟩⟩
end
end Go.Proofs.YtnddaildicmneaaGreat
/-
  copy into a row of zero bytes.
-/
namespace Go.Proofs.YtnddaildicmneaaGreat
open Go.Proofs Go.RowKit Go.Sort Go.Maps

theorem recB_bv (l : List UInt8) : recB.cells l = l.map bv := by
  unfold RecT.cells recB
  induction l with
  | nil => rfl
  | cons x l ih => simp [ih]
theorem padL_eq (L : List UInt8) (z : Nat) : padL L z = L.take z ++ (zerosB z).drop (L.take z).length := by
  unfold padL zerosB
  rw [List.drop_replicate, List.length_take]
  congr 2
  omega
section
variable {ops : Array Oper} {rest : List Oper} {o : Oper} {a : Act} {Q : Exit → Act → World → Prop}
theorem wpList_copyP (w0 w : World) (hgd : o.guard = none) (d s : Operand) (ho : o.op = .call { callee := .builtin .copy, args := #[d, s], argTypes := #[33, 33] }) (q z : Nat) (hq : w0.heap.size ≤ q) (hz : 0 < z)
    (A : Option Addr) (n c : Nat) (g : Option Nat) (L : List UInt8) (hd : a.eval d = .slice (some ⟨q, 0, none⟩) z z) (hs : a.eval s = .slice A n c) (hrow : recB.Row w (.slice (some ⟨q, 0, none⟩) z z) (zerosB z)) (hr : recB.Rd w (.slice A n c) g L) (hk : Keeps nowhere w0 w)
    (h : ∀ w', recB.Row w' (.slice (some ⟨q, 0, none⟩) z z) (padL L z) → Keeps nowhere w0 w' → wpList Tryz.prog ops Q rest (a.put o.dst (goInt (L.take z).length)) w') : wpList Tryz.prog ops Q (o :: rest) a w := by
  obtain ⟨A', c', hv, h1, h2, hu, h3, h4⟩ := hr
  injection hv with hA hn hc
  subst hA hn hc
  have hzl : (zerosB z).length = z := by simp [zerosB]
  rcases hrow.blk with ⟨hv, -⟩ | ⟨q', cap', rst, hv, hb, e1, e2, e3⟩
  · cases hv
  injection hv with f1 f2 f3
  injection f1 with f1
  injection f1 with f1
  subst f1 f3
  rw [hzl] at e1
  have hr0 : rst = [] := by
    refine List.eq_nil_of_length_eq_zero ?_
    have : recB.n = 1 := rfl
    rw [this] at e1
    omega
  subst hr0
  rw [List.append_nil] at hb
  obtain ⟨cs, hcs⟩ : ∃ cs, cs = recB.cells (L.take z) := ⟨_, rfl⟩
  have hcl : cs.length = (L.take z).length := by rw [hcs, recB.cells_len]; exact Nat.mul_one _
  have hsz : (Tryz.prog.info? 5).map (·.size) = some 1 := by kernel_rfl
  have hpb : _root_.Go.RowKit.Below q w w := Below.refl _ _
  rw [← hcl] at h
  refine wpList_copy_splice hgd d s 33 33 ho 5 Tryz.underlying33 hsz (some ⟨q, 0, none⟩) A z z L.length c hd hs q 0 (recB.cells (zerosB z)) 5 hb cs (by rw [hcl, List.length_take]; exact Nat.min_comm _ _) (fun hp => ?_) (by rw [hcl, recB.cells_len, hzl, List.length_take]; show 0 + _ ≤ z * 1; omega) (by rw [hcs]; exact recB.cells_one _) q w hpb (Nat.le_refl _) (fun w' hg hb' => ?_)
  · refine ⟨rfl, ?_⟩
    rw [hcl, List.length_take] at hp
    obtain ⟨b, off, rfl, -, hc⟩ := h3 (by omega)
    refine ⟨_, rfl, fun j v hj => ?_⟩
    rw [hcs, recB_bv, List.getElem?_map] at hj
    cases hx : (L.take z)[j]? with
    | none => rw [hx] at hj; cases hj
    | some x =>
      rw [hx] at hj
      have hj := Option.some.inj hj
      rw [List.getElem?_take] at hx
      split at hx
      · have := hc j x hx 0 (by decide)
        rw [Nat.add_zero, show j * recB.n = j from Nat.mul_one j] at this
        rw [Addr.add_lit, this, ← hj]; rfl
      · cases hx
  · have hg' : w'.heap[q]? = some (.cells (splice (recB.cells (zerosB z)) 0 cs).toArray 5 (0, 0)) := hg
    have hsp : splice (recB.cells (zerosB z)) 0 cs = recB.cells (padL L z) := by
      rw [padL_eq]
      unfold splice
      rw [recB.cells_app, List.take_zero, List.nil_append, Nat.zero_add, hcl, hcs, recB_bv (zerosB z), recB_bv ((zerosB z).drop _), List.map_drop]
    rw [hsp] at hg'
    refine h w' ?_ ?_
    · have := RecT.Row.of_blk (R := recB) (l := padL L z) (b := q) (cap := z) (rest := []) (w := w') (by rw [List.append_nil]; exact hg') (by rw [padL_len]; simp) e3
      rwa [padL_len] at this
    · have hk2 : Keeps (fun k => q ≤ k) w w' := ⟨hb'.os, hb'.tape, hb'.output, hb'.size, fun b _ hs => hb'.block b (by omega)⟩
      exact hk.trans hk2 (fun k hk e => by omega)
end
end Go.Proofs.YtnddaildicmneaaGreat
