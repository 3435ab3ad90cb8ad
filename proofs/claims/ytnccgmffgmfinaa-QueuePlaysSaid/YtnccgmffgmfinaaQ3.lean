/-
  sched: ready, Ready.
-/
import Derived.Test.YtnccgmffgmfinaaQ2
namespace Go.Proofs.Ytnccgmffgmfinaa
open Go.RowKit Go.Shelf

theorem JRd.take {w : World} {A : Option Addr} {n cap : Nat} {g : Option Nat} {l : List J} (h : JRd w (.slice A n cap) g l) (k : Nat) (hk : k ≤ l.length) : JRd w (.slice A k cap) g (l.take k) := by
  obtain ⟨A', cap', hv, h1, h2, hu, h3, h4⟩ := h
  injection hv with ha hn hc
  subst ha hc
  have hl : (l.take k).length = k := by simp; omega
  refine ⟨A, cap, by rw [hl], by omega, h2, hu, fun hp => ?_, h4⟩
  obtain ⟨b, off, hA, hg, hc⟩ := h3 (by omega)
  refine ⟨b, off, hA, hg, fun i t hi => hc i t ?_⟩
  rw [List.getElem?_take] at hi
  split at hi
  · exact hi
  · cases hi
theorem JRd.len {w : World} {A : Option Addr} {n cap : Nat} {g : Option Nat} {l : List J} (h : JRd w (.slice A n cap) g l) : n = l.length := by
  obtain ⟨A', cap', hv, _⟩ := h
  injection hv

/-- may a job be next? -/
def before (t : J) (x : J) : Bool := decide (x.c = t.c) && !x.s
def rdy (l : List J) (i : Nat) : Bool := match l[i]? with | some t => t.s || !(l.take i).any (before t) | none => false
theorem rdy_at {l : List J} {i : Nat} {t : J} (h : l[i]? = some t) : rdy l i = (t.s || !(l.take i).any (before t)) := by unfold rdy; rw [h]

theorem ready1_any (t : J) (q : Nat) (w : World) (hq : w.cell? ⟨q, 0, none⟩ = some (.int .i64 t.c)) (hql : q < w.heap.size) :
    PredK 65 #[.pointer (some ⟨q, 0, none⟩)] (before t) w := fun W j hk => by
  have hk1 := (Keeps.refl nowhere W).alloc (.cells #[.int .i64 j.c, .int .u16 j.t, .int .u16 j.o, .bool j.s] 45)
  have ca := (hk1.cell (p := ⟨q, 0, none⟩) (Nat.lt_of_lt_of_le hql hk.size) (fun h => h)).trans ((hk.cell (p := ⟨q, 0, none⟩) hql (fun h => h)).trans hq)
  obtain ⟨jc, jt, jo, js⟩ := j
  obtain ⟨c, tt, to, ts⟩ := t
  show Calls Try.prog _ #[.agg #[.int .i64 jc, .int .u16 jt, .int .u16 jo, .bool js], .pointer (some ⟨q, 0, none⟩)] W _
  simp only at ca hk1
  have Hk1 := Lib.hid hk1
  have Hk := Lib.hid hk
  clear hk1 hk
  by_cases hc : jc = c
  · have hR : before ⟨c, tt, to, ts⟩ ⟨jc, jt, jo, js⟩ = !js := by unfold before; simp [hc]
    have hce : (jc == c) = true := by simpa using hc
    have HR := Lib.hid hR
    have Hc := Lib.hid hc
    clear hR hc
    go_enter Try.func65, Try.ntmps65
    go_wp2_with fail
    go_ret
    exact ⟨by rw [HR.out]; rfl, Hk1.out⟩
  · have hR : before ⟨c, tt, to, ts⟩ ⟨jc, jt, jo, js⟩ = false := by unfold before; simp [hc]
    have hce : (jc == c) = false := by simpa using hc
    have HR := Lib.hid hR
    have Hc := Lib.hid hc
    clear hR hc
    go_enter Try.func65, Try.ntmps65
    go_wp2_with fail
    go_ret
    exact ⟨by rw [HR.out]; rfl, Hk1.out⟩

set_option maxHeartbeats 1000000 in
theorem qready_any (w : World) (p : Nat) (g : Option Nat) (l : List J) (i : Nat) (h : QAt w p g l) (hl : l.length ≤ 512) (hi : i < l.length) :
    Calls Try.prog 49 #[qp p, .int .i64 i] w (RetBool (rdy l i) w) := by
  obtain ⟨t, ht⟩ : ∃ t, l[i]? = some t := ⟨_, List.getElem?_eq_getElem hi⟩
  have hR := rdy_at ht
  obtain ⟨v, h1, h2, hgv⟩ := h
  have hrd := h2.rd
  obtain ⟨A, cap, hv, h3, h4, hu, h5, -⟩ := hrd
  have hrd := h2.rd
  rw [hv] at hrd hu
  obtain ⟨b, off, rfl, hgb, hc⟩ := h5 (by omega)
  obtain ⟨d0, d1, d2, d3⟩ := hc i t ht
  have hk := (Keeps.refl nowhere w).alloc (.cells #[.int .i64 t.c, .int .u16 t.t, .int .u16 t.o, .bool t.s] 45)
  have hb2 := h1.alloc (.cells #[.int .i64 t.c, .int .u16 t.t, .int .u16 t.o, .bool t.s] 45)
  have hrt := (hrd.keep hk (fun _ _ h => h)).take i (by omega)
  have hP := ready1_any t w.heap.size (w.alloc (.cells #[.int .i64 t.c, .int .u16 t.t, .int .u16 t.o, .bool t.s] 45)) (by simp) (by simp)
  have eg : ∀ args w, (callFunc 65 args).run Try.prog w = .ok (.enter 65 args) w := enters_of Try.func65 (by kernel_rfl) rfl
  have hC := jcontains_any _ _ _ eg _ _ _ _ hrt (by simp; omega) hP
  have c0 := h1.cell 0
  have c1 := hb2.cell 0
  simp at c0 c1
  rw [hv] at c0 c1
  have hi0 : (0 : Int) ≤ (i : Int) := by omega
  have hiI : (i : Int) < l.length := by omega
  have hic : (i : Int) ≤ cap := by omega
  have hcn : (i : Int).toNat = i := by omega
  unfold qp
  generalize (l.take i).any (before t) = an at *
  obtain ⟨L, hL⟩ : ∃ L, L = l.length := ⟨_, rfl⟩
  rw [← hL] at hiI h3 c0 c1 hl
  clear h1 h2 hrd hc hb2 hrt hP eg
  have HC := Lib.hid hC
  have Hk := Lib.hid hk
  have HR := Lib.hid hR
  have Ht := Lib.hid ht
  have HL := Lib.hid hL
  have Hv := Lib.hid hv
  have Hgv := Lib.hid hgv
  have Hgb := Lib.hid hgb
  have Hi := Lib.hid hi
  clear hC hk hR ht hL hv hgv hgb hi
  cases hs : t.s with
  | true =>
    rw [hs] at d3
    have hR' := HR.out
    rw [hs, Bool.true_or] at hR'
    have HR' := Lib.hid hR'
    clear hR'
    go_enter Try.func49, Try.ntmps49
    go_wp2_with fail
    go_ret
    exact ⟨by rw [HR'.out]; rfl, by rw [← hs]; exact Hk.out⟩
  | false =>
    rw [hs] at d3 c1
    have hR' := HR.out
    have hC' := HC.out
    have hk' := Hk.out
    rw [hs] at hC' hk'
    rw [hs, Bool.false_or] at hR'
    have HR' := Lib.hid hR'
    have HC' := Lib.hid hC'
    have Hk' := Lib.hid hk'
    clear hR' hC' hk'
    go_enter Try.func49, Try.ntmps49
    go_wp2_with fail
    refine HC'.out.mono ?_
    rintro e w1 ⟨rfl, hk1⟩
    have hk2 := Hk'.out.more hk1
    clear hk1
    have Hk2 := Lib.hid hk2
    clear hk2
    go_wp2_with fail
    go_ret
    exact ⟨by rw [HR'.out]; rfl, Hk2.out⟩

def readyTo (l : List J) (k : Nat) : List J := (List.range k).filterMap fun i => if rdy l i then l[i]? else none
def readyL (l : List J) : List J := readyTo l l.length
theorem readyTo_succ (l : List J) (k : Nat) : readyTo l (k + 1) = readyTo l k ++ (if rdy l k then l[k]? else none).toList := by
  unfold readyTo
  rw [List.range_succ, List.filterMap_append]
  congr 1
theorem readyTo_len (l : List J) : ∀ k, (readyTo l k).length ≤ k
  | 0 => by simp [readyTo]
  | k + 1 => by
    have := readyTo_len l k
    rw [readyTo_succ, List.length_append]
    have : ((if rdy l k = true then l[k]? else none).toList).length ≤ 1 := by split <;> (try cases l[k]?) <;> simp
    omega

theorem jclip_any (v : Value) (g : Option Nat) (l : List J) (w : World) (hr : JRd w v g l) (hl : l.length ≤ 1000000) :
    Calls Try.prog 50 #[v] w fun e w' => (∃ v', e = .returned v' ∧ JRd w v' g l) ∧ w = w' := by
  obtain ⟨A, cap, rfl, h1, h2, hu, h3, h4⟩ := hr
  obtain ⟨L, hL⟩ : ∃ L, L = l.length := ⟨_, rfl⟩
  rw [← hL] at h1 hl ⊢
  have H3 := Lib.hid h3
  have Hu := Lib.hid hu
  have H4 := Lib.hid h4
  have HL := Lib.hid hL
  clear h3 hu h4 hL
  go_enter Try.func50, Try.ntmps50
  go_wp2_with fail
  go_ret
  refine ⟨⟨_, rfl, A, L, by rw [← HL.out]; rfl, by rw [← HL.out]; exact Nat.le_refl _, by unfold maxLen; omega, Hu.out, H3.out, fun h => ?_⟩, rfl⟩
  have := H4.out h
  omega

/-- the jobs that may be next, in a slice of the call's own -/
def RetJobs (l : List J) (w : World) : Ending → World → Prop := fun e w' => ∃ v g, e = .returned v ∧ JRd w' v g l ∧ Above w.heap.size g ∧ Keeps nowhere w w'

set_option maxRecDepth 8000 in
set_option maxHeartbeats 2000000 in
theorem qReady_any (w : World) (p : Nat) (g : Option Nat) (l : List J) (h : QAt w p g l) (hl : l.length ≤ 512) :
    Calls Try.prog 29 #[qp p] w (RetJobs (readyL l) w) := by
  have hQ := h
  obtain ⟨v, h1, h2, hgv⟩ := h
  obtain ⟨A, cap, hv, h3, h4, hu, h5, -⟩ := h2.rd
  have c0 := h1.cell 0
  simp at c0
  rw [hv] at c0
  unfold qp
  obtain ⟨L, hL⟩ : ∃ L, L = l.length := ⟨_, rfl⟩
  rw [← hL] at c0 hl h3
  clear h1 h2
  have HQ := Lib.hid hQ
  have H5 := Lib.hid h5
  have HL := Lib.hid hL
  have Hv := Lib.hid hv
  have Hgv := Lib.hid hgv
  have Hu := Lib.hid hu
  clear hQ h5 hL hv hgv hu
  go_enter Try.func29, Try.ntmps29
  go_wp2_with fail
  go_loopw [3, 11] (fun ov iv wr => ∃ i : Nat, iv = .int .i64 i ∧ i ≤ L ∧ JRow wr ov (readyTo l i) ∧ Above w.heap.size ov.ownBlock ∧ Keeps nowhere w wr) (fun _ iv _ => L - (intOf iv).toNat)
  case atStart => exact ⟨0, rfl, Nat.zero_le _, JRow.nil _, Above.none _, Keeps.refl _ _⟩
  case round =>
    obtain ⟨i, rfl, hi, hrow, hab, hk⟩ := hrel
    obtain ⟨Ao, co, rfl, -⟩ := hrow.rd
    by_cases hlt : i < L
    · have hltI : (i : Int) < L := by omega
      have hi0 : (0 : Int) ≤ (i : Int) := by omega
      have hi1 : IntKind.i64.wrap ((i : Int) + 1) = i + 1 := IntWalk.i64_in _ (by omega)
      have hil : i < l.length := by rw [← HL.out]; exact hlt
      obtain ⟨t, ht⟩ : ∃ t, l[i]? = some t := ⟨_, List.getElem?_eq_getElem hil⟩
      obtain ⟨b, off, rfl, hgb, hc⟩ := H5.out (by omega)
      obtain ⟨d0, d1, d2, d3⟩ := (hc i t ht).keep hk (Hu.out b hgb) (fun h => h)
      have hk1 := hk.alloc (.cells #[.int .i64 t.c, .int .u16 t.t, .int .u16 t.o, .bool t.s] 45)
      have hbx := Blk.new wr 45 #[.int .i64 t.c, .int .u16 t.t, .int .u16 t.o, .bool t.s]
      have hrow1 := hrow.keep ((Keeps.refl nowhere wr).alloc (.cells #[.int .i64 t.c, .int .u16 t.t, .int .u16 t.o, .bool t.s] 45)) (fun _ _ h => h)
      have hq1 := HQ.out.same hk1
      have hC := qready_any _ p g l i hq1 (by rw [← HL.out]; exact hl) hil
      unfold qp at hC
      have hsucc := readyTo_succ l i
      have hrl := readyTo_len l i
      have hwr := hk.size
      clear hc hrow
      have Hk := Lib.hid hk
      have Hk1 := Lib.hid hk1
      have Hbx := Lib.hid hbx
      have Hrow1 := Lib.hid hrow1
      have Hq1 := Lib.hid hq1
      have HC := Lib.hid hC
      have Hsucc := Lib.hid hsucc
      have Hab := Lib.hid hab
      have Hrl := Lib.hid hrl
      have Ht := Lib.hid ht
      have Hgb := Lib.hid hgb
      have Hwr := Lib.hid hwr
      clear hk hk1 hbx hrow1 hq1 hC hsucc hab hrl ht hgb hwr
      cases hrdy : rdy l i with
      | false =>
        have hC' := HC.out
        have hsucc' := Hsucc.out
        rw [hrdy] at hC' hsucc'
        simp only [Bool.false_eq_true, if_false, Option.toList, List.append_nil] at hsucc'
        have HC' := Lib.hid hC'
        have Hsucc' := Lib.hid hsucc'
        clear hC' hsucc'
        go_wp2_with fail
        refine HC'.out.mono ?_
        rintro e w1 ⟨rfl, hk2⟩
        have hk3 := Hk1.out.more hk2
        have hrow2 := Hrow1.out.keep hk2 (fun _ _ h => h)
        clear hk2
        have Hk3 := Lib.hid hk3
        have Hrow2 := Lib.hid hrow2
        clear hk3 hrow2
        go_wp2_with fail
        go_roundw
        case rel => exact ⟨i + 1, by simp, by omega, by rw [Hsucc'.out]; exact Hrow2.out, Hab.out, Hk3.out⟩
        case measure => simp [intOf]; omega
      | true =>
        have hC' := HC.out
        have hsucc' := Hsucc.out
        rw [hrdy] at hC' hsucc'
        rw [if_pos rfl, Ht.out] at hsucc'
        simp only [Option.toList] at hsucc'
        have HC' := Lib.hid hC'
        have Hsucc' := Lib.hid hsucc'
        clear hC' hsucc'
        go_wp2_with fail
        refine HC'.out.mono ?_
        rintro e w1 ⟨rfl, hk2⟩
        have hk3 := Hk1.out.more hk2
        have hrow2 := (Hrow1.out.keep hk2 (fun _ _ h => h)).keep ((Keeps.refl nowhere w1).alloc (.cells #[.int .i64 t.c, .int .u16 t.t, .int .u16 t.o, .bool t.s] 45)) (fun _ _ h => h)
        have hbx2 := Hbx.out.keep hk2 (fun h => h)
        have e0 : w1.cell? ⟨wr.heap.size, 0, none⟩ = some (.int .i64 t.c) := by simpa using hbx2.cell 0
        have e1 : w1.cell? ⟨wr.heap.size, 1, none⟩ = some (.int .u16 t.t) := by simpa using hbx2.cell 1
        have e2 : w1.cell? ⟨wr.heap.size, 2, none⟩ = some (.int .u16 t.o) := by simpa using hbx2.cell 2
        have e3 : w1.cell? ⟨wr.heap.size, 3, none⟩ = some (.bool t.s) := by simpa using hbx2.cell 3
        have hj1 := jrd_one w1 t
        clear hk2 hbx2
        have Hk3 := Lib.hid hk3
        have Hrow2 := Lib.hid hrow2
        have Hj1 := Lib.hid hj1
        clear hk3 hrow2 hj1
        go_wp2_with (at_builtin; go_must (refine wpList_append_jobs rfl (.tmp 19) (.tmp 21) rfl (.slice Ao _ co) (readyTo l i) rfl Hrow2.out _ _ [t] rfl Hj1.out (by have := Hrl.out; simp; omega) ?_))
        intro v1 w2 hrow3 hk4 hfrom
        obtain ⟨A1, c1, rfl, -⟩ := hrow3.rd
        have hk5 : Keeps nowhere w w2 := (Hk3.out.alloc _).trans hk4 (fun b hb hbo => absurd (Hab.out b hbo) (by omega))
        have hab2 : Above w.heap.size (Value.slice A1 (readyTo l i ++ [t]).length c1).ownBlock := fun b hb => by
          rcases hfrom b hb with h | h
          · exact Hab.out b h
          · have := (Hk3.out.alloc (.cells #[.int .i64 t.c, .int .u16 t.t, .int .u16 t.o, .bool t.s] 45)).size
            simp at this h
            omega
        clear hk4 hfrom
        have Hrow3 := Lib.hid hrow3
        have Hk5 := Lib.hid hk5
        have Hab2 := Lib.hid hab2
        clear hrow3 hk5 hab2
        go_wp2_with fail
        go_roundw
        case rel => exact ⟨i + 1, by simp, by omega, by rw [Hsucc'.out]; exact Hrow3.out, Hab2.out, Hk5.out⟩
        case measure => simp [intOf]; omega
    · obtain rfl : i = L := by omega
      have hrl := readyTo_len l i
      have hC := jclip_any _ _ _ wr hrow.rd (by omega)
      have hRe : readyTo l i = readyL l := by unfold readyL; rw [HL.out]
      have Hk := Lib.hid hk
      have Hrow := Lib.hid hrow
      have Hab := Lib.hid hab
      have HC := Lib.hid hC
      have Hrl := Lib.hid hrl
      have HRe := Lib.hid hRe
      clear hk hrow hab hC hrl hRe
      go_wp2_with fail
      refine HC.out.mono ?_
      rintro e w1 ⟨⟨v1, rfl, hr1⟩, rfl⟩
      have Hr1 := Lib.hid hr1
      clear hr1
      go_wp2_with fail
      go_ret
      exact ⟨_, _, rfl, by rw [← HRe.out]; exact Hr1.out, Hab.out, Hk.out⟩
end Go.Proofs.Ytnccgmffgmfinaa
