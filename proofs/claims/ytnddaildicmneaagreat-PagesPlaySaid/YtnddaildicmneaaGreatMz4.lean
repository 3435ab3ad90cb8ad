/-
  Parts of the proof, joined in build order: RegionK, NumOut, NumRaw, NumIn, NumCut, NumTake, OpenS, OpenBy, OpenBo, Pg5, Pg6.
-/
import Derived.Test.YtnddaildicmneaaGreatMz3
import Derived.Deep.RegionHeld3
import Derived.Deep.DrawnRows
import Derived.Outline
import Derived.IntWalk
import Derived.Laws.AppendOwnNone
import Derived.Defers
import Derived.Recover
import Derived.Deep.Slices
import Derived.Deep.Fields
import Derived.ChangeSame
import Derived.ProofKit
import Derived.OpenShut
import Derived.Test.YtnddaildicmneaaGreatRows
import Derived.Lib.SmallJoins
import Derived.Deep.Grids
set_option linter.unusedVariables false
set_option linter.unusedSimpArgs false
/-
  A region that draws its order, of which a call may panic: what the panic leaves may depend on two slots and the deferred calls. No program in sight.
-/
namespace Go.Proofs.YtnddaildicmneaaGreat
open Go.RowKit

def PanicQ (Q : Exit → Act → World → Prop) (PP : List PanicEntry → Act → World → Prop) : Exit → Act → World → Prop
  | .panic c, a, w => PP c a w
  | e, a, w => Q e a w
theorem PanicQ.imp {Q : Exit → Act → World → Prop} {PP : List PanicEntry → Act → World → Prop} (h : ∀ c a w, PP c a w → Q (.panic c) a w) : ∀ e a w, PanicQ Q PP e a w → Q e a w := fun e a w hq => by
  cases e <;> first | exact hq | exact h _ _ _ hq
theorem put_getD (a : Act) (d : Option Nat) (v : Value) (i : Nat) (h : (d != some i) = true) : (a.put d v).tmps.getD i undef = a.tmps.getD i undef := by
  cases d with
  | none => rfl
  | some k =>
    have hk : k ≠ i := fun e => by subst e; simp at h
    simp [Act.put, Array.getD_eq_getD_getElem?, Array.getElem?_setIfInBounds, hk]
theorem put_defers (a : Act) (d : Option Nat) (v : Value) : (a.put d v).defers = a.defers := by
  cases d <;> rfl

section
variable {P : Program} {ops : Array Oper} {Q : Exit → Act → World → Prop}
theorem wp_region_script_k {id : Nat} {a : Act} {w : World} (F W : List Nat) (s : List Mv) (S : World → Prop) (hm : P.follows .mixedOrders = true) (i j : Nat) (PP : List PanicEntry → Value → Value → List Deferred → World → Prop)
    (hc : (Region.noSelect ops && chk ops F W s (Array.replicate ops.size false) && s.all Mv.full && (s.map Mv.len).sum == ops.size) = true)
    (hd : ops.all (fun o => o.dst != some i && o.dst != some j) = true)
    (h1 : ∀ c a w, PP c (a.tmps.getD i undef) (a.tmps.getD j undef) a.defers w → Q (.panic c) a w)
    (h : wpS P ops (Q .normal) (PanicQ Q fun c a w => PP c (a.tmps.getD i undef) (a.tmps.getD j undef) a.defers w) s S a w.drew) : (Code.region id ops true).wp P Q a w := by
  refine Code.wp_mono (PanicQ.imp h1) (wp_region_script_p F W s S hm ?_ hc h)
  intro n o ho c a v w hp
  rw [Array.all_eq_true] at hd
  obtain ⟨hn, rfl⟩ := Array.getElem?_eq_some_iff.1 ho
  have := hd n hn
  simp only [Bool.and_eq_true] at this
  have hp' : PP c ((a.put ops[n].dst v).tmps.getD i undef) ((a.put ops[n].dst v).tmps.getD j undef) (a.put ops[n].dst v).defers w := hp
  rw [put_getD _ _ _ _ this.1, put_getD _ _ _ _ this.2, put_defers] at hp'
  exact hp'
end

end Go.Proofs.YtnddaildicmneaaGreat
/-
  num.Out: what is written. Put appends a number's lowest bytes, Raw appends bytes, Bytes tells them all.
-/
namespace Go.Proofs.YtnddaildicmneaaGreat
open Go.RowKit

/-- At block `p` an Out lies that has written `L`; its row lies in block `g`. -/
def OutAt (w : World) (p : Nat) (g : Option Nat) (L : List UInt8) : Prop :=
  ∃ v, Blk w p 87 #[v] ∧ w.ownsRow 0 5 1 v L.length (L.map bv) ∧ v.ownBlock = g

theorem OutAt.new (w : World) : OutAt (w.alloc (.cells #[.slice none 0 0] 87)) w.heap.size none [] :=
  ⟨_, Blk.new _ _ _, World.ownsRow_nil _ _ _ _, rfl⟩
theorem OutAt.keep {w w' : World} {p : Nat} {g : Option Nat} {L : List UInt8} {S : Nat → Prop} (h : OutAt w p g L) (hk : Keeps S w w') (hp : ¬ S p) (hg : ∀ b, g = some b → ¬ S b) : OutAt w' p g L := by
  obtain ⟨v, hb, ho, rfl⟩ := h
  exact ⟨v, hb.keep hk hp, own_keep ho hk hg, rfl⟩
theorem OutAt.lt {w : World} {p : Nat} {g : Option Nat} {L : List UInt8} (h : OutAt w p g L) : p < w.heap.size ∧ ∀ b, g = some b → b < w.heap.size := by
  obtain ⟨v, hb, ho, rfl⟩ := h
  exact ⟨hb.lt, fun b hb' => (ho.lt b hb').2⟩

def RetOut (p : Nat) (g : Option Nat) (w : World) (L : List UInt8) : Ending → World → Prop := fun e w' =>
  e = .returned (.tuple #[]) ∧ ∃ g', OutAt w' p g' L ∧ From g w.heap.size g' ∧ Keeps (only2 p g) w w'

set_option maxHeartbeats 400000 in
theorem out_bytes (p : Nat) (g : Option Nat) (L : List UInt8) (w : World) (ho : OutAt w p g L) (hb : L.length ≤ 1099511627776) :
    Calls Tryz.prog 51 #[.pointer (some ⟨p, 0, none⟩)] w (RetBytes w L) := by
  obtain ⟨v, hp, hown, _⟩ := ho
  have hc := hp.cell 0
  simp at hc
  have hr := Rd.of_own hown
  have Hr := Lib.hid hr
  have Hp := Lib.hid hp
  have Ho := Lib.hid hown
  clear hr hp hown
  go_enter Tryz.func51, Tryz.ntmps51
  go_wp2_with fail
  refine (clone_any _ _ L _ Hr.out (by omega)).mono ?_
  rintro e w1 ⟨v1, g1, rfl, hr1, hf1, hk1⟩
  have Hr1 := Lib.hid hr1
  have Hf := Lib.hid hf1
  have Hk := Lib.hid hk1
  clear hr1 hf1 hk1
  go_wp2_with fail
  refine (clip_any _ _ _ _ Hr1.out).mono ?_
  rintro e w2 ⟨⟨v2, rfl, hr2⟩, rfl⟩
  have Hr2 := Lib.hid hr2
  clear hr2
  go_wp2_with fail
  go_ret
  exact ⟨v2, g1, rfl, Hr2.out, Hf.out, Hk.out⟩

theorem out_step {wr w1 : World} {o : Obj} {p g1 cap : Nat} {v0 : Value} {M : List UInt8} {b : UInt8} {x : Value} (hp : Blk wr p 87 #[v0]) (hv : some p ≠ v0.ownBlock)
    (hg : (wr.alloc o).drew.grownBy w1 v0.ownBlock) (hx : x = bv b)
    (hown : w1.ownsRow 0 5 1 (.slice (some ⟨g1, 0, none⟩) (M.length + 1) cap) (M.length + 1) (M.map bv ++ [x])) :
    OutAt (w1.setCell ⟨p, 0, none⟩ (.slice (some ⟨g1, 0, none⟩) (M.length + 1) cap)) p (some g1) (M ++ [b]) := by
  subst hx
  have h1 : Blk w1 p 87 #[v0] := ((hp.alloc o).drew).grown hg hv
  have h2 := h1.set_ 0 (.slice (some ⟨g1, 0, none⟩) (M.length + 1) cap)
  have hne : Value.ownBlock (.slice (some ⟨g1, 0, none⟩) (M.length + 1) cap) ≠ some p := own_blk_ne hown h1 (by decide)
  refine ⟨_, by simpa using h2, ?_, rfl⟩
  have h3 := own_keep (S := only p) hown ((Keeps.refl (only p) w1).setCell (p := ⟨p, 0, none⟩) (fun _ => rfl) (.slice (some ⟨g1, 0, none⟩) (M.length + 1) cap)) (fun b hb e => hne (by rw [hb]; exact congrArg some e))
  simpa using h3

set_option maxHeartbeats 400000 in
theorem out_put_no (p : Nat) (n v : Int) (w : World) (hn : n < 1 ∨ 8 < n) :
    Calls Tryz.prog 50 #[.pointer (some ⟨p, 0, none⟩), .int .i64 n, .int .u64 v] w fun e w' => e = .returned (.tuple #[]) ∧ w = w' := by
  rcases hn with h | h
  · go_enter Tryz.func50, Tryz.ntmps50
    go_wp2
    refine bodyPost_ret (results_none rfl _ _ _) rfl ?_
    exact ⟨rfl, rfl⟩
  · have h' : ¬ n < 1 := by omega
    go_enter Tryz.func50, Tryz.ntmps50
    go_wp2
    refine bodyPost_ret (results_none rfl _ _ _) rfl ?_
    exact ⟨rfl, rfl⟩

set_option maxHeartbeats 800000 in
theorem out_put (p : Nat) (g : Option Nat) (L : List UInt8) (n : Nat) (v : Nat) (w : World) (ho : OutAt w p g L) (h1 : 1 ≤ n) (h8 : n ≤ 8) (hv : v < 18446744073709551616) (hb : L.length ≤ 1099511627776) :
    Calls Tryz.prog 50 #[.pointer (some ⟨p, 0, none⟩), .int .i64 n, .int .u64 v] w (RetOut p g w (L ++ nb n v)) := by
  have h1' : ¬ (n : Int) < 1 := by omega
  have h8' : ¬ (8 : Int) < n := by omega
  have Ho := Lib.hid ho
  clear ho
  have Hv := Lib.hid hv
  clear hv
  obtain ⟨i0, hi, hz0, hz1, hz2⟩ := info_parts infoU8
  go_enter Tryz.func50, Tryz.ntmps50
  go_wp2
  go_loopw [14] (fun i wr => ∃ (k : Nat) (gk : Option Nat), k ≤ n ∧ i = .int .i64 k ∧ OutAt wr p gk (L ++ nb k v) ∧ Keeps (only2 p g) w wr ∧ (∀ b, gk = some b → g = some b ∨ w.heap.size ≤ b)) (fun i _ => n - (intOf i).toNat)
  case atStart => exact ⟨0, g, Nat.zero_le _, rfl, by simpa [nb] using Ho.out, Keeps.refl _ _, fun b h => .inl h⟩
  case round =>
    obtain ⟨k, gk, hk, rfl, hok, hkeep, hgk⟩ := hrel
    have Hgk := Lib.hid hgk
    have Hkeep := Lib.hid hkeep
    clear hgk hkeep
    obtain ⟨v0, hp, hown, hv0⟩ := hok
    by_cases hlt : k < n
    · have hc0 := hp.cell 0
      have hlen : (L ++ nb k v).length ≤ 1099511627776 + 8 := by simp [nb_len]; omega
      have hf0 := hp.frozen 0
      simp at hc0
      have Hown := Lib.hid hown
      have Hp := Lib.hid hp
      have Hv0 := Lib.hid hv0
      clear hown hp hv0
      have hw8 : IntKind.i64.wrap (8 * (k : Int)) = 8 * k := IntWalk.i64_in _ (by omega)
      have h80 : (0 : Int) ≤ 8 * k := by omega
      go_wp2
      have hvp : some p ≠ v0.ownBlock := fun e => own_blk_ne Hown.out Hp.out (by decide) e.symm
      have hplt := Hp.out.lt
      go_region_law
        ((refine step_append_lies _ (by rfl) (.tmp 21) (.tmp 27) 33 (by rfl) 0 5 i0 (.int .u8 0) 1 1 Tryz.underlying33 hi hz0 hz1 hz2 rfl (by decide) v0 (L ++ nb k v).length ((L ++ nb k v).map bv) (by rfl) (Hown.out.alloc _) ⟨wr.heap.size, 0, none⟩ 1 1 [.int .u8 (IntKind.u8.wrap ((v : Int) / 2 ^ (8 * (k : Int)).toNat))] (by rfl) rfl (World.news_of_block (heap_alloc_new wr _)) (by simp; rfl) (by omega) (by unfold maxLen; omega) (by omega) (Nat.zero_le _) (wr.heap.size + 1) (by simp) ?_
          intro g1 cap w1 hown1 hgrow hat hlt1
          have hcw : w1.cell? ⟨p, 0, none⟩ = some v0 := (hgrow.cell_far ⟨p, 0, none⟩ (by simp; omega) hvp).trans (by go_simp)
          have hfw : w1.frozen? ⟨p, 0, none⟩ = false := (hgrow.frozen_far ⟨p, 0, none⟩ (by simp; omega) hvp).trans (by go_simp)))
      all_goals
        go_wp2
        go_roundw
        case rel =>
          refine ⟨k + 1, some g1, by omega, by go_num, ?_, ?_, ?_⟩
          · rw [nb_succ, ← List.append_assoc]
            have := out_step Hp.out hvp hgrow (byte_of v k) hown1
            simpa using this
          · refine (((Hkeep.out.alloc _).drew).grown hgrow (fun b hb hlt => ?_)).setCell (fun _ => .inl rfl) _
            rw [Hv0.out] at hb
            rcases Hgk.out b hb with h | h
            · exact .inr h.symm
            · omega
          · intro b hb
            injection hb with hb
            subst hb
            have hs := Hkeep.out.size
            rcases hat with h | h
            · rw [Hv0.out] at h; exact Hgk.out _ h
            · exact .inr (by omega)
        case measure => simp [intOf]; omega
    · go_wp2
      obtain rfl : k = n := by omega
      refine bodyPost_end (results_none rfl _ _ _) rfl ?_
      exact ⟨rfl, gk, ⟨v0, hp, hown, hv0⟩, Hgk.out, Hkeep.out⟩
end Go.Proofs.YtnddaildicmneaaGreat
/-
  num.Out.Raw appends bytes, whatever slice they come in.
-/
namespace Go.Proofs.YtnddaildicmneaaGreat
open Go.RowKit

theorem OutAt.set {w : World} {p N : Nat} {v0 v' : Value} {M : List UInt8} (h1 : Blk w p 87 #[v0]) (hown : w.ownsRow 0 5 1 v' N (M.map bv)) :
    OutAt (w.setCell ⟨p, 0, none⟩ v') p v'.ownBlock M := by
  have hN : N = M.length := by have := hown.1; simp at this; omega
  subst hN
  have hne : v'.ownBlock ≠ some p := own_blk_ne hown h1 (by decide)
  refine ⟨_, by simpa using h1.set_ 0 v', ?_, rfl⟩
  exact own_keep (S := only p) hown ((Keeps.refl (only p) w).setCell (p := ⟨p, 0, none⟩) (fun _ => rfl) v') (fun b hb e => hne (by rw [hb]; exact congrArg some e))

theorem raw_close {w w1 : World} {p N : Nat} {g : Option Nat} {v0 v' : Value} {L M : List UInt8} (hp : Blk w p 87 #[v0]) (hv0 : v0.ownBlock = g) (hvp : some p ≠ v0.ownBlock)
    (hown : w1.ownsRow 0 5 1 v' N (L.map bv ++ M.map bv)) (hg : w.grownBy w1 v0.ownBlock) (hat : v'.ownBlock = v0.ownBlock ∨ v'.ownBlock = some w.heap.size) :
    RetOut p g w (L ++ M) (.returned (.tuple #[])) (w1.setCell ⟨p, 0, none⟩ v') := by
  refine ⟨rfl, v'.ownBlock, OutAt.set (hp.grown hg hvp) (by simpa using hown), fun b hb => ?_, ((Keeps.refl _ w).grown hg (fun k hk _ => .inr (by rw [← hv0, hk]))).setCell (fun _ => .inl rfl) _⟩
  rcases hat with h | h
  · exact .inl (by rw [← hv0, ← h, hb])
  · rw [h] at hb; injection hb with hb; exact .inr (by omega)

end Go.Proofs.YtnddaildicmneaaGreat
/-
  num.In: what is read. Of, cut, the deferred 'caught', Take, Raw, Left, Err.
-/
namespace Go.Proofs.YtnddaildicmneaaGreat
open Go.RowKit

/-- At block `p` an In lies that has still to read `L`; `err` is its error. -/
def InAt (w : World) (p : Nat) (g : Option Nat) (L : List UInt8) (err : Int) : Prop :=
  ∃ v, Blk w p 109 #[v, .int .i64 err] ∧ Rd w v g (L.map bv) ∧ g ≠ some p

theorem InAt.keep {w w' : World} {p : Nat} {g : Option Nat} {L : List UInt8} {err : Int} {S : Nat → Prop} (h : InAt w p g L err) (hk : Keeps S w w') (hp : ¬ S p) (hg : ∀ b, g = some b → ¬ S b) : InAt w' p g L err := by
  obtain ⟨v, hb, hr, hn⟩ := h
  exact ⟨v, hb.keep hk hp, hr.keep hk hg, hn⟩
theorem InAt.lt {w : World} {p : Nat} {g : Option Nat} {L : List UInt8} {err : Int} (h : InAt w p g L err) : p < w.heap.size ∧ ∀ b, g = some b → b < w.heap.size := by
  obtain ⟨v, hb, hr, _⟩ := h
  exact ⟨hb.lt, hr.lt⟩

/-- what Left tells -/
def leftOf (err : Int) (L : List UInt8) : Int := if err = 0 then L.length else 0

set_option maxHeartbeats 400000 in
theorem in_of (v : Value) (g : Option Nat) (L : List UInt8) (w : World) (hr : Rd w v g (L.map bv)) (hb : L.length ≤ 140737488351232) :
    Calls Tryz.prog 60 #[v] w fun e w' => ∃ p g', e = .returned (.pointer (some ⟨p, 0, none⟩)) ∧ InAt w' p g' L 0 ∧ w.heap.size ≤ p ∧ Above w.heap.size g' ∧ Keeps nowhere w w' := by
  have Hr := Lib.hid hr
  clear hr
  go_enter Tryz.func60, Tryz.ntmps60
  go_wp2_with fail
  refine (clone_any _ _ L _ Hr.out hb).mono ?_
  rintro e w1 ⟨v1, g1, rfl, hr1, hf1, hk1⟩
  obtain ⟨A, c, rfl, _⟩ := hr1.form
  have Hr1 := Lib.hid hr1
  have Hf1 := Lib.hid hf1
  have Hk1 := Lib.hid hk1
  clear hr1 hf1 hk1
  go_wp2_with fail
  go_ret
  have hs := Hk1.out.size
  refine ⟨w1.heap.size, g1, rfl, ⟨_, Blk.new _ _ _, ?_, fun e => ?_⟩, hs, Hf1.out, Hk1.out.alloc _⟩
  · simpa using Hr1.out.keep (S := nowhere) ((Keeps.refl _ w1).alloc (.cells #[.slice A L.length c, .int .i64 0] 109)) (fun _ _ h => h)
  · exact absurd (Hr1.out.lt _ e) (Nat.lt_irrefl _)
end Go.Proofs.YtnddaildicmneaaGreat
/-
  num.In's deferred 'caught', and 'cut'.
-/
namespace Go.Proofs.YtnddaildicmneaaGreat
open Go.RowKit

set_option maxHeartbeats 400000 in
theorem caught_idle (p : Nat) (w : World) :
    CallsD Tryz.prog 69 #[.pointer (some ⟨p, 0, none⟩)] .returning w fun e u' w' => e = .returned (.tuple #[]) ∧ u' = .returning ∧ w' = w := by
  refine callsD_of_wpS Tryz.func69 rfl fun c₀ cs hu => ?_
  apply wpS_seq
  apply wpS_region
  simp [wpOpsS, go_sem, recoverD, hu, Tryz.ntmps69, Exit.thenS, Array.replicate_succ]
  refine wpS_of_wp ?_
  go_wp2
  cases c₀
  simp_all [bodyPostS, results, Tryz.results69]

set_option maxHeartbeats 400000 in
theorem caught_panic (p : Nat) (x : Int) (v : Value) (y : Int) (older : List PanicEntry) (w : World) (hb : Blk w p 109 #[v, .int .i64 y]) :
    CallsD Tryz.prog 69 #[.pointer (some ⟨p, 0, none⟩)] (.panicking ({ v := .iface 26 (.int .i64 x), recovered := false } :: older)) w fun e u' w' =>
      e = .returned (.tuple #[]) ∧ u' = .panicking ({ v := .iface 26 (.int .i64 x), recovered := true } :: older) ∧ w' = w.setCell ⟨p, 1, none⟩ (.int .i64 x) := by
  have hc1 := hb.cell 1
  have hf1 := hb.frozen 1
  simp at hc1
  clear hb
  have hta : ∀ w, (Instr.typeAssert (.iface 26 (.int .i64 x)) 20 26 true).run Tryz.prog w = .ok (.tuple #[.int .i64 x, .bool true]) w := fun _ => by kernel_rfl
  refine callsD_of_wpS Tryz.func69 rfl fun c₀ cs hu => ?_
  apply wpS_seq
  apply wpS_region
  simp [wpOpsS, go_sem, recoverD, hu, Tryz.ntmps69, Exit.thenS, Array.replicate_succ]
  refine wpS_of_wp ?_
  go_wp2
  simp [bodyPostS, results, Tryz.results69]

/-- a panic with an error of the program's own -/
def panicErr (x : Int) : Ending := .panicked [{ v := .iface 26 (.int .i64 x), recovered := false }]

def RetCut (w : World) (p : Nat) (g : Option Nat) (L : List UInt8) (n : Nat) (err : Int) : Ending → World → Prop := fun e w' =>
  ∃ v', e = .returned v' ∧ Rd w' v' g ((L.take n).map bv) ∧ InAt w' p g (L.drop n) err ∧ Keeps (only p) w w'

set_option maxHeartbeats 400000 in
theorem cut_short (p : Nat) (g : Option Nat) (L : List UInt8) (err : Int) (n : Int) (w : World) (h : InAt w p g L err) (hn : L.length < n) :
    Calls Tryz.prog 70 #[.pointer (some ⟨p, 0, none⟩), .int .i64 n] w fun e w' => e = panicErr 4 ∧ w = w' := by
  obtain ⟨v, hb, hr, _⟩ := h
  have hc0 := hb.cell 0
  simp at hc0
  obtain ⟨A, c, rfl, _⟩ := hr.form
  rw [List.length_map] at hc0
  have hmi : ∀ w, (Instr.makeInterface 26 (.int .i64 4)).run Tryz.prog w = .ok (.iface 26 (.int .i64 4)) w := fun _ => by kernel_rfl
  clear hr hb
  go_enter Tryz.func70, Tryz.ntmps70
  go_wp2
  exact ⟨rfl, rfl, rfl⟩

set_option maxHeartbeats 400000 in
theorem cut_ok (p : Nat) (g : Option Nat) (L : List UInt8) (err : Int) (n : Nat) (w : World) (h : InAt w p g L err) (hn : n ≤ L.length) :
    Calls Tryz.prog 70 #[.pointer (some ⟨p, 0, none⟩), .int .i64 n] w (RetCut w p g L n err) := by
  obtain ⟨v, hb, hr, hgp⟩ := h
  have hc0 := hb.cell 0
  have hf0 := hb.frozen 0
  simp at hc0
  obtain ⟨A, c, rfl, hlc, hcm⟩ := hr.form
  have hk := (Keeps.refl (only p) w).setCell (p := ⟨p, 0, none⟩) (fun _ => rfl) (.slice (if c = n then A else A.map (·.add (n * 1))) (L.length - n) (c - n))
  have ht := (hr.take n (by simpa using hn) A _ c rfl).keep hk (fun b hb e => hgp (by rw [hb]; exact congrArg some e))
  have hd := (hr.drop n (by simpa using hn) A _ c rfl).keep hk (fun b hb e => hgp (by rw [hb]; exact congrArg some e))
  have hset := hb.set_ 0 (.slice (if c = n then A else A.map (·.add (n * 1))) (L.length - n) (c - n))
  have hfin : RetCut w p g L n err (.returned (.slice A n c)) (w.setCell ⟨p, 0, none⟩ (.slice (if c = n then A else A.map (·.add (n * 1))) (L.length - n) (c - n))) := by
    refine ⟨_, rfl, by rw [List.map_take]; exact ht, ⟨_, by simpa using hset, ?_, hgp⟩, hk⟩
    rw [List.map_drop]
    simpa using hd
  rw [List.length_map] at hc0 hlc
  have Hfin := Lib.hid hfin
  unfold maxLen at hcm
  clear hr hb ht hd hset hk hfin
  have hn1 : ¬ (L.length : Int) < n := by omega
  have hn2 : (n : Int) ≤ L.length := by omega
  have hn3 : (n : Int) ≤ c := by omega
  by_cases hcn : c = n
  · subst hcn
    go_enter Tryz.func70, Tryz.ntmps70
    go_wp2
    go_ret
    have h0 : L.length - c = 0 := by omega
    have hf := Hfin.out
    simp only [if_true, Nat.sub_self, h0] at hf
    exact hf
  · go_enter Tryz.func70, Tryz.ntmps70
    go_wp2
    go_ret
    have hf := Hfin.out
    simp only [if_neg hcn, Nat.mul_one] at hf
    exact hf
end Go.Proofs.YtnddaildicmneaaGreat
/-
  num.In.Take and num.In.Raw: a number, bytes; or an error that stays.
-/
namespace Go.Proofs.YtnddaildicmneaaGreat
open Go.RowKit

/-- what Take does: the value and what is left, the error -/
def takeVal (L : List UInt8) (err n : Int) : Nat := if err = 0 ∧ 1 ≤ n ∧ n ≤ 8 ∧ n ≤ L.length then le (L.take n.toNat) else 0
def takeErr (L : List UInt8) (err n : Int) : Int := if err ≠ 0 then err else if n < 1 ∨ 8 < n then 1 else if L.length < n then 4 else 0
def takeLeft (L : List UInt8) (err n : Int) : List UInt8 := if err = 0 ∧ 1 ≤ n ∧ n ≤ 8 ∧ n ≤ L.length then L.drop n.toNat else L

def RetTake (w : World) (p : Nat) (g : Option Nat) (L : List UInt8) (err n : Int) : Ending → World → Prop := fun e w' =>
  e = .returned (.int .u64 (takeVal L err n)) ∧ InAt w' p g (takeLeft L err n) (takeErr L err n) ∧ Keeps (only p) w w'

set_option maxHeartbeats 400000 in
theorem take_bad (p : Nat) (g : Option Nat) (L : List UInt8) (err n : Int) (w : World) (h : InAt w p g L err) (he : err ≠ 0) :
    Calls Tryz.prog 61 #[.pointer (some ⟨p, 0, none⟩), .int .i64 n] w (RetTake w p g L err n) := by
  have hfin : RetTake w p g L err n (.returned (.int .u64 0)) w := ⟨by simp [takeVal, he], by simpa [takeLeft, takeErr, he] using h, Keeps.refl _ _⟩
  obtain ⟨v, hb, hr, _⟩ := h
  have hc1 := hb.cell 1
  simp at hc1
  have he' : (err != 0) = true := by simpa using he
  have Hfin := Lib.hid hfin
  clear hr hb he hfin
  go_enter Tryz.func61, Tryz.ntmps61
  go_wp2
  go_ret
  exact Hfin.out

set_option maxHeartbeats 400000 in
theorem take_arg (p : Nat) (g : Option Nat) (L : List UInt8) (n : Int) (w : World) (h : InAt w p g L 0) (hn : n < 1 ∨ 8 < n) :
    Calls Tryz.prog 61 #[.pointer (some ⟨p, 0, none⟩), .int .i64 n] w (RetTake w p g L 0 n) := by
  obtain ⟨v, hb, hr, hg⟩ := h
  have hc1 := hb.cell 1
  simp at hc1
  have hk := (Keeps.refl (only p) w).setCell (p := ⟨p, 1, none⟩) (fun _ => rfl) (.int .i64 1)
  have hfin : RetTake w p g L 0 n (.returned (.int .u64 0)) (w.setCell ⟨p, 1, none⟩ (.int .i64 1)) := by
    refine ⟨?_, ?_, hk⟩
    · rw [takeVal, if_neg (by omega)]; rfl
    · rw [takeLeft, if_neg (by omega), takeErr, if_neg (by simp), if_pos hn]
      exact ⟨v, by simpa using hb.set_ 1 (.int .i64 1), hr.keep hk (fun b hb' e => hg (by rw [hb']; exact congrArg some e)), hg⟩
  have Hfin := Lib.hid hfin
  have Hb := Lib.hid hb
  have hmi : ∀ w, (Instr.makeInterface 26 (.int .i64 1)).run Tryz.prog w = .ok (.iface 26 (.int .i64 1)) w := fun _ => by kernel_rfl
  clear hr hb hfin hk
  by_cases h1 : n < 1
  all_goals
    try have h8 : (8 : Int) < n := by omega
    go_enter_defers Tryz.func61, Tryz.ntmps61
    go_wp2
    refine leaves_cons (f := 69) (args := #[.pointer (some ⟨p, 0, none⟩)]) (by simp) (by simp [go_sem]) ?_
    refine (caught_panic p 1 v 0 [] w Hb.out).mono ?_
    rintro e u' w'' ⟨rfl, rfl, rfl⟩
    simp [Leaves, settle, results, Tryz.results61, go_sem]
    exact Hfin.out

set_option maxHeartbeats 400000 in
theorem take_short (p : Nat) (g : Option Nat) (L : List UInt8) (n : Int) (w : World) (h : InAt w p g L 0) (h1 : 1 ≤ n) (h8 : n ≤ 8) (hn : L.length < n) :
    Calls Tryz.prog 61 #[.pointer (some ⟨p, 0, none⟩), .int .i64 n] w (RetTake w p g L 0 n) := by
  have hcut := cut_short p g L 0 n w h hn
  obtain ⟨v, hb, hr, hg⟩ := h
  have hc1 := hb.cell 1
  simp at hc1
  have hk := (Keeps.refl (only p) w).setCell (p := ⟨p, 1, none⟩) (fun _ => rfl) (.int .i64 4)
  have hfin : RetTake w p g L 0 n (.returned (.int .u64 0)) (w.setCell ⟨p, 1, none⟩ (.int .i64 4)) := by
    refine ⟨?_, ?_, hk⟩
    · rw [takeVal, if_neg (by omega)]; rfl
    · rw [takeLeft, if_neg (by omega), takeErr, if_neg (by simp), if_neg (by omega), if_pos hn]
      exact ⟨v, by simpa using hb.set_ 1 (.int .i64 4), hr.keep hk (fun b hb' e => hg (by rw [hb']; exact congrArg some e)), hg⟩
  have Hfin := Lib.hid hfin
  have Hb := Lib.hid hb
  have Hcut := Lib.hid hcut
  clear hr hb hfin hk hcut
  have h1' : ¬ n < 1 := by omega
  have h8' : ¬ (8 : Int) < n := by omega
  go_enter_defers Tryz.func61, Tryz.ntmps61
  go_wp2_with fail
  refine Hcut.out.mono ?_
  rintro e w' ⟨rfl, rfl⟩
  refine leaves_cons (f := 69) (args := #[.pointer (some ⟨p, 0, none⟩)]) (by simp) (by simp [go_sem]) ?_
  refine (caught_panic p 4 v 0 [] w Hb.out).mono ?_
  rintro e u' w'' ⟨rfl, rfl, rfl⟩
  simp [Leaves, settle, results, Tryz.results61, go_sem]
  exact Hfin.out

set_option maxHeartbeats 400000 in
theorem take_ok (p : Nat) (g : Option Nat) (L : List UInt8) (n : Nat) (w : World) (h : InAt w p g L 0) (h1 : 1 ≤ n) (h8 : n ≤ 8) (hn : n ≤ L.length) :
    Calls Tryz.prog 61 #[.pointer (some ⟨p, 0, none⟩), .int .i64 n] w (RetTake w p g L 0 n) := by
  have hcut := cut_ok p g L 0 n w h hn
  have hc1 : w.cell? ⟨p, 1, none⟩ = some (.int .i64 0) := by
    obtain ⟨v, hb, hr, hg⟩ := h
    simpa using hb.cell 1
  have Hcut := Lib.hid hcut
  clear hcut h
  have h1' : ¬ (n : Int) < 1 := by omega
  have h8' : ¬ (8 : Int) < n := by omega
  go_enter_defers Tryz.func61, Tryz.ntmps61
  go_wp2_with fail
  refine Hcut.out.mono ?_
  rintro e w1 ⟨v', rfl, hr, hin, hk⟩
  have Hin := Lib.hid hin
  have Hk := Lib.hid hk
  have hTn : (L.take n).length = n := by simp; omega
  obtain ⟨A, c, rfl, hlc, hcm⟩ := hr.form
  have hlen : ((L.take n).map bv).length = n := by simp; omega
  rw [hlen]
  rw [hlen] at hr
  obtain ⟨T, hT⟩ : ∃ T, T = L.take n := ⟨_, rfl⟩
  rw [← hT] at hr hTn
  have HT := Lib.hid hT
  clear hin hk hlen hlc hT
  obtain ⟨b, off, cap, hv, rfl, _, hl, hm, hc⟩ := hr.plain (by simp [hTn]; omega)
  injection hv with hv1 hv2 hv3
  subst hv1
  clear hv2 hv3
  have Hc := Lib.hid hc
  have HTn := Lib.hid hTn
  clear hc hTn
  go_wp2_with fail
  go_loop [4, 24] (fun x i => ∃ k : Nat, k ≤ n ∧ i = .int .i64 k ∧ x = .int .u64 (le (T.take k))) (fun _ i => n - (intOf i).toNat)
  case atStart => exact ⟨0, Nat.zero_le _, rfl, by simp [le]⟩
  case round =>
    obtain ⟨k, hkn, rfl, rfl⟩ := hrel
    by_cases hlt : k < n
    · have hkT : k < T.length := by rw [HTn.out]; exact hlt
      have hcell : w1.cell? ⟨b, off + k, none⟩ = some (.int .u8 (T[k].toNat : Int)) := Hc.out k _ (get_bv T k hkT)
      have hw8 : IntKind.i64.wrap (8 * (k : Int)) = 8 * k := IntWalk.i64_in _ (by omega)
      have h80 : (0 : Int) ≤ 8 * k := by omega
      have hor := or_byte (le (T.take k)) k T[k] (by omega) (by have := le_lt (T.take k); rwa [show (T.take k).length = k from by simp; omega] at this)
      have hsn : le (T.take (k + 1)) = le (T.take k) + T[k].toNat * 256 ^ k := by
        rw [List.take_succ_eq_append_getElem hkT, le_snoc, show (T.take k).length = k from by simp; omega]
      have Hor := Lib.hid hor
      have Hsn := Lib.hid hsn
      clear hor hsn
      go_wp2_with fail
      refine ⟨⟨k + 1, by omega, by go_num, ?_⟩, by simp [intOf]; omega⟩
      rw [Hor.out, Hsn.out]
    · go_wp2_with fail
      obtain rfl : k = n := by omega
      refine leaves_cons (f := 69) (args := #[.pointer (some ⟨p, 0, none⟩)]) (by simp) (by simp [go_sem]) ?_
      refine (caught_idle p w1).mono ?_
      rintro e u' w'' ⟨rfl, rfl, rfl⟩
      simp [Leaves, settle, results, Tryz.results61, go_sem]
      have hT := HT.out
      have hfull : T.take k = T := List.take_of_length_le (by rw [HTn.out]; exact Nat.le_refl _)
      rw [hfull]
      refine ⟨?_, ?_, Hk.out⟩
      · rw [takeVal, if_pos (by omega), hT]; simp
      · rw [takeLeft, if_pos (by omega), takeErr, if_neg (by simp), if_neg (by omega), if_neg (by omega)]
        simpa using Hin.out

theorem take_any (p : Nat) (g : Option Nat) (L : List UInt8) (err n : Int) (w : World) (h : InAt w p g L err) :
    Calls Tryz.prog 61 #[.pointer (some ⟨p, 0, none⟩), .int .i64 n] w (RetTake w p g L err n) := by
  by_cases he : err = 0
  · subst he
    by_cases h1 : n < 1 ∨ 8 < n
    · exact take_arg p g L n w h h1
    · by_cases h2 : L.length < n
      · exact take_short p g L n w h (by omega) (by omega) h2
      · obtain ⟨m, rfl⟩ := Int.eq_ofNat_of_zero_le (show 0 ≤ n by omega)
        exact take_ok p g L m w h (by omega) (by omega) (by omega)
  · exact take_bad p g L err n w h he
end Go.Proofs.YtnddaildicmneaaGreat
/-
  A slice of structs that came in: each element, each field. (After the page extra-structs of the guide.)
-/
namespace Go.Proofs.YtnddaildicmneaaGreat
open Go.ChangeShapes Go.WideShapes Go.Deep Go.RowKit

theorem list_of_forall {α : Type} {P : Nat → α → Prop} : ∀ n, (∀ i, i < n → ∃ x, P i x) → ∃ l : List α, l.length = n ∧ ∀ i x, l[i]? = some x → P i x
  | 0, _ => ⟨[], rfl, fun i x h => by simp at h⟩
  | n + 1, h => by
    obtain ⟨l, hl, hp⟩ := list_of_forall n (fun i hi => h i (by omega))
    obtain ⟨x, hx⟩ := h n (by omega)
    refine ⟨l ++ [x], by simp [hl], fun i y hy => ?_⟩
    rw [List.getElem?_append] at hy
    split at hy
    · exact hp i y hy
    · rename_i hi
      have : i = n := by
        have := (List.getElem?_eq_some_iff.1 hy).1
        simp at this
        omega
      subst this
      rw [hl, Nat.sub_self] at hy
      simp at hy
      subst hy
      exact hx

theorem add_none {w : World} {a : Addr} {k : Nat} {v : Value} (h : w.cell? (a.add k) = some v) : ∃ b off, a = ⟨b, off, none⟩ ∨ (k ≠ 0 ∧ b = a.block ∧ off = a.off) := by
  exact ⟨a.block, a.off, by
    by_cases hk : k = 0
    · subst hk
      left
      have := World.cell?_spot h
      simp [Addr.add] at this
      cases a
      simp_all
    · exact .inr ⟨hk, rfl, rfl⟩⟩

section
variable {H : Type} {enc : TypeId × Value → H} {P : Program} {w : World} {base : Nat} {spare : Nat → Bool} {held : Bool}
theorem open_slice_fields {t e : TypeId} {fs : Array Field} {fuel : Nat} {cs : List Value} {x : DataW H × List MemPlace} (ht : P.underlying t = some (.slice e)) (he : P.underlying e = some (.struct fs))
    (hone : oneCellFields P fs = true) (hC : P.cellsOf e = fs.size) (h : DataW.trod enc P w base spare held fuel t cs = some x) :
    (cs = [.slice none 0 0] ∧ x = (.nil, [])) ∨
    ∃ (a : Addr) (len cap m : Nat) (D : Nat → DataW H) (Pl : Nat → List MemPlace), cs = [.slice (some a) len cap] ∧ base ≤ a.block ∧ len ≤ cap ∧ cap ≤ maxLen ∧ m = (if spare a.block then cap else len) ∧
      x = (.slice ((List.range len).map D) ((List.range (m - len)).map fun j => D (len + j)), MemPlace.row a (m * fs.size) ++ (List.range m).flatMap Pl) ∧
      ∀ i, i < m → ∃ (ys : List (DataW H × List MemPlace)) (n : Nat), D i = .agg (ys.map (·.1)) ∧ Pl i = ys.flatMap (·.2) ∧ ys.length = fs.size ∧
        ∀ (j : Nat) (f : Field), fs[j]? = some f → ∃ (v : Value) (y : DataW H × List MemPlace), w.cell? (a.add (i * fs.size + j)) = some v ∧ ys[j]? = some y ∧ DataW.trod enc P w base spare held n f.type [v] = some y := by
  rcases open_slice ht h with h0 | ⟨a, len, cap, m, n, D, Pl, hcs, hb, hl, hm, hmm, hx, hi⟩
  · exact .inl h0
  · refine .inr ⟨a, len, cap, m, D, Pl, hcs, hb, hl, hm, hmm, by rw [hC] at hx; exact hx, fun i him => ?_⟩
    obtain ⟨cs', hc, ht'⟩ := hi i him
    rw [hC] at hc
    obtain ⟨ys, n', hn', hy, hlen, hyl, hf⟩ := DataW.trod_struct he ht'
    obtain ⟨_, hcl, hat⟩ := World.cells?_some hc
    simp only [Prod.mk.injEq] at hy
    refine ⟨ys, n', hy.1, hy.2, hyl, fun j f hj => ?_⟩
    obtain ⟨ho, hk⟩ := hone_of hone j f hj
    have hjl : j < fs.size := (Array.getElem?_eq_some_iff.1 hj).1
    have hcell := hat j hjl
    have hv : cs'[j]? = some (cs'[j]'(by omega)) := List.getElem?_eq_getElem (by omega)
    have h1 := hf j f hj
    rw [ho, hk] at h1
    have hone' : (cs'.drop j).take 1 = [cs'[j]'(by omega)] := by
      rw [List.drop_eq_getElem_cons (by omega)]
      rfl
    rw [hone'] at h1
    have hys : ys[j]? = some (ys[j]'(by omega)) := List.getElem?_eq_getElem (by omega)
    refine ⟨_, _, ?_, hys, h1.trans hys⟩
    rw [← Go.Deep.add_add, hcell, hv]
end

/-- the address of a slice of which a first cell is known -/
theorem plain_addr {w : World} {a : Addr} {v : Value} (h : w.cell? (a.add 0) = some v) : a = ⟨a.block, a.off, none⟩ := by
  have := World.cell?_spot h
  simp [Addr.add] at this
  cases a
  simp_all
theorem add_plain (b off k : Nat) : (⟨b, off, none⟩ : Addr).add k = ⟨b, off + k, none⟩ := by unfold Addr.add; split <;> simp_all
end Go.Proofs.YtnddaildicmneaaGreat
/-
  Bytes among a law's arguments.
-/
namespace Go.Proofs.YtnddaildicmneaaGreat
open Go.RowKit Go.ChangeShapes Go.WideShapes Go.ChangeAt Go.Deep

section
variable {H : Type} {enc : TypeId × Value → H} {w : World} {base : Nat} {spare : Nat → Bool} {held : Bool}

/-- bytes out of a list of numbers -/
theorem rd_of_zs {a : Addr} {len cap : Nat} {zs : List Int} (hl : len ≤ cap) (hm : cap ≤ maxLen) (hz : len ≤ zs.length) (hcell : ∀ i, i < zs.length → w.cell? (a.add i) = some (.int .u8 (zs.getD i 0))) (hwz : ∀ n ∈ zs, (Lit.int .u8 n).wf = true) :
    ∃ (g : Option Nat) (L : List UInt8), Rd w (.slice (some a) len cap) g (L.map bv) ∧ Under w.heap.size g ∧ L.length = len := by
  have hval : ∀ i (hi : i < zs.length), Value.int .u8 (zs.getD i 0) = bv (UInt8.ofNat zs[i].toNat) := fun i hi => by
    have hb := bounds_u8 (hwz zs[i] (List.getElem_mem hi))
    have e : zs.getD i 0 = zs[i] := by simp [List.getD, hi]
    rw [e]
    unfold bv
    congr 1
    simp
    omega
  let L : List UInt8 := (zs.take len).map fun n => UInt8.ofNat n.toNat
  have hL : L.length = len := by simp [L]; omega
  have hget : ∀ j u, (L.map bv)[j]? = some u → w.cell? (a.add j) = some u := fun j u hj => by
    have hj' : j < len := by have := (List.getElem?_eq_some_iff.1 hj).1; simpa [hL] using this
    rw [hcell j (by omega), hval j (by omega), ← hj]
    simp [L, hj', show j < zs.length by omega]
  by_cases h0 : len = 0
  · refine ⟨none, L, .inr ⟨a, cap, by simp [hL], Under.none _, fun hp => absurd hp (by simp [hL]; omega), by simp [hL]; omega, hm, hget⟩, Under.none _, hL⟩
  · have hc0 := hcell 0 (by omega)
    have hp := plain_addr hc0
    have hlt := block_lt_of_cell hc0
    rw [add_block] at hlt
    exact ⟨some a.block, L, .inr ⟨a, cap, by simp [hL], fun b hb => (by injection hb with hb; omega), fun _ => ⟨rfl, by rw [hp]⟩, by simp [hL]; omega, hm, hget⟩, fun b hb => (by injection hb with hb; omega), hL⟩

set_option maxRecDepth 20000 in
theorem open_bytes_cells {fuel : Nat} {v : Value} {x : DataW H × List MemPlace} (h : DataW.trod enc Tryz.prog w base spare held fuel 33 [v] = some x) :
    ∃ (g : Option Nat) (L : List UInt8), Rd w v g (L.map bv) ∧ Under w.heap.size g := by
  rcases open_ints Tryz.underlying33 Tryz.underlying5 (by kernel_rfl) h with ⟨hcs, _⟩ | ⟨a, l, c, zs, hcs, _, hl, hm, hz, _, hcell, hwz⟩
  · simp at hcs
    subst hcs
    exact ⟨none, [], Rd.nil _, Under.none _⟩
  · simp at hcs
    subst hcs
    obtain ⟨g, L, h1, h2, _⟩ := rd_of_zs hl hm (by rw [hz]; split <;> omega) hcell hwz
    exact ⟨g, L, h1, h2⟩

set_option maxRecDepth 20000 in
theorem open_bytes {v : Value} {d : DataW H} {p : List MemPlace} {r : Reach} {b0 : Nat} (hv : Value.okWide Tryz.prog w r b0 33 v) (h : DataW.Trod enc Tryz.prog w base spare held 33 v d p) :
    ∃ (g : Option Nat) (L : List UInt8), Rd w v g (L.map bv) ∧ Under w.heap.size g := by
  obtain ⟨a0, len, cap, rfl⟩ := okWide_slice Tryz.underlying33 hv
  obtain ⟨fuel, hf⟩ := h
  exact open_bytes_cells hf

set_option maxRecDepth 20000 in
theorem open_bytes_len {v : Value} {d : DataW H} {p : List MemPlace} {r : Reach} {b0 : Nat} (hv : Value.okWide Tryz.prog w r b0 33 v) (h : DataW.Trod enc Tryz.prog w base spare held 33 v d p) :
    ∃ (g : Option Nat) (L : List UInt8), Rd w v g (L.map bv) ∧ Under w.heap.size g ∧ (L = [] ∨ ∃ elems spare', d = .slice elems spare' ∧ L.length = elems.length) := by
  obtain ⟨a0, len, cap, rfl⟩ := okWide_slice Tryz.underlying33 hv
  obtain ⟨fuel, hf⟩ := h
  rcases open_ints Tryz.underlying33 Tryz.underlying5 (by kernel_rfl) hf with ⟨hcs, _⟩ | ⟨a, l, c, zs, hcs, _, hl, hm, hz, hx, hcell, hwz⟩
  · simp [Value.cells] at hcs
    obtain ⟨rfl, rfl, rfl⟩ := hcs
    exact ⟨none, [], Rd.nil _, Under.none _, .inl rfl⟩
  · simp [Value.cells] at hcs
    obtain ⟨rfl, rfl, rfl⟩ := hcs
    have hlz : len ≤ zs.length := by rw [hz]; split <;> omega
    obtain ⟨g, L, h1, h2, h3⟩ := rd_of_zs hl hm hlz hcell hwz
    injection hx with hx1 hx2
    exact ⟨g, L, h1, h2, .inr ⟨_, _, hx1, by simp [lits]; omega⟩⟩

end
end Go.Proofs.YtnddaildicmneaaGreat
/-
  Bytes and bools among a law's arguments, as rows of records that read.
-/
namespace Go.Proofs.YtnddaildicmneaaGreat
open Go.RowKit Go.ChangeShapes Go.WideShapes Go.ChangeAt Go.Deep

theorem rdB_of {w : World} {v : Value} {g : Option Nat} {L : List UInt8} (h : Rd w v g (L.map bv)) : recB.Rd w v g L := by
  rcases h with ⟨rfl, rfl, h⟩ | ⟨a, cap, rfl, hu, hg, h1, h2, h3⟩
  · have : L = [] := by simpa using h
    subst this
    exact RecT.Rd.nil _ _
  · rw [List.length_map] at *
    refine ⟨some a, cap, rfl, h1, h2, hu, fun hp => ?_, fun h => by cases h⟩
    obtain ⟨e1, e2⟩ := hg hp
    refine ⟨a.block, a.off, by cases a; simp_all, e1, fun i t hi k hk => ?_⟩
    have hk0 : k = 0 := by have : k < 1 := hk; omega
    subst hk0
    have := h3 i (bv t) (by rw [List.getElem?_map, hi]; rfl)
    rw [show a = ⟨a.block, a.off, none⟩ by cases a; simp_all, Addr.add_lit] at this
    rw [Nat.add_zero, show i * recB.n = i from Nat.mul_one i, this]
    rfl
section
variable {H : Type} {enc : TypeId × Value → H} {w : World} {base : Nat} {held : Bool}
theorem open_bools_cells {fuel : Nat} {A : Option Addr} {n c : Nat} {x : DataW H × List MemPlace} (h : DataW.trod enc Tryz.prog w base (fun _ => true) held fuel 34 [.slice A n c] = some x) :
    ∃ (g : Option Nat) (L : List Bool), L.length = n ∧ recBo.Rd w (.slice A n c) g L := by
  have hC : Tryz.prog.cellsOf 4 = 1 := by kernel_rfl
  rcases open_bools Tryz.underlying34 Tryz.underlying4 hC h with ⟨hcs, -⟩ | ⟨a, len, cap, B, hcs, -, hl, hm, -, hcell⟩
  · simp at hcs
    obtain ⟨rfl, rfl, rfl⟩ := hcs
    exact ⟨none, [], rfl, RecT.Rd.nil _ _⟩
  · simp at hcs
    obtain ⟨rfl, rfl, rfl⟩ := hcs
    have hL : ((List.range n).map B).length = n := by simp
    by_cases h0 : n = 0
    · subst h0
      exact ⟨none, [], rfl, some a, c, rfl, Nat.zero_le _, hm, Under.none _, fun h => by simp at h, fun h => by cases h⟩
    · have hc0 := hcell 0 (by omega)
      have hp := plain_addr hc0
      have hlt := block_lt_of_cell hc0
      rw [add_block] at hlt
      refine ⟨some a.block, (List.range n).map B, hL, some a, c, by rw [hL], by rw [hL]; exact hl, hm, fun b hb => (by injection hb with hb; omega), fun _ => ⟨a.block, a.off, by rw [← hp], rfl, fun i t hi k hk => ?_⟩, fun h => by cases h⟩
      have hk0 : k = 0 := by have : k < 1 := hk; omega
      subst hk0
      have hin : i < n := by have := (List.getElem?_eq_some_iff.1 hi).1; simpa using this
      have := hcell i (by omega)
      rw [hp, Addr.add_lit] at this
      rw [Nat.add_zero, show i * recBo.n = i from Nat.mul_one i, this]
      rw [List.getElem?_map, List.getElem?_range hin] at hi
      have hi := Option.some.inj hi
      simp [recBo, hi]
set_option maxRecDepth 20000 in
theorem open_boolsD {v : Value} {d : DataW H} {p : List MemPlace} {r : Reach} {b0 : Nat} (hv : Value.okWide Tryz.prog w r b0 34 v) (h : DataW.Trod enc Tryz.prog w base (fun _ => true) held 34 v d p) :
    ∃ (A : Option Addr) (c : Nat) (g : Option Nat) (L : List Bool), v = .slice A L.length c ∧ recBo.Rd w v g L := by
  obtain ⟨a0, len, cap, rfl⟩ := okWide_slice Tryz.underlying34 hv
  obtain ⟨fuel, hf⟩ := h
  obtain ⟨g, L, hl, hr⟩ := open_bools_cells hf
  exact ⟨a0, cap, g, L, by rw [hl], hr⟩
set_option maxRecDepth 20000 in
theorem open_bytesD {spare : Nat → Bool} {v : Value} {d : DataW H} {p : List MemPlace} {r : Reach} {b0 : Nat} (hv : Value.okWide Tryz.prog w r b0 33 v) (h : DataW.Trod enc Tryz.prog w base spare held 33 v d p) :
    ∃ (A : Option Addr) (c : Nat) (g : Option Nat) (L : List UInt8), v = .slice A L.length c ∧ recB.Rd w v g L := by
  obtain ⟨g, L, h1, -⟩ := open_bytes hv h
  have h2 := rdB_of h1
  obtain ⟨A, c, rfl, -⟩ := id h2
  exact ⟨A, c, g, L, rfl, h2⟩
end
end Go.Proofs.YtnddaildicmneaaGreat
/-
  pages: what lay needs: the keys, the values, the state within it.
-/
namespace Go.Proofs.YtnddaildicmneaaGreat
open Go.Proofs Go.RowKit Go.Sort Go.Maps

def lookL (ch : List (Nat × List UInt8)) (p : Nat) : List UInt8 := ((ch.find? fun x => decide (x.1 = p)).map (·.2)).getD []
def ksOf (ch : List (Nat × List UInt8)) : List Nat := (ch.map (·.1)).mergeSort fun x y => decide (x ≤ y)
def chOf (pe : List EntV) : List (Nat × List UInt8) := pe.map fun x => (x.1, x.2.2)
theorem ks_perm (ch : List (Nat × List UInt8)) : (ksOf ch).Perm (ch.map (·.1)) := List.mergeSort_perm _ _
theorem ks_len (ch : List (Nat × List UInt8)) : (ksOf ch).length = ch.length := by rw [(ks_perm ch).length_eq, List.length_map]
theorem ks_mem {ch : List (Nat × List UInt8)} {p : Nat} : p ∈ ksOf ch ↔ ∃ L, (p, L) ∈ ch := by
  rw [(ks_perm ch).mem_iff, List.mem_map]
  constructor
  · rintro ⟨⟨a, L⟩, h, rfl⟩; exact ⟨L, h⟩
  · rintro ⟨L, h⟩; exact ⟨_, h, rfl⟩
theorem srt_ks (pe : List EntV) : srtI ((entI pe).map (·.1)) = (ksOf (chOf pe)).map (fun n : Nat => (n : Int)) := by
  have e : (entI pe).map (·.1) = ((chOf pe).map (·.1)).map (fun n : Nat => (n : Int)) := by simp [entI, chOf, Function.comp_def]
  rw [e]
  unfold srtI ksOf
  rw [List.map_mergeSort (s := fun x y : Int => decide (x ≤ y))]
  intro a _ b _
  simp
section
variable {X : Nat → Prop} {w w' W0 wr : World} {s d c cm : Nat} {sv : Value} {ce pe : List EntV} {B : BookV} {S M F : Nat → Prop} {D : DiskV}
theorem look_ent (hm : KMap keyI w cm (entI pe)) (hv : ∀ x ∈ pe, recB.Row w x.2.1 x.2.2) {p : Nat} (hp : p ∈ ksOf (chOf pe)) : ∃ v, asc (entI pe) (p : Int) = some v ∧ recB.Row w v (lookL (chOf pe) p) := by
  obtain ⟨L, hL⟩ := ks_mem.1 hp
  cases hf : (chOf pe).find? fun x => decide (x.1 = p) with
  | none =>
    rw [List.find?_eq_none] at hf
    exact absurd (hf _ hL) (by simp)
  | some y =>
    have h1 := List.mem_of_find?_eq_some hf
    have h2 := List.find?_some hf
    simp only [decide_eq_true_eq] at h2
    obtain ⟨x, hx, rfl⟩ := List.mem_map.1 h1
    refine ⟨x.2.1, asc_is hm.nd (List.mem_map.2 ⟨x, hx, by simp only at h2; rw [h2]⟩), ?_⟩
    rw [lookL, hf]
    exact hv x hx
/-- the state within lay -/
def LayW (X : Nat → Prop) (W0 wr : World) (d : Nat) (F : Nat → Prop) (D : DiskV) : Prop := ∃ F', DK X wr d F' D ∧ Keeps F W0 wr ∧ ∀ k, F' k → F k ∨ W0.heap.size ≤ k
theorem LayW.start (h : DK X W0 d F D) : LayW X W0 W0 d F D := ⟨F, h, Keeps.refl _ _, fun _ e => .inl e⟩
theorem LayW.keeps (h : LayW X W0 wr d F D) : Keeps F W0 wr := by obtain ⟨_, _, h, _⟩ := h; exact h
theorem LayW.same (h : LayW X W0 wr d F D) (hk : Keeps nowhere wr w') : LayW X W0 w' d F D := by
  obtain ⟨F', h1, h2, h3⟩ := h
  exact ⟨F', h1.same hk, h2.trans hk (fun _ _ e => e.elim), h3⟩
theorem LayW.go {D' : DiskV} {F' : Nat → Prop} (h2 : Keeps F W0 wr) (h3 : ∀ k, F' k → F k ∨ W0.heap.size ≤ k) (hg : DGo X wr d F' w' D') : LayW X W0 w' d F D' := by
  obtain ⟨F2, g1, g2, g3⟩ := hg
  refine ⟨F2, g1, h2.trans g2 (fun k hk e => (h3 k e).elim id (fun h => by omega)), fun k e => ?_⟩
  rcases g3 k e with e | e
  · exact h3 k e
  · exact .inr (Nat.le_trans h2.size e)
theorem LayW.write (h : LayW X W0 wr d F D) (ok : DOk D) (x : Nat) (v : Value) (g : Option Nat) (L : List UInt8) (hr : recB.Rd wr v g L) (hg : ∀ k, g = some k → ¬ NotRaw wr k) :
    Calls Tryz.prog 47 #[dp d, .int .i64 x, v] wr fun e w' => e = .returned (.int .i64 (D.write (x : Int) L).1) ∧ LayW X W0 w' d F (D.write (x : Int) L).2 := by
  obtain ⟨F', h1, h2, h3⟩ := h
  exact (dk_write x v g L h1 ok hr (fun k e hF => hg k e (h1.notRaw k hF))).mono fun e w' ⟨he, hd⟩ => ⟨he, LayW.go h2 h3 hd⟩
theorem LayW.writeR (h : LayW X W0 wr d F D) (ok : DOk D) (x : Nat) (v : Value) (g : Option Nat) (L : List UInt8) (hr : recB.Rd wr v g L) (hg : ∀ k, g = some k → ¬ NotRaw wr k) {v2 : Value} {L2 : List UInt8} (h2 : recB.Row wr v2 L2) :
    Calls Tryz.prog 47 #[dp d, .int .i64 x, v] wr fun e w' => e = .returned (.int .i64 (D.write (x : Int) L).1) ∧ LayW X W0 w' d F (D.write (x : Int) L).2 ∧ recB.Row w' v2 L2 := by
  obtain ⟨F', h1, h3, h4⟩ := h
  refine (dk_write x v g L h1 ok hr (fun k e hF => hg k e (h1.notRaw k hF))).mono fun e w' ⟨he, hd⟩ => ⟨he, LayW.go h3 h4 hd, ?_⟩
  obtain ⟨F2, g1, g2, g3⟩ := hd
  exact h2.keep g2 (fun k e hF => row_raw h2 (.inl rfl) (h1.notRaw k hF) e)
theorem LayW.sync (h : LayW X W0 wr d F D) (ok : DOk D) :
    Calls Tryz.prog 49 #[dp d] wr fun e w' => e = .returned (.int .i64 D.syncs.1) ∧ LayW X W0 w' d F D.syncs.2 := by
  obtain ⟨F', h1, h2, h3⟩ := h
  exact (dk_sync h1 ok).mono fun e w' ⟨he, hd⟩ => ⟨he, LayW.go h2 h3 hd⟩
/-- room for `n` more writes -/
structure LOk (D : DiskV) (n : Nat) : Prop where
  pend : D.pend.length + n ≤ 80000
  size : D.size ≤ 1000000
  kept : D.kept.length ≤ 1000000
  all : D.kept.length * D.size ≤ 100000000
  writes : D.writes + n < 900000000
  arm : D.armed = true → 1 ≤ D.left ∧ D.left ≤ 9223372036854775807
  keep : D.keep.length ≤ 100000000
theorem LOk.ok {n : Nat} (h : LOk D n) : DOk D := ⟨by have := h.pend; omega, h.size, h.kept, h.all, by have := h.writes; omega, h.arm, h.keep⟩
theorem LOk.less {n m : Nat} (h : LOk D n) (hm : m ≤ n) : LOk D m := ⟨by have := h.pend; omega, h.size, h.kept, h.all, by have := h.writes; omega, h.arm, h.keep⟩
theorem LOk.write {n : Nat} {x : Int} {L : List UInt8} (h : LOk D (n + 1)) (hw : (D.write x L).1 = 0) : LOk (D.write x L).2 n := by
  obtain ⟨h1, h2, h3, h4, h5, h6, h7⟩ := h
  unfold DiskV.write at hw ⊢
  split at hw
  · exact absurd hw (by simp)
  · rename_i ho
    rw [if_neg ho]
    split at hw
    · rename_i hc
      rw [if_pos hc]
      split at hw
      · rename_i ha
        rw [if_pos ha]
        split at hw
        · exact absurd hw (by simp)
        · rename_i hl
          rw [if_neg hl]
          obtain ⟨a1, a2⟩ := h6 ha
          exact ⟨by simp [DiskV.wrote, DiskV.less]; omega, h2, h3, h4, by simp [DiskV.wrote, DiskV.less]; omega, fun _ => ⟨by show 1 ≤ D.left - 1; omega, by show D.left - 1 ≤ _; omega⟩, h7⟩
      · rename_i ha
        rw [if_neg ha]
        exact ⟨by simp [DiskV.wrote]; omega, h2, h3, h4, by simp [DiskV.wrote]; omega, fun e => absurd e ha, h7⟩
    · exact absurd hw (by simp)
theorem LOk.writes_ {ws : List (Nat × List UInt8)} : ∀ {D : DiskV} {n : Nat}, LOk D (n + ws.length) → (D.writesL ws).1 = 0 → LOk (D.writesL ws).2 n := by
  induction ws with
  | nil => intro D n h _; exact h
  | cons x r ih =>
    intro D n h hw
    rw [DiskV.writesL] at hw ⊢
    split at hw
    · rename_i h1
      rw [if_pos h1]
      exact ih (LOk.write (n := n + r.length) (by rw [List.length_cons] at h; exact h) h1) hw
    · rename_i h1
      exact absurd hw h1
theorem LOk.sync {n : Nat} (h : LOk D n) : LOk D.syncs.2 n := by
  unfold DiskV.syncs
  split
  · exact h
  · have hl : D.sync.kept.length = D.kept.length := settleN_len _ _ _ _
    exact ⟨by have := h.pend; show 0 + n ≤ 80000; omega, h.size, by rw [hl]; exact h.kept, by rw [hl]; exact h.all, h.writes, h.arm, h.keep⟩
/-- what lay leaves behind -/
def LayPost (X : Nat → Prop) (w : World) (s d : Nat) (F M : Nat → Prop) (B : BookV) (next : List Bool) (r : Int × DiskV) : Ending → World → Prop := fun e w' =>
  e = .returned (.int .i64 r.1) ∧ ∃ F', DK X w' d F' r.2 ∧ BP X w' s d M (if r.1 = 0 then { B with gen := B.gen + 1, second := next } else B) ∧ Keeps (fun k => F k ∨ M k) w w' ∧ (∀ k, F' k → F k ∨ w.heap.size ≤ k) ∧ ∀ k, M k → ¬ F' k
/-- what holds when it begins -/
structure LayAt (X : Nat → Prop) (w W0 : World) (s d q cm : Nat) (F M : Nat → Prop) (B : BookV) (next : List Bool) (nv : Value) (pe : List EntV) : Prop where
  kw : Keeps nowhere w W0
  b : BP X W0 s d M B
  ap : ∀ k, M k → ¬ F k
  Fr : ∀ k, F k → NotRaw W0 k
  Fl : ∀ k, F k → k < w.heap.size
  e : Blk W0 q 26 #[.int .i64 0]
  q0 : w.heap.size ≤ q
  nx : recBo.Row W0 nv next
  m : KMap keyI W0 cm (entI pe)
  mF : ¬ F cm
  v : ∀ x ∈ pe, recB.Row W0 x.2.1 x.2.2
  nX : ∀ k, nv.ownBlock = some k → ¬ X k
section
variable {q : Nat} {next : List Bool} {nv : Value}
theorem LayAt.kw_ (h : LayAt X w W0 s d q cm F M B next nv pe) (hk : Keeps F W0 wr) : Keeps F w wr := (h.kw.mono (T := F) (fun _ _ e => e.elim)).trans hk (fun _ _ e => e)
theorem LayAt.b_ (h : LayAt X w W0 s d q cm F M B next nv pe) (hk : Keeps F W0 wr) : BP X wr s d M B := h.b.keepAll hk h.ap h.Fr
theorem LayAt.e_ (h : LayAt X w W0 s d q cm F M B next nv pe) (hk : Keeps F W0 wr) : Blk wr q 26 #[.int .i64 0] := h.e.keep hk (fun e => absurd (h.Fl q e) (by have := h.q0; omega))
theorem LayAt.nx_ (h : LayAt X w W0 s d q cm F M B next nv pe) (hk : Keeps F W0 wr) : recBo.Row wr nv next := h.nx.keep hk (fun b e hs => row_raw h.nx (.inr rfl) (h.Fr b hs) e)
theorem LayAt.m_ (h : LayAt X w W0 s d q cm F M B next nv pe) (hk : Keeps F W0 wr) : KMap keyI wr cm (entI pe) := h.m.keep hk h.mF
theorem LayAt.v_ (h : LayAt X w W0 s d q cm F M B next nv pe) (hk : Keeps F W0 wr) : ∀ x ∈ pe, recB.Row wr x.2.1 x.2.2 := fun x hx => (h.v x hx).keep hk (fun b e hs => row_raw (h.v x hx) (.inl rfl) (h.Fr b hs) e)
/-- an error is caught -/
theorem LayAt.fail (h : LayAt X w W0 s d q cm F M B next nv pe) {D' : DiskV} (hl : LayW X W0 w' d F D') {r : Int × DiskV} (hr : r.2 = D') (h0 : r.1 ≠ 0) : LayPost X w s d F M B next r (.returned (.int .i64 r.1)) (w'.setCell ⟨q, 0, none⟩ (.int .i64 r.1)) := by
  subst hr
  obtain ⟨F', h1, h2, h3⟩ := hl
  have hkw := h.kw_ h2
  have hb := h.b_ h2
  have he := h.e_ h2
  have hq := h.q0
  have hqF : ¬ F' q := fun e => (h3 q e).elim (fun e => absurd (h.Fl q e) (by omega)) (fun e => by have := h.e.lt; omega)
  have hqM : ∀ k, M k → ¬ only q k := fun k hk e => by
    have e2 : k = q := e
    subst e2
    have := hb.notRaw k hk
    obtain ⟨c, sv, ce, rfl, hb, hx⟩ := hb
    rcases hk with hk | hk
    · exact hb.box.ne_ he (by decide) hk.symm
    · exact hb.map.ne_blk he hk
  have hks : Keeps (only q) w' (w'.setCell ⟨q, 0, none⟩ (.int .i64 r.1)) := (Keeps.refl (only q) _).setCell (p := ⟨q, 0, none⟩) (fun _ => rfl) _
  have hnr : ∀ k, only q k → NotRaw w' k := fun k e => by have e2 : k = q := e; rw [e2]; exact notRaw_box he (by decide) (by decide)
  refine ⟨rfl, F', h1.keepAll hks (fun k hk e => hqF (by have e2 : k = q := e; rw [← e2]; exact hk)) hnr, ?_, ?_, fun k e => (h3 k e).imp id (fun e => Nat.le_trans h.kw.size e), fun k hk e => (h3 k e).elim (h.ap k hk) (fun e => by have := h.b.lt k hk; omega)⟩
  · rw [if_neg h0]
    exact hb.keepAll hks hqM hnr
  · exact (hkw.mono (T := fun k => F k ∨ M k) (fun _ _ e => .inl e)).trans hks (fun k hk e => by have e2 : k = q := e; omega)
/-- all is laid -/
theorem LayAt.done (h : LayAt X w W0 s d q cm F M B next nv pe) {D' : DiskV} (hl : LayW X W0 w' d F D') {r : Int × DiskV} (hr : r.2 = D') (h0 : r.1 = 0) {G : Nat} (hG : G = B.gen + 1) :
    LayPost X w s d F M B next r (.returned (.int .i64 0)) (((w'.setCell ⟨s, 4, none⟩ (.int .u64 G)).setCell ⟨s, 6, none⟩ nv).setCell ⟨q, 0, none⟩ (.int .i64 0)) := by
  subst hr
  obtain ⟨F', h1, h2, h3⟩ := hl
  have hkw := h.kw_ h2
  have hb := h.b_ h2
  have he := h.e_ h2
  have hnx := h.nx_ h2
  have hq := h.q0
  have hqF : ¬ F' q := fun e => (h3 q e).elim (fun e => absurd (h.Fl q e) (by omega)) (fun e => by have := h.e.lt; omega)
  have hMF : ∀ k, M k → ¬ F' k := fun k hk e => (h3 k e).elim (h.ap k hk) (fun e => by have := h.b.lt k hk; omega)
  obtain ⟨c, sv, ce, rfl, hb, hx⟩ := hb
  have hqs : q ≠ s := fun e => hb.box.ne_ he (by decide) e.symm
  have hqc : c ≠ q := fun e => hb.map.ne_blk he e.symm
  obtain ⟨w2, hw2⟩ : ∃ w2, w2 = ((w'.setCell ⟨s, 4, none⟩ (.int .u64 G)).setCell ⟨s, 6, none⟩ nv).setCell ⟨q, 0, none⟩ (.int .i64 0) := ⟨_, rfl⟩
  have hks : Keeps (fun k => k = s ∨ k = q) w' w2 := by
    rw [hw2]
    exact (((Keeps.refl _ w').setCell (p := ⟨s, 4, none⟩) (fun _ => .inl rfl) _).setCell (p := ⟨s, 6, none⟩) (fun _ => .inl rfl) _).setCell (p := ⟨q, 0, none⟩) (fun _ => .inr rfl) _
  have hnr : ∀ k, (k = s ∨ k = q) → NotRaw w' k := by
    rintro k (rfl | rfl)
    · exact notRaw_box hb.box (by decide) (by decide)
    · exact notRaw_box he (by decide) (by decide)
  have hbox : Blk w2 s 63 #[dp d, .int .i64 B.a, .int .i64 B.n, .int .i64 B.size, .int .u64 G, .int .i64 B.pages, nv, .map (some c)] := by
    rw [hw2]
    have := ((hb.box.set_ 4 (.int .u64 G)).set_ 6 nv).far (p := ⟨q, 0, none⟩) (fun e => hqs e.symm) (.int .i64 0)
    simpa using this
  rw [← hw2]
  refine ⟨by rw [h0], F', h1.keepAll hks (fun k hk e => ?_) hnr, ?_, ?_, fun k e => (h3 k e).imp id (fun e => Nat.le_trans h.kw.size e), hMF⟩
  · rcases e with rfl | rfl
    · exact hMF k (.inl rfl) hk
    · exact hqF hk
  · rw [if_pos h0]
    refine ⟨c, nv, ce, rfl, ⟨by rw [hG] at hbox; exact hbox, hnx.keep hks (fun b e hs => row_raw hnx (.inr rfl) (hnr b hs) e), hb.map.keep hks (fun e => e.elim (fun e => hb.ne e.symm) hqc), fun x hx => (hb.vals x hx).keep hks (fun b e hs => row_raw (hb.vals x hx) (.inl rfl) (hnr b hs) e), hb.ch⟩, h.nX, fun k hk => Nat.lt_of_lt_of_le (hx.2 k hk) hks.size⟩
  · refine (hkw.mono (T := fun k => F k ∨ MS s c k) (fun _ _ e => .inl e)).trans hks (fun k hk e => ?_)
    rcases e with rfl | rfl
    · exact .inr (.inl rfl)
    · omega
end
end
end Go.Proofs.YtnddaildicmneaaGreat
/-
  pages: lay.
-/
namespace Go.Proofs.YtnddaildicmneaaGreat
open Go.Proofs Go.RowKit Go.Sort Go.Maps

theorem rdI_cl {w w' : World} {A : Option Addr} {n c : Nat} {g : Option Nat} {L : List Int} (h : recI.Rd w (.slice A n c) g L) (hk : Keeps nowhere w w') {i : Nat} {x : Int} (hx : L[i]? = some x) : ∃ b o, A = some ⟨b, o, none⟩ ∧ w'.cell? ⟨b, o + i, none⟩ = some (.int .i64 x) := by
  obtain ⟨A', c', hv, -, -, -, h3, -⟩ := h.same hk
  injection hv with h1 _ _
  obtain ⟨b, o, hA, -, hc⟩ := h3 (by have := (List.getElem?_eq_some_iff.1 hx).1; omega)
  refine ⟨b, o, h1.trans hA, ?_⟩
  have := hc i x hx 0 (by decide)
  rw [show i * recI.n = i from Nat.mul_one i] at this
  simpa [recI] using this
def ws1 (B : BookV) (next : List Bool) (ks : List Nat) (ch : Nat → List UInt8) : List (Nat × List UInt8) := ks.map fun p => (B.plc p (boolF next p), padL (ch p) B.size)
def ws2 (B : BookV) (next : List Bool) : List (Nat × List UInt8) := (List.range B.T).map fun i => (B.tab (B.gen + 1) + i, chunkL (tabL next (B.T * B.size)) B.size i)
theorem pw_u64 {p : Nat} (h : p < 18446744073709551616) : IntKind.u64.wrap (p : Int) = (p : Int) := by rw [IntKind.wrap_u64]; omega
theorem flat8_len : ∀ l : List Nat, (l.flatMap (nb 8)).length = 8 * l.length
  | [] => rfl
  | x :: l => by rw [List.flatMap_cons, List.length_append, nb_len, flat8_len l, List.length_cons]; omega
theorem out_apart {w : World} {p vb : Nat} {g : Option Nat} {L : List UInt8} {T : TypeId} {cs : Array Value} (h : OutAt w p g L) (hb : Blk w vb T cs) (hT : 5 ≠ T) : g ≠ some vb := by
  obtain ⟨v, h1, h2, rfl⟩ := h
  exact own_blk_ne h2 hb hT
theorem take_snoc' {α : Type} {l : List α} {i : Nat} {x : α} (h : l[i]? = some x) : l.take (i + 1) = l.take i ++ [x] := by
  rw [List.take_add_one, h]; rfl
section
variable {X : Nat → Prop} {w w' W0 wr : World} {s d c cm : Nat} {sv : Value} {ce pe : List EntV} {B : BookV} {S M F : Nat → Prop} {D : DiskV}
set_option maxRecDepth 20000 in
set_option maxHeartbeats 8000000 in
theorem blay_any (A : Option Addr) (N cp : Nat) (next : List Bool) (hk : DK X w d F D) (h : BP X w s d M B) (ap : ∀ k, M k → ¬ F k) (ok : BOk B) (hg : B.gen + 1 < 18446744073709551616) (lok : LOk D 8000) (hz : D.size = B.size)
    (hnx : recBo.Row w (.slice A N cp) next) (hN : N = next.length) (hNp : N = B.pages) (hm : KMap keyI w cm (entI pe)) (hmF : ¬ F cm) (hv : ∀ x ∈ pe, recB.Row w x.2.1 x.2.2) (hp : ∀ x ∈ pe, x.1 < B.pages) (hpl : pe.length ≤ 1024) (hnX : ∀ k, (Value.slice A N cp).ownBlock = some k → ¬ X k) :
    Calls Tryz.prog 28 #[bp s, .slice A N cp, .map (some cm)] w (LayPost X w s d F M B next (D.layV (wsOf B next (ksOf (chOf pe)) (lookL (chOf pe))) (hdOf B))) := by
  obtain ⟨ks, hks⟩ : ∃ ks, ks = ksOf (chOf pe) := ⟨_, rfl⟩
  obtain ⟨ch, hch⟩ : ∃ ch, ch = lookL (chOf pe) := ⟨_, rfl⟩
  obtain ⟨K, hKe⟩ : ∃ K, K = ks.length := ⟨_, rfl⟩
  have hK4 : K ≤ 1024 := by rw [hKe, hks, ks_len]; simpa [chOf] using hpl
  have hksp : ∀ p ∈ ks, p < B.pages := fun p hpp => by
    rw [hks] at hpp
    obtain ⟨L, hL⟩ := ks_mem.1 hpp
    obtain ⟨x, hx, e⟩ := List.mem_map.1 hL
    injection e with e1 _
    rw [← e1]; exact hp x hx
  obtain ⟨r, hr⟩ : ∃ r, r = D.layV (wsOf B next ks ch) (hdOf B) := ⟨_, rfl⟩
  rw [← hks, ← hch, ← hr]
  obtain ⟨q, hq⟩ : ∃ q, q = w.heap.size := ⟨_, rfl⟩
  obtain ⟨w1, hw1⟩ : ∃ w1, w1 = w.alloc (.cells #[.int .i64 0] 26) := ⟨_, rfl⟩
  have hk1 : Keeps nowhere w w1 := by rw [hw1]; exact (Keeps.refl nowhere w).alloc _
  have he1 : Blk w1 q 26 #[.int .i64 0] := by rw [hw1, hq]; exact Blk.new _ _ _
  have hkeys := ikeys_any w1 cm
  have hsort := isorted_any (hm.same hk1) (by simp [entI]; omega)
  rw [srt_ks, ← hks] at hsort
  have fin : ∀ W0, Keeps nowhere w1 W0 → LayAt X w W0 s d q cm F M B next (.slice A N cp) pe := fun W0 hk2 =>
    have hk12 := hk1.more hk2
    ⟨hk12, h.same hk12, ap, (hk.same hk12).notRaw, hk.lt, Blk.keep he1 hk2 (fun h => h), by rw [hq]; exact Nat.le_refl _, hnx.same hk12, hm.same hk12, hmF, fun x hx => (hv x hx).same hk12, hnX⟩
  have hdk : ∀ W0, Keeps nowhere w1 W0 → LayW X W0 W0 d F D := fun W0 hk2 => LayW.start (hk.same (hk1.more hk2))
  have hq1 : w1.heap.size = q + 1 := by rw [hw1, hq]; simp
  clear hk h hnx hm hv hp hpl hk1 he1
  unfold bp
  unfold keysVal at hkeys hsort
  obtain ⟨z, hzz⟩ : ∃ z, z = B.size := ⟨_, rfl⟩
  obtain ⟨P, hP⟩ : ∃ P, P = B.pages := ⟨_, rfl⟩
  have Hkeys := Lib.hid hkeys
  have Hsort := Lib.hid hsort
  have Fin := Lib.hid fin
  have Hdk := Lib.hid hdk
  have Hks := Lib.hid hks
  have Hch := Lib.hid hch
  have HKe := Lib.hid hKe
  have Hw1 := Lib.hid hw1
  have Hq := Lib.hid hq
  have Ap := Lib.hid ap
  have Hz := Lib.hid hz
  have Hksp := Lib.hid hksp
  have Hr := Lib.hid hr
  have Lok := Lib.hid lok
  have HN := Lib.hid hN
  have HNp := Lib.hid hNp
  have Hq1 := Lib.hid hq1
  clear hkeys hsort fin hdk hks hch hKe hw1 hq ap hz hksp hr lok hN hNp hq1
  go_enter_defers Tryz.func28, Tryz.ntmps28
  go_upto_region 2 with fail
  rw [← Hw1.out]
  simp only [← Hq.out]
  go_wp2_with fail
  refine Hkeys.out.mono ?_
  rintro e w2 ⟨rfl, rfl⟩
  go_wp2_with fail
  refine Hsort.out.mono ?_
  rintro e W0 ⟨kv, rfl, hkr, hk0, hkb⟩
  have hL := Fin.out W0 hk0
  have hW := Hdk.out W0 hk0
  obtain ⟨kA, kc, rfl, -⟩ := hkr.form
  have hKl : (ks.map (fun n : Nat => (n : Int))).length = K := by rw [List.length_map]; exact HKe.out.symm
  rw [hKl] at hkr hkb
  rw [hKl]
  have hkF : ∀ k, (Value.slice kA K kc).ownBlock = some k → ¬ F k := fun k e hF => by
    have := hkb k e
    have := hL.Fl k hF
    have := Hq1.out
    have := hL.q0
    have := Hq.out
    omega
  clear hkb hKl
  have HL := Lib.hid hL
  have HW := Lib.hid hW
  have Hkr := Lib.hid hkr
  have Hk0 := Lib.hid hk0
  have HkF := Lib.hid hkF
  clear hL hW hkr hk0 hkF
  go_upto_region 3 with fail
  go_loopw [21] (fun iv wr => ∃ i : Nat, iv = .int .i64 i ∧ i ≤ K ∧ LayW X W0 wr d F (D.writesL ((ws1 B next ks ch).take i)).2 ∧ (D.writesL ((ws1 B next ks ch).take i)).1 = 0) (fun iv _ => K - (intOf iv).toNat)
  case atStart => exact ⟨0, rfl, Nat.zero_le _, HW.out, rfl⟩
  case round =>
    obtain ⟨i, rfl, hi, hw, h0⟩ := hrel
    obtain ⟨Di, hDi⟩ : ∃ Di, Di = (D.writesL ((ws1 B next ks ch).take i)).2 := ⟨_, rfl⟩
    rw [← hDi] at hw
    have hkr' := HL.out.b_ hw.keeps
    by_cases hlt : i < K
    · have hltI : (i : Int) < K := by omega
      have hi1 : IntKind.i64.wrap ((i : Int) + 1) = i + 1 := IntWalk.i64_in _ (by omega)
      obtain ⟨p, hpi⟩ : ∃ p, ks[i]? = some p := ⟨_, List.getElem?_eq_getElem (by rw [← HKe.out]; exact hlt)⟩
      have hpm : p ∈ ks := List.mem_of_getElem? hpi
      have hpP := Hksp.out p hpm
      have hpp : p < 1024 := Nat.lt_of_lt_of_le hpP ok.p1
      obtain ⟨kb, ko, hkA, hkc⟩ := rdI_cl (Hkr.out.keep hw.keeps HkF.out).rd (Keeps.refl nowhere wr) (i := i) (x := (p : Int)) (by simp [hpi])
      subst hkA
      obtain ⟨c, sv, ce, hM, hb, hx⟩ := id hkr'
      have c3 := hb.cell 3
      simp at c3
      have lDi : LOk Di 6000 := by
        rw [hDi]
        exact LOk.writes_ (Lok.out.less (by have : ((ws1 B next ks ch).take i).length ≤ K := by simp [ws1]; omega
                                            omega)) h0
      have h64 := ok.z1
      have h1m := ok.z2
      have Hw := Lib.hid hw
      have H0 := Lib.hid h0
      have HDi := Lib.hid hDi
      have Hkr' := Lib.hid hkr'
      have Hpi := Lib.hid hpi
      have Hpm := Lib.hid hpm
      have Hb := Lib.hid hb
      have LDi := Lib.hid lDi
      clear hw h0 hDi hkr' hpi hpm hb lDi
      go_wp2_with (at_make; refine wpList_make_bytesB _ rfl _ _ rfl B.size (B.size : Int) rfl rfl rfl (by omega) ?_)
      intro w4 hx4 hk4
      obtain ⟨xb, hxb⟩ : ∃ xb, xb = wr.heap.size := ⟨_, rfl⟩
      rw [← hxb] at hx4
      simp only [← hxb]
      have hlr := HL.out.m_ Hw.out.keeps
      obtain ⟨v, hasc, hvr⟩ := look_ent hlr (HL.out.v_ Hw.out.keeps) (p := p) (by rw [← Hks.out]; exact Hpm.out)
      obtain ⟨A1, c1, rfl, -⟩ := hvr.form
      obtain ⟨n1, hn1⟩ : ∃ n1, n1 = (lookL (chOf pe) p).length := ⟨_, rfl⟩
      rw [← hn1] at hasc hvr
      have hlk : ∀ W, Keeps nowhere wr W → (Instr.lookup 61 (.map (some cm)) (.int .i64 (p : Int)) false).run Tryz.prog W = .ok (.slice A1 n1 c1) W := fun W hW => by
        have := (hlr.same hW).look (K := keyI) (t := 61) (e := 33) Tryz.underlying61 (z := .slice none 0 0) (by kernel_rfl) (x := (p : Int)) (wfI_nat p (by omega))
        rw [hasc] at this
        exact this
      have hlk4 := hlk w4 hk4
      have hvr4 := hvr.rd.same hk4
      have hzz0 : 0 < B.size := by omega
      have hxbw : wr.heap.size ≤ xb := by rw [hxb]; exact Nat.le_refl _
      clear hlr hlk hvr hasc
      have Hx4 := Lib.hid hx4
      have Hk4 := Lib.hid hk4
      have Hvr4 := Lib.hid hvr4
      have Hn1 := Lib.hid hn1
      have Hxb := Lib.hid hxb
      have Hxbw := Lib.hid hxbw
      clear hx4 hk4 hvr4 hn1 hxb hxbw
      go_wp2_with (refine wpList_copyP wr _ rfl _ _ rfl xb B.size Hxbw.out hzz0 A1 n1 c1 _ (lookL (chOf pe) p) rfl rfl Hx4.out Hvr4.out Hk4.out ?_)
      intro w5 hx5 hk5
      rw [← Hch.out] at hx5
      obtain ⟨Lx, hLx⟩ : ∃ Lx, Lx = padL (ch p) B.size := ⟨_, rfl⟩
      rw [← hLx] at hx5
      clear Hx4 Hvr4 Hk4 Hn1
      have hw5 := Hw.out.same hk5
      have hbp5 := HL.out.b_ hw5.keeps
      obtain ⟨bo, hbo⟩ : ∃ bo, next[p]? = some bo := ⟨_, List.getElem?_eq_getElem (by have := HN.out; have := HNp.out; omega)⟩
      have hboF : boolF next p = bo := by rw [boolF, hbo]; rfl
      obtain ⟨nb_, no_, hnA, hnc⟩ := rdBo_cl (HL.out.nx_ hw5.keeps).rd (Keeps.refl nowhere w5) hbo
      have q0 : ∀ w', Keeps nowhere w5.drew w' → w'.cell? ⟨s, 0, none⟩ = some (dp d) := fun w' e => by
        obtain ⟨c, sv, ce, -, hb, -⟩ := hbp5.same ((Keeps.refl nowhere w5).drew.more e)
        simpa using hb.cell 0
      unfold dp at q0
      have q9 : ∀ w', Keeps nowhere w5.drew w' → A = some ⟨nb_, no_, none⟩ ∧ w'.cell? ⟨nb_, no_ + p, none⟩ = some (.bool bo) := fun w' e => by
        obtain ⟨b', o', e1, e2⟩ := rdBo_cl (HL.out.nx_ hw5.keeps).rd ((Keeps.refl nowhere w5).drew.more e) hbo
        rw [hnA] at e1
        injection e1 with e1
        injection e1 with e1 e3 _
        subst e1 e3
        exact ⟨hnA, e2⟩
      have q9 := fun w' e => (q9 w' e).2
      subst hnA
      have hpN : (p : Int) < N := by have := HNp.out; omega
      have hp0 : (0 : Int) ≤ (p : Int) := by omega
      have hpl := fun w' (e : Keeps nowhere w5 w') => bplace_any p bo (hbp5.same e) ok hpp
      obtain ⟨pl, hpl_⟩ : ∃ pl, pl = B.plc p bo := ⟨_, rfl⟩
      simp only [← hpl_] at hpl
      have hwr := fun w' (e : Keeps nowhere w5 w') => (hw5.same e).write LDi.out.ok pl (.slice (some ⟨xb, 0, none⟩) B.size B.size) _ Lx (hx5.same e).rd (fun k e2 hn => row_raw (hx5.same e) (.inl rfl) hn e2)
      have hstep : ((ws1 B next ks ch).take (i + 1)) = ((ws1 B next ks ch).take i) ++ [(pl, Lx)] := by
        refine take_snoc' ?_
        simp [ws1, Hpi.out, hboF, hpl_, hLx]
      obtain ⟨code, hcode⟩ : ∃ code, code = (Di.write (pl : Int) Lx).1 := ⟨_, rfl⟩
      unfold bp at hpl
      unfold dp at hwr
      rw [← hcode] at hwr
      clear hbo
      by_cases hc0 : code = 0
      · have hrel1 : (D.writesL ((ws1 B next ks ch).take (i + 1))).1 = 0 := by
          rw [hstep, writesL_snoc H0.out, ← HDi.out]; exact hcode.symm.trans hc0
        have hrel2 : (D.writesL ((ws1 B next ks ch).take (i + 1))).2 = (Di.write (pl : Int) Lx).2 := by
          rw [hstep, writesL_snoc H0.out, ← HDi.out]
        rw [← hrel2, hc0] at hwr
        subst hc0
        clear hcode hrel2 hstep hbp5 hw5 hnc
        have Hrel1 := Lib.hid hrel1
        have Hwr := Lib.hid hwr
        have Hpl := Lib.hid hpl
        have Hx5 := Lib.hid hx5
        have Hk5 := Lib.hid hk5
        have Hpl_ := Lib.hid hpl_
        have HboF := Lib.hid hboF
        have HLx := Lib.hid hLx
        clear hrel1 hwr hpl hx5 hk5 hpl_ hboF hLx
        go_wp2_with fail
        refine wp_region_script [0, 1, 2, 3, 4, 5, 6, 7, 8, 9, 11] [3, 9] [.ps [0, 1, 2], .fs [3], .ps [4, 5, 6, 7, 8], .fs [9], .ps [11], .es [10] true, .es [12, 13] false] (Keeps nowhere w5.drew) rfl (by kernel_rfl) ?_
        refine wpS_ps rfl fun K hK => ?_
        simp only [List.map_cons, List.map_nil, Option.getD_some, List.getElem?_toArray, List.getElem?_cons_zero, List.getElem?_cons_succ]
        iterate 3 (first | (apply quietO_cons _ rfl; (intro w' _; go_simp; rfl)) | apply quietO_skip rfl)
        refine hK _ ?_
        clear hK K
        simp only [Act.put, List.setIfInBounds_toArray, List.set_cons_zero, List.set_cons_succ]
        refine wpS_fs rfl (Keeps.refl _ _) fun K hK => ?_
        simp only [List.map_cons, List.map_nil, Option.getD_some, List.getElem?_toArray, List.getElem?_cons_zero, List.getElem?_cons_succ]
        iterate 1 (first | (apply quietO_cons _ rfl; (intro w' hs; have c_0 := q0 w' hs; go_simp; rfl)) | apply quietO_skip rfl)
        refine hK _ ?_
        clear hK K
        simp only [Act.put, List.setIfInBounds_toArray, List.set_cons_zero, List.set_cons_succ]
        refine wpS_ps rfl fun K hK => ?_
        simp only [List.map_cons, List.map_nil, Option.getD_some, List.getElem?_toArray, List.getElem?_cons_zero, List.getElem?_cons_succ]
        iterate 5 (first | (apply quietO_cons _ rfl; (intro w' _; go_simp; rfl)) | apply quietO_skip rfl)
        refine hK _ ?_
        clear hK K
        simp only [Act.put, List.setIfInBounds_toArray, List.set_cons_zero, List.set_cons_succ]
        refine wpS_fs rfl (Keeps.refl _ _) fun K hK => ?_
        simp only [List.map_cons, List.map_nil, Option.getD_some, List.getElem?_toArray, List.getElem?_cons_zero, List.getElem?_cons_succ]
        iterate 1 (first | (apply quietO_cons _ rfl; (intro w' hs; have c_0 := q9 w' hs; go_simp; rfl)) | apply quietO_skip rfl)
        refine hK _ ?_
        clear hK K
        simp only [Act.put, List.setIfInBounds_toArray, List.set_cons_zero, List.set_cons_succ]
        refine wpS_ps rfl fun K hK => ?_
        simp only [List.map_cons, List.map_nil, Option.getD_some, List.getElem?_toArray, List.getElem?_cons_zero, List.getElem?_cons_succ]
        iterate 1 (first | (apply quietO_cons _ rfl; (intro w' _; go_simp; rfl)) | apply quietO_skip rfl)
        refine hK _ ?_
        clear hK K
        simp only [Act.put, List.setIfInBounds_toArray, List.set_cons_zero, List.set_cons_succ]
        refine wpS_es rfl fun K hK => ?_
        have HK := Lib.hid hK
        clear hK
        simp only [List.map_cons, List.map_nil, Option.getD_some, List.getElem?_toArray, List.getElem?_cons_zero, List.getElem?_cons_succ]
        go_wp2_with fail
        refine (Hpl.out _ (Keeps.refl nowhere w5).drew).mono ?_
        rintro e w6 ⟨rfl, hk6⟩
        go_wp2_with fail
        refine HK.out _ _ (fun _ => hk6) ?_
        clear HK K
        refine wpS_es rfl fun K hK => ?_
        have HK := Lib.hid hK
        clear hK
        simp only [List.map_cons, List.map_nil, Option.getD_some, List.getElem?_toArray, List.getElem?_cons_zero, List.getElem?_cons_succ]
        go_wp2_with fail
        refine (Hwr.out w6 ((Keeps.refl nowhere w5).drew.more hk6)).mono ?_
        rintro e w7 ⟨rfl, hw7⟩
        go_wp2_with fail
        refine (must_ok w7).mono ?_
        rintro e w8 ⟨rfl, rfl⟩
        go_wp2_with fail
        refine HK.out _ _ (fun h => by cases h) ?_
        clear HK K
        refine wpS_nil ?_
        go_wp2_with fail
        go_roundw
        case rel => exact ⟨i + 1, by simp, by omega, hw7, Hrel1.out⟩
        case measure => simp [intOf]; omega
      · have hfl : r.2 = (Di.write (pl : Int) Lx).2 ∧ r.1 = code := by
          have e1 : wsOf B next ks ch = ((ws1 B next ks ch).take i) ++ (pl, Lx) :: ((ws1 B next ks ch).drop (i + 1) ++ ws2 B next) := by
            show ws1 B next ks ch ++ ws2 B next = _
            have : ws1 B next ks ch = (ws1 B next ks ch).take (i + 1) ++ (ws1 B next ks ch).drop (i + 1) := (List.take_append_drop _ _).symm
            rw [hstep] at this
            conv => lhs; rw [this]
            simp
          have e2 : D.writesL (wsOf B next ks ch) = Di.write (pl : Int) Lx := by
            rw [e1, writesL_stop H0.out (by rw [← HDi.out, ← hcode]; exact hc0), ← HDi.out]
          rw [Hr.out]
          unfold DiskV.layV
          rw [e2, if_neg (by rw [← hcode]; exact hc0)]
          exact ⟨rfl, hcode.symm⟩
        clear hcode hstep hbp5 hw5 hnc
        have Hwr := Lib.hid hwr
        have Hpl := Lib.hid hpl
        have Hx5 := Lib.hid hx5
        have Hk5 := Lib.hid hk5
        have Hpl_ := Lib.hid hpl_
        have HboF := Lib.hid hboF
        have HLx := Lib.hid hLx
        have Hfl := Lib.hid hfl
        clear hwr hpl hx5 hk5 hpl_ hboF hLx hfl
        go_wp2_with fail
        refine wp_region_script_k [0, 1, 2, 3, 4, 5, 6, 7, 8, 9, 11] [3, 9] [.ps [0, 1, 2], .fs [3], .ps [4, 5, 6, 7, 8], .fs [9], .ps [11], .es [10] true, .es [12, 13] false] (Keeps nowhere w5.drew) rfl 6 6
          (fun ch x y ds w' => ch = [{ v := .iface 26 (.int .i64 code), recovered := false }] ∧ LayW X W0 w' d F (Di.write (pl : Int) Lx).2 ∧ x = .pointer (some ⟨q, 0, none⟩) ∧
            ds = [{ target := .fn (.func 45) #[], args := #[.pointer (some ⟨q, 0, none⟩)] }]) (by kernel_rfl) (by kernel_rfl) ?_ ?_
        · rintro chn ⟨tm, df⟩ w' ⟨rfl, hlw, h4, hd⟩
          simp only at h4 hd
          subst hd
          have hfin := HL.out.fail hlw Hfl.out.1 (by rw [Hfl.out.2]; exact hc0)
          rw [Hfl.out.2] at hfin
          have hq5 := HL.out.e_ hlw.keeps
          have d0 : (w'.setCell ⟨q, 0, none⟩ (.int .i64 code)).cell? ⟨q, 0, none⟩ = some (.int .i64 code) := by simpa using (hq5.set_ 0 (.int .i64 code)).cell 0
          refine leaves_cons (f := 45) (args := #[.pointer (some ⟨q, 0, none⟩)]) (by simp) (by simp [go_sem]) ?_
          refine (bcaught_panic q code 0 [] w' hq5).mono ?_
          rintro e u' w'' ⟨rfl, rfl, rfl⟩
          rw [Array.getD_eq_getD_getElem?] at h4
          simp [Leaves, settle, results, Tryz.results28, go_sem, h4, d0]
          exact hfin
        refine wpS_ps rfl fun K hK => ?_
        simp only [List.map_cons, List.map_nil, Option.getD_some, List.getElem?_toArray, List.getElem?_cons_zero, List.getElem?_cons_succ]
        iterate 3 (first | (apply quietO_cons _ rfl; (intro w' _; go_simp; rfl)) | apply quietO_skip rfl)
        refine hK _ ?_
        clear hK K
        simp only [Act.put, List.setIfInBounds_toArray, List.set_cons_zero, List.set_cons_succ]
        refine wpS_fs rfl (Keeps.refl _ _) fun K hK => ?_
        simp only [List.map_cons, List.map_nil, Option.getD_some, List.getElem?_toArray, List.getElem?_cons_zero, List.getElem?_cons_succ]
        iterate 1 (first | (apply quietO_cons _ rfl; (intro w' hs; have c_0 := q0 w' hs; go_simp; rfl)) | apply quietO_skip rfl)
        refine hK _ ?_
        clear hK K
        simp only [Act.put, List.setIfInBounds_toArray, List.set_cons_zero, List.set_cons_succ]
        refine wpS_ps rfl fun K hK => ?_
        simp only [List.map_cons, List.map_nil, Option.getD_some, List.getElem?_toArray, List.getElem?_cons_zero, List.getElem?_cons_succ]
        iterate 5 (first | (apply quietO_cons _ rfl; (intro w' _; go_simp; rfl)) | apply quietO_skip rfl)
        refine hK _ ?_
        clear hK K
        simp only [Act.put, List.setIfInBounds_toArray, List.set_cons_zero, List.set_cons_succ]
        refine wpS_fs rfl (Keeps.refl _ _) fun K hK => ?_
        simp only [List.map_cons, List.map_nil, Option.getD_some, List.getElem?_toArray, List.getElem?_cons_zero, List.getElem?_cons_succ]
        iterate 1 (first | (apply quietO_cons _ rfl; (intro w' hs; have c_0 := q9 w' hs; go_simp; rfl)) | apply quietO_skip rfl)
        refine hK _ ?_
        clear hK K
        simp only [Act.put, List.setIfInBounds_toArray, List.set_cons_zero, List.set_cons_succ]
        refine wpS_ps rfl fun K hK => ?_
        simp only [List.map_cons, List.map_nil, Option.getD_some, List.getElem?_toArray, List.getElem?_cons_zero, List.getElem?_cons_succ]
        iterate 1 (first | (apply quietO_cons _ rfl; (intro w' _; go_simp; rfl)) | apply quietO_skip rfl)
        refine hK _ ?_
        clear hK K
        simp only [Act.put, List.setIfInBounds_toArray, List.set_cons_zero, List.set_cons_succ]
        refine wpS_es rfl fun K hK => ?_
        have HK := Lib.hid hK
        clear hK
        simp only [List.map_cons, List.map_nil, Option.getD_some, List.getElem?_toArray, List.getElem?_cons_zero, List.getElem?_cons_succ]
        go_wp2_with fail
        refine (Hpl.out _ (Keeps.refl nowhere w5).drew).mono ?_
        rintro e w6 ⟨rfl, hk6⟩
        go_wp2_with fail
        refine HK.out _ _ (fun _ => hk6) ?_
        clear HK K
        refine wpS_es rfl fun K hK => ?_
        have HK := Lib.hid hK
        clear hK
        simp only [List.map_cons, List.map_nil, Option.getD_some, List.getElem?_toArray, List.getElem?_cons_zero, List.getElem?_cons_succ]
        go_wp2_with fail
        refine (Hwr.out w6 ((Keeps.refl nowhere w5).drew.more hk6)).mono ?_
        rintro e w7 ⟨rfl, hw7⟩
        go_wp2_with fail
        refine (must_bad code hc0 w7).mono ?_
        rintro e w8 ⟨rfl, rfl⟩
        exact ⟨rfl, hw7, rfl, rfl⟩
    · obtain rfl : i = K := by omega
      have htk : (ws1 B next ks ch).take i = ws1 B next ks ch := List.take_of_length_le (by simp [ws1]; have := HKe.out; omega)
      rw [htk] at h0 hDi
      have lDi : LOk Di 6000 := by
        rw [hDi]
        exact LOk.writes_ (Lok.out.less (by have : (ws1 B next ks ch).length = i := by simp [ws1]; exact HKe.out.symm
                                            omega)) h0
      have hbp := HL.out.b_ hw.keeps
      have hnr := (HL.out.nx_ hw.keeps).rd
      have q4 : ∀ w', Keeps nowhere wr.drew w' → w'.cell? ⟨s, 4, none⟩ = some (.int .u64 B.gen) := fun w' e => by
        obtain ⟨c, sv, ce, -, hb, -⟩ := hbp.same ((Keeps.refl nowhere wr).drew.more e)
        simpa using hb.cell 4
      have hbm := fun w' (e : Keeps nowhere wr w') => bbitmap_any A N cp _ next (hbp.same e) ok (hnr.same e) HN.out (by rw [HNp.out]; exact Nat.le_refl _)
      have hgw : IntKind.u64.wrap ((B.gen : Int) + 1) = ((B.gen + 1 : Nat) : Int) := by rw [IntKind.wrap_u64]; omega
      obtain ⟨G, hG⟩ : ∃ G, G = B.gen + 1 := ⟨_, rfl⟩
      obtain ⟨n, hn⟩ : ∃ n, n = B.T * B.size := ⟨_, rfl⟩
      rw [← hG] at hgw
      rw [← hn] at hbm
      unfold bp at hbm
      have Hw := Lib.hid hw
      have H0 := Lib.hid h0
      have HDi := Lib.hid hDi
      have LDi := Lib.hid lDi
      have Hbp := Lib.hid hbp
      have Hnr := Lib.hid hnr
      have Hbm := Lib.hid hbm
      have HG := Lib.hid hG
      have Hn := Lib.hid hn
      have Htk := Lib.hid htk
      clear hw h0 hDi lDi hbp hnr hbm hG hn htk
      go_wp2_with fail
      refine wp_region_script [0, 1, 2, 3, 4, 5, 6, 7, 9, 10] [4] [.ps [0, 1, 2, 3], .fs [4], .ps [5, 6, 7], .es [8] true, .ps [9, 10]] (Keeps nowhere wr.drew) rfl (by kernel_rfl) ?_
      refine wpS_ps rfl fun K hK => ?_
      simp only [List.map_cons, List.map_nil, Option.getD_some, List.getElem?_toArray, List.getElem?_cons_zero, List.getElem?_cons_succ]
      iterate 4 (first | (apply quietO_cons _ rfl; (intro w' _; go_simp; rfl)) | apply quietO_skip rfl)
      refine hK _ ?_
      clear hK K
      simp only [Act.put, List.setIfInBounds_toArray, List.set_cons_zero, List.set_cons_succ]
      refine wpS_fs rfl (Keeps.refl _ _) fun K hK => ?_
      simp only [List.map_cons, List.map_nil, Option.getD_some, List.getElem?_toArray, List.getElem?_cons_zero, List.getElem?_cons_succ]
      iterate 1 (first | (apply quietO_cons _ rfl; (intro w' hs; have c_0 := q4 w' hs; go_simp; rfl)) | apply quietO_skip rfl)
      refine hK _ ?_
      clear hK K
      simp only [Act.put, List.setIfInBounds_toArray, List.set_cons_zero, List.set_cons_succ]
      refine wpS_ps rfl fun K hK => ?_
      simp only [List.map_cons, List.map_nil, Option.getD_some, List.getElem?_toArray, List.getElem?_cons_zero, List.getElem?_cons_succ]
      iterate 3 (first | (apply quietO_cons _ rfl; (intro w' _; go_simp; rfl)) | apply quietO_skip rfl)
      refine hK _ ?_
      clear hK K
      simp only [Act.put, List.setIfInBounds_toArray, List.set_cons_zero, List.set_cons_succ]
      refine wpS_es rfl fun K hK => ?_
      have HK := Lib.hid hK
      clear hK
      simp only [List.map_cons, List.map_nil, Option.getD_some, List.getElem?_toArray, List.getElem?_cons_zero, List.getElem?_cons_succ]
      go_wp2_with fail
      refine (Hbm.out _ (Keeps.refl nowhere wr).drew).mono ?_
      rintro e w5 ⟨bq, rfl, hbr, hbq, hk5⟩
      go_wp2_with fail
      refine HK.out _ _ (fun _ => hk5) ?_
      clear HK K
      refine wpS_ps rfl fun K hK => ?_
      simp only [List.map_cons, List.map_nil, Option.getD_some, List.getElem?_toArray, List.getElem?_cons_zero, List.getElem?_cons_succ]
      iterate 2 (first | (apply quietO_cons _ rfl; (intro w' _; go_simp; rfl)) | apply quietO_skip rfl)
      refine hK _ ?_
      clear hK K
      simp only [Act.put, List.setIfInBounds_toArray, List.set_cons_zero, List.set_cons_succ]
      refine wpS_nil ?_
      have hk05 := (Keeps.refl nowhere wr).drew.more hk5
      have hw5 := Hw.out.same hk05
      have htb := btables_any (Hbp.out.same hk05) ok
      unfold bp at htb
      obtain ⟨T, hT⟩ : ∃ T, T = B.T := ⟨_, rfl⟩
      rw [← hT] at htb
      have hTl : T ≤ 1024 := by rw [hT]; exact T_le ok
      clear hk5 hk05 q4
      have Hbr := Lib.hid hbr
      have Hbq := Lib.hid hbq
      have Hw5 := Lib.hid hw5
      have Htb := Lib.hid htb
      have HT := Lib.hid hT
      clear hbr hbq hw5 htb hT
      go_wp2_with fail
      refine Htb.out.mono ?_
      rintro e w6 ⟨rfl, hk6⟩
      have hw6 := Hw5.out.same hk6
      have hbr6 := Hbr.out.same hk6
      obtain ⟨W1, hW1⟩ : ∃ W1, W1 = wr := ⟨_, rfl⟩
      subst hW1
      have Hw6 := Lib.hid hw6
      have Hbr6 := Lib.hid hbr6
      have Hk6 := Lib.hid hk6
      clear hw6 hbr6 hk6
      go_upto_region 11 with fail
      go_loopw [61] (fun iv wr => ∃ j : Nat, iv = .int .i64 j ∧ j ≤ T ∧ LayW X W0 wr d F (D.writesL (ws1 B next ks ch ++ (ws2 B next).take j)).2 ∧ (D.writesL (ws1 B next ks ch ++ (ws2 B next).take j)).1 = 0 ∧ recB.Row wr (.slice (some ⟨bq, 0, none⟩) n n) (tabL next n)) (fun iv _ => T - (intOf iv).toNat)
      case atStart => exact ⟨0, rfl, Nat.zero_le _, by rw [List.take_zero, List.append_nil, ← HDi.out]; exact Hw6.out, by rw [List.take_zero, List.append_nil]; exact H0.out, Hbr6.out⟩
      case round =>
        obtain ⟨j, rfl, hj, hw, h0, hb⟩ := hrel
        obtain ⟨Dj, hDj⟩ : ∃ Dj, Dj = (D.writesL (ws1 B next ks ch ++ (ws2 B next).take j)).2 := ⟨_, rfl⟩
        rw [← hDj] at hw
        have lDj : LOk Dj 4000 := by
          rw [hDj]
          exact LOk.writes_ (Lok.out.less (by have : (ws1 B next ks ch ++ (ws2 B next).take j).length ≤ i + j := by simp [ws1, ws2]; have := HKe.out; omega
                                              omega)) h0
        have hbp := HL.out.b_ hw.keeps
        by_cases hlt : j < T
        · have hltI : (j : Int) < T := by omega
          have hj1 : IntKind.i64.wrap ((j : Int) + 1) = j + 1 := IntWalk.i64_in _ (by omega)
          obtain ⟨z, hz⟩ : ∃ z, z = B.size := ⟨_, rfl⟩
          have hz1 := ok.z1
          have hz2 := ok.z2
          rw [← hz] at hz1 hz2
          have hnT : n = T * z := by rw [Hn.out, HT.out, hz]
          obtain ⟨lo, hlo⟩ : ∃ lo, lo = j * z := ⟨_, rfl⟩
          have hmono : (j + 1) * z ≤ T * z := Nat.mul_le_mul_right _ (by omega)
          have hmono2 : T * z ≤ 1024 * 1000000 := Nat.mul_le_mul hTl hz2
          rw [Nat.succ_mul, ← hlo, ← hnT] at hmono
          rw [← hnT] at hmono2
          have e1 : IntKind.i64.wrap ((j : Int) * z) = (lo : Int) := by rw [← Int.natCast_mul, ← hlo]; exact IntWalk.i64_in _ (by omega)
          have e2 : IntKind.i64.wrap (((j : Int) + 1) * z) = ((lo + z : Nat) : Int) := by
            rw [show ((j : Int) + 1) * z = (((j + 1) * z : Nat) : Int) by simp, Nat.succ_mul, ← hlo]; exact IntWalk.i64_in _ (by omega)
          obtain ⟨hi_, hhi⟩ : ∃ h, h = lo + z := ⟨_, rfl⟩
          rw [← hhi] at e2 hmono
          have s1 : (0 : Int) ≤ (lo : Int) := by omega
          have s2 : (lo : Int) ≤ (hi_ : Int) := by omega
          have s3 : (hi_ : Int) ≤ (n : Int) := by omega
          have s4 : ¬ n = lo := by omega
          have s5 : hi_ - lo = z := by omega
          have s6 : lo ≤ hi_ := by omega
          have q0 : ∀ w', Keeps nowhere wr.drew w' → w'.cell? ⟨s, 0, none⟩ = some (dp d) := fun w' e => by
            obtain ⟨c, sv, ce, -, hb, -⟩ := hbp.same ((Keeps.refl nowhere wr).drew.more e)
            simpa using hb.cell 0
          unfold dp at q0
          have q3 : ∀ w', Keeps nowhere wr.drew w' → w'.cell? ⟨s, 3, none⟩ = some (.int .i64 z) := fun w' e => by
            obtain ⟨c, sv, ce, -, hb, -⟩ := hbp.same ((Keeps.refl nowhere wr).drew.more e)
            rw [hz]
            simpa using hb.cell 3
          have htb := fun w' (e : Keeps nowhere wr w') => btable_any G (hbp.same e) ok (by rw [HG.out]; exact hg)
          obtain ⟨tb, htbe⟩ : ∃ tb, tb = B.tab G := ⟨_, rfl⟩
          rw [← htbe] at htb
          have htbl : tb ≤ 1100000 := by
            have h1 := ok.n1
            have h2 := T_le ok
            have h3 : G % 2 * B.T ≤ 1 * B.T := Nat.mul_le_mul_right _ (by omega)
            have h4 : tb = B.a + 2 + G % 2 * B.T := htbe
            omega
          have e3 : IntKind.i64.wrap ((tb : Int) + j) = ((tb + j : Nat) : Int) := by rw [IntWalk.i64_in _ (by omega)]; omega
          obtain ⟨sec, hsec⟩ : ∃ sec, sec = tb + j := ⟨_, rfl⟩
          rw [← hsec] at e3
          unfold bp at htb
          have hck : recB.Rd wr (.slice (some ⟨bq, lo, none⟩) z (n - lo)) (some bq) (chunkL (tabL next n) z j) := by
            have h1 := hb.rd
            have h2 := (RecT.Rd.drop h1 lo (by rw [tabL_len]; omega)).take z (by rw [List.length_drop, tabL_len]; omega)
            unfold chunkL
            rw [← hlo]
            have e : 0 + lo * recB.n = lo := by rw [Nat.zero_add]; exact Nat.mul_one _
            rw [e] at h2
            exact h2
          obtain ⟨Lc, hLc⟩ : ∃ Lc, Lc = chunkL (tabL next n) z j := ⟨_, rfl⟩
          rw [← hLc] at hck
          have hstep : (ws1 B next ks ch ++ (ws2 B next).take (j + 1)) = (ws1 B next ks ch ++ (ws2 B next).take j) ++ [(sec, Lc)] := by
            rw [take_snoc' (l := ws2 B next) (i := j) (x := (sec, Lc)), List.append_assoc]
            have hjT : j < B.T := by rw [← HT.out]; exact hlt
            simp [ws2, hjT, hsec, htbe, HG.out, hLc, Hn.out, hz]
          obtain ⟨code, hcode⟩ : ∃ code, code = (Dj.write (sec : Int) Lc).1 := ⟨_, rfl⟩
          have hwr := fun w' (e : Keeps nowhere wr w') => (hw.same e).writeR lDj.ok sec (.slice (some ⟨bq, lo, none⟩) z (n - lo)) _ Lc (hck.same e) (fun k e2 hn => row_raw (hb.same e) (.inl rfl) hn e2) (hb.same e)
          unfold dp at hwr
          rw [← hcode] at hwr
          by_cases hc0 : code = 0
          · have hrel1 : (D.writesL (ws1 B next ks ch ++ (ws2 B next).take (j + 1))).1 = 0 := by
              rw [hstep, writesL_snoc h0, ← hDj]; exact hcode.symm.trans hc0
            have hrel2 : (D.writesL (ws1 B next ks ch ++ (ws2 B next).take (j + 1))).2 = (Dj.write (sec : Int) Lc).2 := by
              rw [hstep, writesL_snoc h0, ← hDj]
            rw [← hrel2, hc0] at hwr
            subst hc0
            clear hcode hrel2 hstep hck hLc hmono2 htbl
            have Hrel1 := Lib.hid hrel1
            have Hwr := Lib.hid hwr
            have Htb := Lib.hid htb
            have Hlo := Lib.hid hlo
            have Hhi := Lib.hid hhi
            have Hsec := Lib.hid hsec
            have Htbe := Lib.hid htbe
            have Hbp := Lib.hid hbp
            have Hb := Lib.hid hb
            have Hw := Lib.hid hw
            have H0 := Lib.hid h0
            have HDj := Lib.hid hDj
            have LDj := Lib.hid lDj
            have Hz := Lib.hid hz
            have HnT := Lib.hid hnT
            have Hmono := Lib.hid hmono
            clear hrel1 hwr htb hlo hhi hsec htbe hbp hb hw h0 hDj lDj hz hnT hmono
            go_wp2_with fail
            refine wp_region_script [0, 1, 2, 3, 4, 5, 7, 8, 9, 10, 11, 12, 13, 14, 15, 16, 17, 18, 19, 20, 21, 22, 23] [3, 14, 21] [.ps [0, 1, 2], .fs [3], .ps [4, 5, 7, 9, 10, 11, 12, 13], .fs [14], .ps [15, 16, 17, 18, 19, 20], .fs [21], .ps [22, 23], .es [6] true, .ps [8], .es [24, 25] false] (Keeps nowhere wr.drew) rfl (by kernel_rfl) ?_
            refine wpS_ps rfl fun K hK => ?_
            simp only [List.map_cons, List.map_nil, Option.getD_some, List.getElem?_toArray, List.getElem?_cons_zero, List.getElem?_cons_succ]
            iterate 3 (first | (apply quietO_cons _ rfl; (intro w' _; go_simp; rfl)) | apply quietO_skip rfl)
            refine hK _ ?_
            clear hK K
            simp only [Act.put, List.setIfInBounds_toArray, List.set_cons_zero, List.set_cons_succ]
            refine wpS_fs rfl (Keeps.refl _ _) fun K hK => ?_
            simp only [List.map_cons, List.map_nil, Option.getD_some, List.getElem?_toArray, List.getElem?_cons_zero, List.getElem?_cons_succ]
            iterate 1 (first | (apply quietO_cons _ rfl; (intro w' hs; have c_0 := q0 w' hs; go_simp; rfl)) | apply quietO_skip rfl)
            refine hK _ ?_
            clear hK K
            simp only [Act.put, List.setIfInBounds_toArray, List.set_cons_zero, List.set_cons_succ]
            refine wpS_ps rfl fun K hK => ?_
            simp only [List.map_cons, List.map_nil, Option.getD_some, List.getElem?_toArray, List.getElem?_cons_zero, List.getElem?_cons_succ]
            iterate 8 (first | (apply quietO_cons _ rfl; (intro w' _; go_simp; rfl)) | apply quietO_skip rfl)
            refine hK _ ?_
            clear hK K
            simp only [Act.put, List.setIfInBounds_toArray, List.set_cons_zero, List.set_cons_succ]
            refine wpS_fs rfl (Keeps.refl _ _) fun K hK => ?_
            simp only [List.map_cons, List.map_nil, Option.getD_some, List.getElem?_toArray, List.getElem?_cons_zero, List.getElem?_cons_succ]
            iterate 1 (first | (apply quietO_cons _ rfl; (intro w' hs; have c_0 := q3 w' hs; go_simp; rfl)) | apply quietO_skip rfl)
            refine hK _ ?_
            clear hK K
            simp only [Act.put, List.setIfInBounds_toArray, List.set_cons_zero, List.set_cons_succ]
            refine wpS_ps rfl fun K hK => ?_
            simp only [List.map_cons, List.map_nil, Option.getD_some, List.getElem?_toArray, List.getElem?_cons_zero, List.getElem?_cons_succ]
            iterate 6 (first | (apply quietO_cons _ rfl; (intro w' _; go_simp; rfl)) | apply quietO_skip rfl)
            refine hK _ ?_
            clear hK K
            simp only [Act.put, List.setIfInBounds_toArray, List.set_cons_zero, List.set_cons_succ]
            refine wpS_fs rfl (Keeps.refl _ _) fun K hK => ?_
            simp only [List.map_cons, List.map_nil, Option.getD_some, List.getElem?_toArray, List.getElem?_cons_zero, List.getElem?_cons_succ]
            iterate 1 (first | (apply quietO_cons _ rfl; (intro w' hs; have c_0 := q3 w' hs; go_simp; rfl)) | apply quietO_skip rfl)
            refine hK _ ?_
            clear hK K
            simp only [Act.put, List.setIfInBounds_toArray, List.set_cons_zero, List.set_cons_succ]
            refine wpS_ps rfl fun K hK => ?_
            simp only [List.map_cons, List.map_nil, Option.getD_some, List.getElem?_toArray, List.getElem?_cons_zero, List.getElem?_cons_succ]
            iterate 2 (first | (apply quietO_cons _ rfl; (intro w' _; go_simp; rfl)) | apply quietO_skip rfl)
            refine hK _ ?_
            clear hK K
            simp only [Act.put, List.setIfInBounds_toArray, List.set_cons_zero, List.set_cons_succ]
            refine wpS_es rfl fun K hK => ?_
            have HK := Lib.hid hK
            clear hK
            simp only [List.map_cons, List.map_nil, Option.getD_some, List.getElem?_toArray, List.getElem?_cons_zero, List.getElem?_cons_succ]
            go_wp2_with fail
            refine (Htb.out _ (Keeps.refl nowhere wr).drew).mono ?_
            rintro e w6 ⟨rfl, hk6⟩
            go_wp2_with fail
            refine HK.out _ _ (fun _ => hk6) ?_
            clear HK K
            refine wpS_ps rfl fun K hK => ?_
            simp only [List.map_cons, List.map_nil, Option.getD_some, List.getElem?_toArray, List.getElem?_cons_zero, List.getElem?_cons_succ]
            iterate 1 (first | (apply quietO_cons _ rfl; (intro w' _; go_simp; rfl)) | apply quietO_skip rfl)
            refine hK _ ?_
            clear hK K
            simp only [Act.put, List.setIfInBounds_toArray, List.set_cons_zero, List.set_cons_succ]
            refine wpS_es rfl fun K hK => ?_
            have HK := Lib.hid hK
            clear hK
            simp only [List.map_cons, List.map_nil, Option.getD_some, List.getElem?_toArray, List.getElem?_cons_zero, List.getElem?_cons_succ]
            go_wp2_with fail
            refine (Hwr.out w6 ((Keeps.refl nowhere wr).drew.more hk6)).mono ?_
            rintro e w7 ⟨rfl, hw7, hb7⟩
            go_wp2_with fail
            refine (must_ok w7).mono ?_
            rintro e w8 ⟨rfl, rfl⟩
            go_wp2_with fail
            refine HK.out _ _ (fun h => by cases h) ?_
            clear HK K
            refine wpS_nil ?_
            go_wp2_with fail
            go_roundw
            case rel => exact ⟨j + 1, by simp, by omega, hw7, Hrel1.out, hb7⟩
            case measure => simp [intOf]; omega
          · have hfl : r.2 = (Dj.write (sec : Int) Lc).2 ∧ r.1 = code := by
              have e1 : wsOf B next ks ch = (ws1 B next ks ch ++ (ws2 B next).take j) ++ (sec, Lc) :: (ws2 B next).drop (j + 1) := by
                show ws1 B next ks ch ++ ws2 B next = _
                have : ws2 B next = (ws2 B next).take (j + 1) ++ (ws2 B next).drop (j + 1) := (List.take_append_drop _ _).symm
                have hstep2 := congrArg (· ++ (ws2 B next).drop (j + 1)) hstep
                simp only [List.append_assoc] at hstep2
                conv => lhs; rw [this]
                rw [hstep2]
                simp
              have e2 : D.writesL (wsOf B next ks ch) = Dj.write (sec : Int) Lc := by
                rw [e1, writesL_stop h0 (by rw [← hDj, ← hcode]; exact hc0), ← hDj]
              rw [Hr.out]
              unfold DiskV.layV
              rw [e2, if_neg (by rw [← hcode]; exact hc0)]
              exact ⟨rfl, hcode.symm⟩
            clear hcode hstep hck hLc hmono2 htbl
            have Hfl := Lib.hid hfl
            have Hwr := Lib.hid hwr
            have Htb := Lib.hid htb
            have Hlo := Lib.hid hlo
            have Hhi := Lib.hid hhi
            have Hsec := Lib.hid hsec
            have Htbe := Lib.hid htbe
            have Hbp := Lib.hid hbp
            have Hb := Lib.hid hb
            have Hw := Lib.hid hw
            have H0 := Lib.hid h0
            have HDj := Lib.hid hDj
            have LDj := Lib.hid lDj
            have Hz := Lib.hid hz
            have HnT := Lib.hid hnT
            have Hmono := Lib.hid hmono
            clear hfl hwr htb hlo hhi hsec htbe hbp hb hw h0 hDj lDj hz hnT hmono
            go_wp2_with fail
            refine wp_region_script_k [0, 1, 2, 3, 4, 5, 7, 8, 9, 10, 11, 12, 13, 14, 15, 16, 17, 18, 19, 20, 21, 22, 23] [3, 14, 21] [.ps [0, 1, 2], .fs [3], .ps [4, 5, 7, 9, 10, 11, 12, 13], .fs [14], .ps [15, 16, 17, 18, 19, 20], .fs [21], .ps [22, 23], .es [6] true, .ps [8], .es [24, 25] false] (Keeps nowhere wr.drew) rfl 6 6
              (fun ch x y ds w' => ch = [{ v := .iface 26 (.int .i64 code), recovered := false }] ∧ LayW X W0 w' d F (Dj.write (sec : Int) Lc).2 ∧ x = .pointer (some ⟨q, 0, none⟩) ∧
                ds = [{ target := .fn (.func 45) #[], args := #[.pointer (some ⟨q, 0, none⟩)] }]) (by kernel_rfl) (by kernel_rfl) ?_ ?_
            · rintro chn ⟨tm, df⟩ w' ⟨rfl, hlw, h4, hd⟩
              simp only at h4 hd
              subst hd
              have hfin := HL.out.fail hlw Hfl.out.1 (by rw [Hfl.out.2]; exact hc0)
              rw [Hfl.out.2] at hfin
              have hq5 := HL.out.e_ hlw.keeps
              have d0 : (w'.setCell ⟨q, 0, none⟩ (.int .i64 code)).cell? ⟨q, 0, none⟩ = some (.int .i64 code) := by simpa using (hq5.set_ 0 (.int .i64 code)).cell 0
              refine leaves_cons (f := 45) (args := #[.pointer (some ⟨q, 0, none⟩)]) (by simp) (by simp [go_sem]) ?_
              refine (bcaught_panic q code 0 [] w' hq5).mono ?_
              rintro e u' w'' ⟨rfl, rfl, rfl⟩
              rw [Array.getD_eq_getD_getElem?] at h4
              simp [Leaves, settle, results, Tryz.results28, go_sem, h4, d0]
              exact hfin
            refine wpS_ps rfl fun K hK => ?_
            simp only [List.map_cons, List.map_nil, Option.getD_some, List.getElem?_toArray, List.getElem?_cons_zero, List.getElem?_cons_succ]
            iterate 3 (first | (apply quietO_cons _ rfl; (intro w' _; go_simp; rfl)) | apply quietO_skip rfl)
            refine hK _ ?_
            clear hK K
            simp only [Act.put, List.setIfInBounds_toArray, List.set_cons_zero, List.set_cons_succ]
            refine wpS_fs rfl (Keeps.refl _ _) fun K hK => ?_
            simp only [List.map_cons, List.map_nil, Option.getD_some, List.getElem?_toArray, List.getElem?_cons_zero, List.getElem?_cons_succ]
            iterate 1 (first | (apply quietO_cons _ rfl; (intro w' hs; have c_0 := q0 w' hs; go_simp; rfl)) | apply quietO_skip rfl)
            refine hK _ ?_
            clear hK K
            simp only [Act.put, List.setIfInBounds_toArray, List.set_cons_zero, List.set_cons_succ]
            refine wpS_ps rfl fun K hK => ?_
            simp only [List.map_cons, List.map_nil, Option.getD_some, List.getElem?_toArray, List.getElem?_cons_zero, List.getElem?_cons_succ]
            iterate 8 (first | (apply quietO_cons _ rfl; (intro w' _; go_simp; rfl)) | apply quietO_skip rfl)
            refine hK _ ?_
            clear hK K
            simp only [Act.put, List.setIfInBounds_toArray, List.set_cons_zero, List.set_cons_succ]
            refine wpS_fs rfl (Keeps.refl _ _) fun K hK => ?_
            simp only [List.map_cons, List.map_nil, Option.getD_some, List.getElem?_toArray, List.getElem?_cons_zero, List.getElem?_cons_succ]
            iterate 1 (first | (apply quietO_cons _ rfl; (intro w' hs; have c_0 := q3 w' hs; go_simp; rfl)) | apply quietO_skip rfl)
            refine hK _ ?_
            clear hK K
            simp only [Act.put, List.setIfInBounds_toArray, List.set_cons_zero, List.set_cons_succ]
            refine wpS_ps rfl fun K hK => ?_
            simp only [List.map_cons, List.map_nil, Option.getD_some, List.getElem?_toArray, List.getElem?_cons_zero, List.getElem?_cons_succ]
            iterate 6 (first | (apply quietO_cons _ rfl; (intro w' _; go_simp; rfl)) | apply quietO_skip rfl)
            refine hK _ ?_
            clear hK K
            simp only [Act.put, List.setIfInBounds_toArray, List.set_cons_zero, List.set_cons_succ]
            refine wpS_fs rfl (Keeps.refl _ _) fun K hK => ?_
            simp only [List.map_cons, List.map_nil, Option.getD_some, List.getElem?_toArray, List.getElem?_cons_zero, List.getElem?_cons_succ]
            iterate 1 (first | (apply quietO_cons _ rfl; (intro w' hs; have c_0 := q3 w' hs; go_simp; rfl)) | apply quietO_skip rfl)
            refine hK _ ?_
            clear hK K
            simp only [Act.put, List.setIfInBounds_toArray, List.set_cons_zero, List.set_cons_succ]
            refine wpS_ps rfl fun K hK => ?_
            simp only [List.map_cons, List.map_nil, Option.getD_some, List.getElem?_toArray, List.getElem?_cons_zero, List.getElem?_cons_succ]
            iterate 2 (first | (apply quietO_cons _ rfl; (intro w' _; go_simp; rfl)) | apply quietO_skip rfl)
            refine hK _ ?_
            clear hK K
            simp only [Act.put, List.setIfInBounds_toArray, List.set_cons_zero, List.set_cons_succ]
            refine wpS_es rfl fun K hK => ?_
            have HK := Lib.hid hK
            clear hK
            simp only [List.map_cons, List.map_nil, Option.getD_some, List.getElem?_toArray, List.getElem?_cons_zero, List.getElem?_cons_succ]
            go_wp2_with fail
            refine (Htb.out _ (Keeps.refl nowhere wr).drew).mono ?_
            rintro e w6 ⟨rfl, hk6⟩
            go_wp2_with fail
            refine HK.out _ _ (fun _ => hk6) ?_
            clear HK K
            refine wpS_ps rfl fun K hK => ?_
            simp only [List.map_cons, List.map_nil, Option.getD_some, List.getElem?_toArray, List.getElem?_cons_zero, List.getElem?_cons_succ]
            iterate 1 (first | (apply quietO_cons _ rfl; (intro w' _; go_simp; rfl)) | apply quietO_skip rfl)
            refine hK _ ?_
            clear hK K
            simp only [Act.put, List.setIfInBounds_toArray, List.set_cons_zero, List.set_cons_succ]
            refine wpS_es rfl fun K hK => ?_
            have HK := Lib.hid hK
            clear hK
            simp only [List.map_cons, List.map_nil, Option.getD_some, List.getElem?_toArray, List.getElem?_cons_zero, List.getElem?_cons_succ]
            go_wp2_with fail
            refine (Hwr.out w6 ((Keeps.refl nowhere wr).drew.more hk6)).mono ?_
            rintro e w7 ⟨rfl, hw7, hb7⟩
            go_wp2_with fail
            refine (must_bad code hc0 w7).mono ?_
            rintro e w8 ⟨rfl, rfl⟩
            exact ⟨rfl, hw7, rfl, rfl⟩
        · obtain rfl : j = T := by omega
          have hall : ws1 B next ks ch ++ (ws2 B next).take j = wsOf B next ks ch := by
            rw [List.take_of_length_le (by simp [ws2]; have := HT.out; omega)]; rfl
          rw [hall] at h0 hDj
          obtain ⟨code, hcode⟩ : ∃ code, code = Dj.syncs.1 := ⟨_, rfl⟩
          have hsy := hw.sync lDj.ok
          unfold dp at hsy
          rw [← hcode] at hsy
          have q0 : wr.cell? ⟨s, 0, none⟩ = some (dp d) := by
            obtain ⟨c, sv, ce, -, hb, -⟩ := hbp
            simpa using hb.cell 0
          unfold dp at q0
          by_cases hc0 : code = 0
          · obtain ⟨Ds, hDs⟩ : ∃ Ds, Ds = Dj.syncs.2 := ⟨_, rfl⟩
            have lDs : LOk Ds 4000 := by rw [hDs]; exact lDj.sync
            have hlay : r = if (Ds.write ((hdOf B).1 : Int) (hdOf B).2).1 = 0 then (Ds.write ((hdOf B).1 : Int) (hdOf B).2).2.syncs else Ds.write ((hdOf B).1 : Int) (hdOf B).2 := by
              rw [Hr.out]
              unfold DiskV.layV
              rw [if_pos h0, ← hDj, if_pos (by rw [← hcode]; exact hc0), ← hDs]
            rw [← hDs] at hsy
            subst hc0
            clear hcode hDs
            have Hsy := Lib.hid hsy
            have Hbp := Lib.hid hbp
            have Hb := Lib.hid hb
            have Hw := Lib.hid hw
            have H0 := Lib.hid h0
            have HDj := Lib.hid hDj
            have LDj := Lib.hid lDj
            have Hall := Lib.hid hall
            have LDs := Lib.hid lDs
            have Hlay := Lib.hid hlay
            clear hsy hbp hb hw h0 hDj lDj hall lDs hlay
            go_wp2_with fail
            refine Hsy.out.mono ?_
            rintro e w3 ⟨rfl, hlw⟩
            have hmo := must_ok w3
            have Hmo := Lib.hid hmo
            have Hlw := Lib.hid hlw
            clear hmo hlw
            go_wp2_with fail
            refine Hmo.out.mono ?_
            rintro e w4 ⟨rfl, rfl⟩
            have hn0 := OutAt.new w3
            have hbp := HL.out.b_ Hlw.out.keeps
            obtain ⟨op, hop⟩ : ∃ op, op = w3.heap.size := ⟨_, rfl⟩
            obtain ⟨w5, hw5⟩ : ∃ w5, w5 = w3.alloc (.cells #[.slice none 0 0] 87) := ⟨_, rfl⟩
            rw [← hop, ← hw5] at hn0
            have hk5 : Keeps nowhere w3 w5 := by rw [hw5]; exact (Keeps.refl nowhere w3).alloc _
            have c5 : w5.cell? ⟨s, 5, none⟩ = some (.int .i64 B.pages) := by
              obtain ⟨c, sv, ce, -, hb, -⟩ := hbp.same hk5
              simpa using hb.cell 5
            have Hn0 := Lib.hid hn0
            have Hbp := Lib.hid hbp
            have Hk5 := Lib.hid hk5
            have Hop := Lib.hid hop
            have Hw5 := Lib.hid hw5
            clear hn0 hbp hk5 hop hw5
            go_upto_region 17 with fail
            rw [← Hw5.out]
            simp only [← Hop.out]
            go_upto_region 18 with fail
            rw [pw_u64 (by have := ok.p1; omega)]
            obtain ⟨vs, hvs⟩ : ∃ vs : List Nat, vs = [magicN, G, B.pages] := ⟨_, rfl⟩
            obtain ⟨vb, hvb⟩ : ∃ vb, vb = w5.heap.size := ⟨_, rfl⟩
            obtain ⟨w6, hw6⟩ : ∃ w6, w6 = w5.alloc (.cells #[.int .u64 297733674067, .int .u64 G, .int .u64 B.pages] 58) := ⟨_, rfl⟩
            have hk56 : Keeps nowhere w5 w6 := by rw [hw6]; exact (Keeps.refl nowhere w5).alloc _
            have hk6 := Hk5.out.more hk56
            have hbv : Blk w6 vb 58 (vs.map fun v : Nat => Value.int .u64 (v : Int)).toArray := by
              rw [hw6, hvb, hvs]; exact Blk.new _ _ _
            have hn6 := Hn0.out.keep hk56 (fun h => h) (fun b _ h => h)
            rw [← hw6]
            simp only [← hvb]
            have hvl : ∀ v ∈ vs, v < 18446744073709551616 := by
              intro v hv
              rw [hvs] at hv
              have := ok.p1
              have := HG.out
              simp [magicN] at hv
              rcases hv with rfl | rfl | rfl <;> omega
            have hv3 : vs.length = 3 := by rw [hvs]; rfl
            have hvw : w3.heap.size ≤ vb := by rw [hvb]; exact Hk5.out.size
            have hoe : w3.heap.size ≤ op := by have := Hop.out; omega
            have hov : op ≠ vb := by
              obtain ⟨v, h1, -⟩ := Hn0.out
              have := h1.lt
              omega
            obtain ⟨W2, hW2⟩ : ∃ W2, W2 = wr := ⟨_, rfl⟩
            subst hW2
            clear hk56 hvb
            have Hvs := Lib.hid hvs
            have Hw6 := Lib.hid hw6
            have Hk6 := Lib.hid hk6
            have Hbv := Lib.hid hbv
            have Hn6 := Lib.hid hn6
            have Hvl := Lib.hid hvl
            have Hv3 := Lib.hid hv3
            have Hvw := Lib.hid hvw
            have Hoe := Lib.hid hoe
            have Hov := Lib.hid hov
            clear hvs hw6 hk6 hbv hn6 hvl hv3 hvw hoe hov
            go_loopw [106] (fun iv wr => ∃ (k : Nat) (g : Option Nat), iv = .int .i64 k ∧ k ≤ 3 ∧ OutAt wr op g ((vs.take k).flatMap (nb 8)) ∧ Above w3.heap.size g ∧ Keeps nowhere w3 wr ∧ Blk wr vb 58 (vs.map fun v : Nat => Value.int .u64 (v : Int)).toArray) (fun iv _ => 3 - (intOf iv).toNat)
            case atStart => exact ⟨0, none, rfl, Nat.zero_le _, by rw [List.take_zero]; exact Hn6.out, Above.none _, Hk6.out, Hbv.out⟩
            case round =>
              obtain ⟨k, g, rfl, hk, ho, hga, hkk, hbb⟩ := hrel
              by_cases hlt : k < 3
              · have hltI : (k : Int) < 3 := by omega
                have hk1 : IntKind.i64.wrap ((k : Int) + 1) = k + 1 := IntWalk.i64_in _ (by omega)
                obtain ⟨v, hv⟩ : ∃ v, vs[k]? = some v := ⟨_, List.getElem?_eq_getElem (by rw [Hv3.out]; exact hlt)⟩
                have cv := hbb.cell k
                simp [hv] at cv
                have hput := out_put op g ((vs.take k).flatMap (nb 8)) 8 v wr ho (by decide) (by decide) (Hvl.out v (List.mem_of_getElem? hv)) (by
                  rw [flat8_len, List.length_take]; omega)
                have hap : g ≠ some vb := out_apart ho hbb (by decide)
                have hnext : (vs.take k).flatMap (nb 8) ++ nb 8 v = (vs.take (k + 1)).flatMap (nb 8) := by
                  rw [take_snoc' hv, List.flatMap_append]; simp
                rw [hnext] at hput
                clear hnext
                have Ho := Lib.hid ho
                have Hga := Lib.hid hga
                have Hkk := Lib.hid hkk
                have Hbb := Lib.hid hbb
                have Hput := Lib.hid hput
                have Hv := Lib.hid hv
                have Hap := Lib.hid hap
                clear ho hga hkk hbb hput hv hap
                go_wp2_with fail
                refine Hput.out.mono ?_
                rintro e w7 ⟨rfl, g', ho', hf, hk7⟩
                have hkk7 := Hkk.out.fresh2 hk7 Hoe.out Hga.out
                have hga7 := Hga.out.of_from hf Hkk.out.size
                have hbb7 := Blk.keep Hbb.out hk7 (fun e => e.elim (fun e => Hov.out e.symm) (fun e => Hap.out e.symm))
                clear hf hk7
                have Ho' := Lib.hid ho'
                have Hkk7 := Lib.hid hkk7
                have Hga7 := Lib.hid hga7
                have Hbb7 := Lib.hid hbb7
                clear ho' hkk7 hga7 hbb7
                go_wp2_with fail
                go_roundw
                case rel => exact ⟨k + 1, g', by simp, by omega, Ho'.out, Hga7.out, Hkk7.out, Hbb7.out⟩
                case measure => simp [intOf]; omega
              · obtain rfl : k = 3 := by omega
                have hLo : (vs.take 3).flatMap (nb 8) = nb 8 magicN ++ nb 8 G ++ nb 8 B.pages := by rw [Hvs.out]; simp
                rw [hLo] at ho
                obtain ⟨Lh, hLh⟩ : ∃ Lh, Lh = nb 8 magicN ++ nb 8 G ++ nb 8 B.pages := ⟨_, rfl⟩
                rw [← hLh] at ho
                have hLl : Lh.length = 24 := by rw [hLh]; simp [nb_len]
                have hlr := Hlw.out.same hkk
                have hbp := HL.out.b_ hlr.keeps
                have c3 : wr.cell? ⟨s, 3, none⟩ = some (.int .i64 B.size) := by
                  obtain ⟨c, sv, ce, -, hb, -⟩ := hbp
                  simpa using hb.cell 3
                have h64 := ok.z1
                have h1m := ok.z2
                clear hLo
                have Ho := Lib.hid ho
                have Hga := Lib.hid hga
                have Hkk := Lib.hid hkk
                have Hbb := Lib.hid hbb
                have Hlr := Lib.hid hlr
                have Hbp := Lib.hid hbp
                have HLh := Lib.hid hLh
                have HLl := Lib.hid hLl
                clear ho hga hkk hbb hlr hbp hLh hLl
                go_wp2_with (at_make; refine wpList_make_bytesB _ rfl _ _ rfl B.size (B.size : Int) rfl rfl rfl (by omega) ?_)
                intro w7 hx7 hk7
                obtain ⟨xb, hxb⟩ : ∃ xb, xb = wr.heap.size := ⟨_, rfl⟩
                rw [← hxb] at hx7
                simp only [← hxb]
                have hby := out_bytes op g Lh w7 (Ho.out.keep hk7 (fun h => h) (fun b _ h => h)) (by rw [HLl.out]; decide)
                have Hx7 := Lib.hid hx7
                have Hk7 := Lib.hid hk7
                have Hxb := Lib.hid hxb
                have Hby := Lib.hid hby
                clear hx7 hk7 hxb hby
                go_wp2_with fail
                refine Hby.out.mono ?_
                rintro e w8 ⟨bv', bg, rfl, hbr, -, hk8⟩
                have hbr' := rdB_of hbr
                obtain ⟨bA, bc, rfl, -⟩ := id hbr'
                obtain ⟨n24, hn24⟩ : ∃ n, n = Lh.length := ⟨_, rfl⟩
                rw [← hn24] at hbr'
                rw [← hn24]
                have hx8 := Hx7.out.same hk8
                have hk78 := Hk7.out.more hk8
                have hzz0 : 0 < B.size := by omega
                have hxbw : wr.heap.size ≤ xb := by rw [Hxb.out]; exact Nat.le_refl _
                clear hbr
                have Hbr' := Lib.hid hbr'
                have Hx8 := Lib.hid hx8
                have Hk78 := Lib.hid hk78
                have Hxbw := Lib.hid hxbw
                have Hn24 := Lib.hid hn24
                have Hk8 := Lib.hid hk8
                clear hbr' hx8 hk78 hxbw hn24 hk8
                go_wp2_with (refine wpList_copyP wr _ rfl _ _ rfl xb B.size Hxbw.out hzz0 bA n24 bc _ Lh rfl rfl Hx8.out Hbr'.out Hk78.out ?_)
                intro w9 hx9 hk9
                obtain ⟨Lx, hLx⟩ : ∃ Lx, Lx = padL Lh B.size := ⟨_, rfl⟩
                rw [← hLx] at hx9
                obtain ⟨m, hm⟩ : ∃ m, m = G % 2 := ⟨_, rfl⟩
                have hm2 : m < 2 := by omega
                obtain ⟨hs_, hhs⟩ : ∃ x, x = B.a + m := ⟨_, rfl⟩
                have hn1 := ok.n1
                have hGl : G < 18446744073709551616 := by rw [HG.out]; exact hg
                have e0 := and1_u64 G hGl
                rw [← hm] at e0
                have e1 : IntKind.i64.wrap (m : Int) = m := IntWalk.i64_in _ (by omega)
                have e2 : IntKind.i64.wrap ((B.a : Int) + m) = (hs_ : Int) := by rw [IntWalk.i64_in _ (by omega)]; omega
                have hhd : hdOf B = (hs_, Lx) := by
                  unfold hdOf headL
                  rw [hLx, HLh.out, hhs, hm, HG.out]
                have hlay2 := Hlay.out
                rw [hhd] at hlay2
                simp only at hlay2
                have hl9 := Hlr.out.same hk9
                have hbp9 := HL.out.b_ hl9.keeps
                have q0 : ∀ w', w' = w9.drew → w'.cell? ⟨s, 0, none⟩ = some (dp d) := fun w' e => by
                  rw [e]
                  obtain ⟨c, sv, ce, -, hb, -⟩ := hbp9
                  simpa using hb.cell 0
                have q1 : ∀ w', w' = w9.drew → w'.cell? ⟨s, 1, none⟩ = some (.int .i64 B.a) := fun w' e => by
                  rw [e]
                  obtain ⟨c, sv, ce, -, hb, -⟩ := hbp9
                  simpa using hb.cell 1
                unfold dp at q0
                obtain ⟨code, hcode⟩ : ∃ code, code = (Ds.write (hs_ : Int) Lx).1 := ⟨_, rfl⟩
                have hkd := (Keeps.refl nowhere w9).drew
                have hwr := (hl9.same hkd).write LDs.out.ok hs_ (.slice (some ⟨xb, 0, none⟩) B.size B.size) _ Lx (hx9.same hkd).rd (fun k e2 hn => row_raw (hx9.same hkd) (.inl rfl) hn e2)
                unfold dp at hwr
                rw [← hcode] at hwr hlay2
                by_cases hc0 : code = 0
                · rw [if_pos hc0] at hlay2
                  obtain ⟨De, hDe⟩ : ∃ De, De = (Ds.write (hs_ : Int) Lx).2 := ⟨_, rfl⟩
                  have lDe : LOk De 3000 := by rw [hDe]; exact LOk.write (LDs.out.less (by omega)) (by rw [← hcode]; exact hc0)
                  rw [← hDe] at hwr hlay2
                  obtain ⟨cd2, hcd2⟩ : ∃ c, c = De.syncs.1 := ⟨_, rfl⟩
                  have hr2 : r.2 = De.syncs.2 ∧ r.1 = cd2 := by rw [hlay2]; exact ⟨rfl, hcd2.symm⟩
                  subst hc0
                  clear hcode hlay2 hbp9 hl9 hkd hDe
                  have Hwr := Lib.hid hwr
                  have Hx9 := Lib.hid hx9
                  have Hk9 := Lib.hid hk9
                  have Hr2 := Lib.hid hr2
                  have HLx := Lib.hid hLx
                  have Hm := Lib.hid hm
                  have Hhs := Lib.hid hhs
                  have Hhd := Lib.hid hhd
                  have Hcd2 := Lib.hid hcd2
                  clear hwr hx9 hk9 hr2 hLx hm hhs hhd hcd2
                  go_wp2_with fail
                  refine wp_region_script [0, 1, 2, 3, 4, 5, 6, 7, 8, 9, 10, 11, 12] [3, 7] [.ps [0, 1, 2], .fs [3], .ps [4, 5, 6], .fs [7], .ps [8, 9, 10, 11, 12], .es [13, 14] false] (fun w' => w' = w9.drew) rfl (by kernel_rfl) ?_
                  refine wpS_ps rfl fun K hK => ?_
                  simp only [List.map_cons, List.map_nil, Option.getD_some, List.getElem?_toArray, List.getElem?_cons_zero, List.getElem?_cons_succ]
                  iterate 3 (first | (apply quietO_cons _ rfl; (intro w' _; go_simp; rfl)) | apply quietO_skip rfl)
                  refine hK _ ?_
                  clear hK K
                  simp only [Act.put, List.setIfInBounds_toArray, List.set_cons_zero, List.set_cons_succ]
                  refine wpS_fs rfl (rfl) fun K hK => ?_
                  simp only [List.map_cons, List.map_nil, Option.getD_some, List.getElem?_toArray, List.getElem?_cons_zero, List.getElem?_cons_succ]
                  iterate 1 (first | (apply quietO_cons _ rfl; (intro w' hs; have c_0 := q0 w' hs; go_simp; rfl)) | apply quietO_skip rfl)
                  refine hK _ ?_
                  clear hK K
                  simp only [Act.put, List.setIfInBounds_toArray, List.set_cons_zero, List.set_cons_succ]
                  refine wpS_ps rfl fun K hK => ?_
                  simp only [List.map_cons, List.map_nil, Option.getD_some, List.getElem?_toArray, List.getElem?_cons_zero, List.getElem?_cons_succ]
                  iterate 3 (first | (apply quietO_cons _ rfl; (intro w' _; go_simp; rfl)) | apply quietO_skip rfl)
                  refine hK _ ?_
                  clear hK K
                  simp only [Act.put, List.setIfInBounds_toArray, List.set_cons_zero, List.set_cons_succ]
                  refine wpS_fs rfl (rfl) fun K hK => ?_
                  simp only [List.map_cons, List.map_nil, Option.getD_some, List.getElem?_toArray, List.getElem?_cons_zero, List.getElem?_cons_succ]
                  iterate 1 (first | (apply quietO_cons _ rfl; (intro w' hs; have c_0 := q1 w' hs; go_simp; rfl)) | apply quietO_skip rfl)
                  refine hK _ ?_
                  clear hK K
                  simp only [Act.put, List.setIfInBounds_toArray, List.set_cons_zero, List.set_cons_succ]
                  refine wpS_ps rfl fun K hK => ?_
                  simp only [List.map_cons, List.map_nil, Option.getD_some, List.getElem?_toArray, List.getElem?_cons_zero, List.getElem?_cons_succ]
                  iterate 5 (first | (apply quietO_cons _ rfl; (intro w' _; go_simp; rfl)) | apply quietO_skip rfl)
                  refine hK _ ?_
                  clear hK K
                  simp only [Act.put, List.setIfInBounds_toArray, List.set_cons_zero, List.set_cons_succ]
                  refine wpS_es rfl fun K hK => ?_
                  have HK := Lib.hid hK
                  clear hK
                  simp only [List.map_cons, List.map_nil, Option.getD_some, List.getElem?_toArray, List.getElem?_cons_zero, List.getElem?_cons_succ]
                  go_wp2_with fail
                  refine Hwr.out.mono ?_
                  rintro e wa ⟨rfl, hwa⟩
                  go_wp2_with fail
                  refine (must_ok wa).mono ?_
                  rintro e wb ⟨rfl, rfl⟩
                  go_wp2_with fail
                  refine HK.out _ _ (fun h => by cases h) ?_
                  clear HK K
                  refine wpS_nil ?_
                  have hsy := hwa.sync lDe.ok
                  unfold dp at hsy
                  rw [← Hcd2.out] at hsy
                  have q0 : wa.cell? ⟨s, 0, none⟩ = some (dp d) := by
                    obtain ⟨c, sv, ce, -, hb, -⟩ := HL.out.b_ hwa.keeps
                    simpa using hb.cell 0
                  unfold dp at q0
                  have Hsy := Lib.hid hsy
                  have Hwa := Lib.hid hwa
                  have LDe := Lib.hid lDe
                  clear hsy hwa lDe
                  go_wp2_with fail
                  refine Hsy.out.mono ?_
                  rintro e wb ⟨rfl, hwb⟩
                  by_cases hc2 : cd2 = 0
                  · have hfin := HL.out.done hwb Hr2.out.1 (by rw [Hr2.out.2]; exact hc2) HG.out
                    have hbb := HL.out.b_ hwb.keeps
                    have hq5 := HL.out.e_ hwb.keeps
                    subst hc2
                    have hmo := must_ok wb
                    have hqs : q ≠ s := fun e => by
                      obtain ⟨c, sv, ce, -, hb, -⟩ := id hbb
                      exact hb.box.ne_ hq5 (by decide) e.symm
                    obtain ⟨cs, hcs⟩ : ∃ cs, Blk wb s 63 cs ∧ cs.size = 8 := by
                      obtain ⟨c, sv, ce, -, hb, -⟩ := id hbb
                      exact ⟨_, hb.box, rfl⟩
                    obtain ⟨hbx, hcz⟩ := hcs
                    obtain ⟨u4, c4⟩ : ∃ u, wb.cell? ⟨s, 4, none⟩ = some u := ⟨_, (hbx.cell 4).trans (Array.getElem?_eq_getElem (by omega))⟩
                    have f4 := hbx.frozen 4
                    have hbx2 := hbx.set_ 4 (.int .u64 G)
                    obtain ⟨u6, c6⟩ : ∃ u, (wb.setCell ⟨s, 4, none⟩ (.int .u64 G)).cell? ⟨s, 6, none⟩ = some u := ⟨_, (hbx2.cell 6).trans (Array.getElem?_eq_getElem (by simp; omega))⟩
                    have f6 := hbx2.frozen 6
                    have hq6 := (hq5.far (p := ⟨s, 4, none⟩) hqs (.int .u64 G)).far (p := ⟨s, 6, none⟩) hqs (.slice A N cp)
                    have c7 := hq6.cell 0
                    have f7 := hq6.frozen 0
                    simp at c7
                    have d0 := (hq6.set_ 0 (.int .i64 0)).cell 0
                    simp at d0
                    have hr0 := Hr2.out.2
                    clear hbx hbx2 hq6 hbb hcz
                    have Hfin := Lib.hid hfin
                    have Hwb := Lib.hid hwb
                    have Hq5 := Lib.hid hq5
                    have Hmo := Lib.hid hmo
                    have Hr0 := Lib.hid hr0
                    clear hfin hwb hq5 hmo hr0
                    go_wp2_with fail
                    refine Hmo.out.mono ?_
                    rintro e w8 ⟨rfl, rfl⟩
                    go_wp2_with fail
                    refine leaves_cons (f := 45) (args := #[.pointer (some ⟨q, 0, none⟩)]) (by simp) (by simp [go_sem]) ?_
                    refine (bcaught_idle q _).mono ?_
                    rintro e u' w'' ⟨rfl, rfl, rfl⟩
                    simp [Leaves, settle, results, Tryz.results28, go_sem, d0]
                    exact Hfin.out
                  · have hfin := HL.out.fail hwb Hr2.out.1 (by rw [Hr2.out.2]; exact hc2)
                    rw [Hr2.out.2] at hfin
                    have hq5 := HL.out.e_ hwb.keeps
                    have d0 : (wb.setCell ⟨q, 0, none⟩ (.int .i64 cd2)).cell? ⟨q, 0, none⟩ = some (.int .i64 cd2) := by simpa using (hq5.set_ 0 (.int .i64 cd2)).cell 0
                    have hcp := bcaught_panic q cd2 0 [] wb hq5
                    have hmb := must_bad cd2 hc2 wb
                    have Hfin := Lib.hid hfin
                    have Hq5 := Lib.hid hq5
                    have Hcp := Lib.hid hcp
                    have Hwb := Lib.hid hwb
                    have Hmb := Lib.hid hmb
                    clear hfin hq5 hcp hwb hmb
                    go_wp2_with fail
                    refine Hmb.out.mono ?_
                    rintro e w8 ⟨rfl, rfl⟩
                    refine leaves_cons (f := 45) (args := #[.pointer (some ⟨q, 0, none⟩)]) (by simp) (by simp [go_sem]) ?_
                    refine Hcp.out.mono ?_
                    rintro e u' w'' ⟨rfl, rfl, rfl⟩
                    simp [Leaves, settle, results, Tryz.results28, go_sem, d0]
                    exact Hfin.out
                · rw [if_neg hc0] at hlay2
                  have hfl : r.2 = (Ds.write (hs_ : Int) Lx).2 ∧ r.1 = code := by rw [hlay2]; exact ⟨rfl, hcode.symm⟩
                  clear hcode hlay2 hbp9 hl9 hkd
                  have Hwr := Lib.hid hwr
                  have Hx9 := Lib.hid hx9
                  have Hk9 := Lib.hid hk9
                  have Hfl := Lib.hid hfl
                  have HLx := Lib.hid hLx
                  have Hm := Lib.hid hm
                  have Hhs := Lib.hid hhs
                  have Hhd := Lib.hid hhd
                  clear hwr hx9 hk9 hfl hLx hm hhs hhd
                  go_wp2_with fail
                  refine wp_region_script_k [0, 1, 2, 3, 4, 5, 6, 7, 8, 9, 10, 11, 12] [3, 7] [.ps [0, 1, 2], .fs [3], .ps [4, 5, 6], .fs [7], .ps [8, 9, 10, 11, 12], .es [13, 14] false] (fun w' => w' = w9.drew) rfl 6 6
                    (fun ch x y ds w' => ch = [{ v := .iface 26 (.int .i64 code), recovered := false }] ∧ LayW X W0 w' d F (Ds.write (hs_ : Int) Lx).2 ∧ x = .pointer (some ⟨q, 0, none⟩) ∧
                      ds = [{ target := .fn (.func 45) #[], args := #[.pointer (some ⟨q, 0, none⟩)] }]) (by kernel_rfl) (by kernel_rfl) ?_ ?_
                  · rintro chn ⟨tm, df⟩ w' ⟨rfl, hlw, h4, hd⟩
                    simp only at h4 hd
                    subst hd
                    have hfin := HL.out.fail hlw Hfl.out.1 (by rw [Hfl.out.2]; exact hc0)
                    rw [Hfl.out.2] at hfin
                    have hq5 := HL.out.e_ hlw.keeps
                    have d0 : (w'.setCell ⟨q, 0, none⟩ (.int .i64 code)).cell? ⟨q, 0, none⟩ = some (.int .i64 code) := by simpa using (hq5.set_ 0 (.int .i64 code)).cell 0
                    refine leaves_cons (f := 45) (args := #[.pointer (some ⟨q, 0, none⟩)]) (by simp) (by simp [go_sem]) ?_
                    refine (bcaught_panic q code 0 [] w' hq5).mono ?_
                    rintro e u' w'' ⟨rfl, rfl, rfl⟩
                    rw [Array.getD_eq_getD_getElem?] at h4
                    simp [Leaves, settle, results, Tryz.results28, go_sem, h4, d0]
                    exact hfin
                  refine wpS_ps rfl fun K hK => ?_
                  simp only [List.map_cons, List.map_nil, Option.getD_some, List.getElem?_toArray, List.getElem?_cons_zero, List.getElem?_cons_succ]
                  iterate 3 (first | (apply quietO_cons _ rfl; (intro w' _; go_simp; rfl)) | apply quietO_skip rfl)
                  refine hK _ ?_
                  clear hK K
                  simp only [Act.put, List.setIfInBounds_toArray, List.set_cons_zero, List.set_cons_succ]
                  refine wpS_fs rfl (rfl) fun K hK => ?_
                  simp only [List.map_cons, List.map_nil, Option.getD_some, List.getElem?_toArray, List.getElem?_cons_zero, List.getElem?_cons_succ]
                  iterate 1 (first | (apply quietO_cons _ rfl; (intro w' hs; have c_0 := q0 w' hs; go_simp; rfl)) | apply quietO_skip rfl)
                  refine hK _ ?_
                  clear hK K
                  simp only [Act.put, List.setIfInBounds_toArray, List.set_cons_zero, List.set_cons_succ]
                  refine wpS_ps rfl fun K hK => ?_
                  simp only [List.map_cons, List.map_nil, Option.getD_some, List.getElem?_toArray, List.getElem?_cons_zero, List.getElem?_cons_succ]
                  iterate 3 (first | (apply quietO_cons _ rfl; (intro w' _; go_simp; rfl)) | apply quietO_skip rfl)
                  refine hK _ ?_
                  clear hK K
                  simp only [Act.put, List.setIfInBounds_toArray, List.set_cons_zero, List.set_cons_succ]
                  refine wpS_fs rfl (rfl) fun K hK => ?_
                  simp only [List.map_cons, List.map_nil, Option.getD_some, List.getElem?_toArray, List.getElem?_cons_zero, List.getElem?_cons_succ]
                  iterate 1 (first | (apply quietO_cons _ rfl; (intro w' hs; have c_0 := q1 w' hs; go_simp; rfl)) | apply quietO_skip rfl)
                  refine hK _ ?_
                  clear hK K
                  simp only [Act.put, List.setIfInBounds_toArray, List.set_cons_zero, List.set_cons_succ]
                  refine wpS_ps rfl fun K hK => ?_
                  simp only [List.map_cons, List.map_nil, Option.getD_some, List.getElem?_toArray, List.getElem?_cons_zero, List.getElem?_cons_succ]
                  iterate 5 (first | (apply quietO_cons _ rfl; (intro w' _; go_simp; rfl)) | apply quietO_skip rfl)
                  refine hK _ ?_
                  clear hK K
                  simp only [Act.put, List.setIfInBounds_toArray, List.set_cons_zero, List.set_cons_succ]
                  refine wpS_es rfl fun K hK => ?_
                  have HK := Lib.hid hK
                  clear hK
                  simp only [List.map_cons, List.map_nil, Option.getD_some, List.getElem?_toArray, List.getElem?_cons_zero, List.getElem?_cons_succ]
                  go_wp2_with fail
                  refine Hwr.out.mono ?_
                  rintro e wa ⟨rfl, hwa⟩
                  go_wp2_with fail
                  refine (must_bad code hc0 wa).mono ?_
                  rintro e wb ⟨rfl, rfl⟩
                  exact ⟨rfl, hwa, rfl, rfl⟩
          · have hfl : r.2 = Dj.syncs.2 ∧ r.1 = code := by
              rw [Hr.out]
              unfold DiskV.layV
              rw [if_pos h0, ← hDj, if_neg (by rw [← hcode]; exact hc0)]
              exact ⟨rfl, hcode.symm⟩
            have hmb := must_bad code hc0
            clear hcode
            have Hfl := Lib.hid hfl
            have Hsy := Lib.hid hsy
            have Hmb := Lib.hid hmb
            have Hbp := Lib.hid hbp
            have Hb := Lib.hid hb
            have Hw := Lib.hid hw
            have H0 := Lib.hid h0
            have HDj := Lib.hid hDj
            have LDj := Lib.hid lDj
            have Hall := Lib.hid hall
            clear hfl hsy hmb hbp hb hw h0 hDj lDj hall
            go_wp2_with fail
            refine Hsy.out.mono ?_
            rintro e w' ⟨rfl, hlw⟩
            have hfin := HL.out.fail hlw Hfl.out.1 (by rw [Hfl.out.2]; exact hc0)
            rw [Hfl.out.2] at hfin
            have hq5 := HL.out.e_ hlw.keeps
            have d0 : (w'.setCell ⟨q, 0, none⟩ (.int .i64 code)).cell? ⟨q, 0, none⟩ = some (.int .i64 code) := by simpa using (hq5.set_ 0 (.int .i64 code)).cell 0
            have hcp := bcaught_panic q code 0 [] w' hq5
            have Hfin := Lib.hid hfin
            have Hq5 := Lib.hid hq5
            have Hcp := Lib.hid hcp
            have Hlw := Lib.hid hlw
            clear hfin hq5 hcp hlw
            go_wp2_with fail
            refine (Hmb.out w').mono ?_
            rintro e w8 ⟨rfl, rfl⟩
            refine leaves_cons (f := 45) (args := #[.pointer (some ⟨q, 0, none⟩)]) (by simp) (by simp [go_sem]) ?_
            refine Hcp.out.mono ?_
            rintro e u' w'' ⟨rfl, rfl, rfl⟩
            simp [Leaves, settle, results, Tryz.results28, go_sem, d0]
            exact Hfin.out
end
end Go.Proofs.YtnddaildicmneaaGreat
