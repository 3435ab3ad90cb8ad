/-
  Parts of the proof, joined in build order: Us1, Us2, Us3, RecB, Us4, Us5, UsP, LayU, Us6.
-/
import Derived.Test.YtnlmdfbjmhcilaaDoorMu1
import Derived.Lib.SplitLaws
import Derived.Lib.Split
import Derived.Lib.IndexBytes
import Derived.Test.YtnlmdfbjmhcilaaDoorProg
import Derived.Shelf.Strings.Split
import Derived.Shelf.Strings.Prefix
import Derived.Shelf.Strings.OnBuilder
import Derived.Ground.NamesProg
import Derived.Ground.Names2Prog
set_option linter.unusedVariables false
set_option linter.unusedSimpArgs false
/-
  user: what is right (plain); a table in memory; must, caught, name, Has.
-/
namespace Go.Proofs.YtnlmdfbjmhcilaaDoor
open Go.RowKit Go.Proofs Go.Shelf
attribute [local go_sem] strOf_size strOf_get strOf_toList

structure Grp where
  nm : List UInt8
  ms : List (List UInt8)
structure GrpV where
  nm : List UInt8
  A : Option Addr
  n : Nat
  c : Nat
def GrpV.sl (x : GrpV) : Value := .slice x.A x.n x.c
def GrpV.val (x : GrpV) : Value := .agg #[.string (strOf x.nm), .slice x.A x.n x.c]
def recG : RecT GrpV := ⟨79, 2, fun x => [.string (strOf x.nm), .slice x.A x.n x.c], fun _ => rfl, fun _ u hu => by simp at hu; rcases hu with rfl | rfl <;> rfl, by decide⟩
theorem infoG : (Tryd.prog.info? 79).map (fun i => (i.zero, i.size, i.bytes)) = some (some (.agg #[.string ⟨#[]⟩, .slice none 0 0]), 2, 40) := by kernel_rfl
theorem atG {w : World} {b a : Nat} {x : GrpV} (h : recG.At w b a x) : w.cell? ⟨b, a, none⟩ = some (.string (strOf x.nm)) ∧ w.cell? ⟨b, a + 1, none⟩ = some (.slice x.A x.n x.c) := ⟨h 0 (by decide), h 1 (by decide)⟩

/-- may this be called so? -/
def nameU (s : List UInt8) : Bool := (nameE s == 0) && !(s.contains 32)
def userE (us : List (List UInt8)) (s : List UInt8) : Int := if nameU s = false then 6 else if us.contains s = true then 7 else 0
def usersE (acc : List (List UInt8)) : List (List UInt8) → Int
  | [] => 0
  | s :: l => if userE acc s = 0 then usersE (acc ++ [s]) l else userE acc s
def membersE (us acc : List (List UInt8)) : List (List UInt8) → Int
  | [] => 0
  | m :: l => if us.contains m = false then 6 else if acc.contains m = true then 7 else membersE us (acc ++ [m]) l
def groupE (us : List (List UInt8)) (gs : List Grp) (g : Grp) : Int :=
  if nameU g.nm = false then 6 else if gs.any (fun x => x.nm == g.nm) = true then 7 else membersE us [] g.ms
def groupsE (us : List (List UInt8)) (acc : List Grp) : List Grp → Int
  | [] => 0
  | g :: l => if groupE us acc g = 0 then groupsE us (acc ++ [g]) l else groupE us acc g
def newE (us : List (List UInt8)) (gs : List Grp) : Int :=
  if 32 < us.length ∨ 32 < gs.length then 3 else if usersE [] us = 0 then groupsE us [] gs else usersE [] us
def inU (us : List (List UInt8)) (gs : List Grp) (who g : List UInt8) : Bool :=
  us.contains who && (who == g || gs.any (fun x => x.nm == g && x.ms.contains who))

/-- a group given, a group of a table -/
def GRd (w : World) (x : GrpV) (g : Grp) : Prop := x.nm = g.nm ∧ ∃ k, recStr.Rd w x.sl k g.ms
def GRow (F : Nat → Prop) (w : World) (x : GrpV) (g : Grp) : Prop := x.nm = g.nm ∧ recStr.Row w x.sl g.ms ∧ ∀ b, x.sl.ownBlock = some b → F b
def Each {α β : Type} (P : α → β → Prop) (xs : List α) (gs : List β) : Prop := xs.length = gs.length ∧ ∀ (i : Nat) (x : α), xs[i]? = some x → ∃ g : β, gs[i]? = some g ∧ P x g
theorem Each.imp {α β : Type} {P Q : α → β → Prop} {xs : List α} {gs : List β} (h : Each P xs gs) (hi : ∀ x g, P x g → Q x g) : Each Q xs gs :=
  ⟨h.1, fun i x hx => (h.2 i x hx).elim fun g hg => ⟨g, hg.1, hi _ _ hg.2⟩⟩
theorem Each.get {α β : Type} {P : α → β → Prop} {xs : List α} {gs : List β} (h : Each P xs gs) {i : Nat} {x : α} {g : β} (hx : xs[i]? = some x) (hg : gs[i]? = some g) : P x g := by
  obtain ⟨g', h1, h2⟩ := h.2 i x hx
  rw [hg] at h1; injection h1 with h1; subst h1; exact h2
theorem Each.push {α β : Type} {P : α → β → Prop} {xs : List α} {gs : List β} (h : Each P xs gs) {x : α} {g : β} (hp : P x g) : Each P (xs ++ [x]) (gs ++ [g]) := by
  refine ⟨by simp [h.1], fun i y hy => ?_⟩
  by_cases hi : i < xs.length
  · rw [List.getElem?_append_left hi] at hy
    obtain ⟨g', h1, h2⟩ := h.2 i y hy
    exact ⟨g', by rw [List.getElem?_append_left (by rw [← h.1]; exact hi)]; exact h1, h2⟩
  · rw [List.getElem?_append_right (by omega)] at hy
    have : i = xs.length := by
      have := (List.getElem?_eq_some_iff.1 hy).1
      simp at this; omega
    subst this
    simp at hy
    subst hy
    exact ⟨g, by rw [h.1]; simp, hp⟩
theorem Each.nil {α β : Type} {P : α → β → Prop} : Each P [] [] := ⟨rfl, fun i x h => by simp at h⟩
theorem GRd.same {w w' : World} {x : GrpV} {g : Grp} (h : GRd w x g) (hk : Keeps nowhere w w') : GRd w' x g := ⟨h.1, h.2.elim fun k hk' => ⟨k, hk'.same hk⟩⟩
theorem GRow.keep {F S : Nat → Prop} {w w' : World} {x : GrpV} {g : Grp} (h : GRow F w x g) (hk : Keeps S w w') (hs : ∀ b, F b → ¬ S b) : GRow F w' x g :=
  ⟨h.1, h.2.1.keep hk (fun b hb => hs b (h.2.2 b hb)), h.2.2⟩
theorem GRow.rd {F : Nat → Prop} {w : World} {x : GrpV} {g : Grp} (h : GRow F w x g) : GRd w x g := ⟨h.1, _, h.2.1.rd⟩
theorem GRow.mono {F F' : Nat → Prop} {w : World} {x : GrpV} {g : Grp} (h : GRow F w x g) (hf : ∀ b, F b → F' b) : GRow F' w x g := ⟨h.1, h.2.1, fun b hb => hf b (h.2.2 b hb)⟩

/-- a table at the block `p`, its blocks in `F` -/
def UT (F : Nat → Prop) (w : World) (p : Nat) (us : List (List UInt8)) (gs : List Grp) : Prop :=
  ∃ v1 v2 xs, Blk w p 100 #[v1, v2] ∧ recStr.Row w v1 us ∧ recG.Row w v2 xs ∧ Each (GRow F w) xs gs ∧ F p ∧ (∀ b, v1.ownBlock = some b → F b) ∧ (∀ b, v2.ownBlock = some b → F b)
theorem UT.keep {F S : Nat → Prop} {w w' : World} {p : Nat} {us : List (List UInt8)} {gs : List Grp} (h : UT F w p us gs) (hk : Keeps S w w') (hs : ∀ b, F b → ¬ S b) : UT F w' p us gs := by
  obtain ⟨v1, v2, xs, h1, h2, h3, h4, h5, h6, h7⟩ := h
  exact ⟨v1, v2, xs, h1.keep hk (hs p h5), h2.keep hk (fun b hb => hs b (h6 b hb)), h3.keep hk (fun b hb => hs b (h7 b hb)), h4.imp fun x g hg => hg.keep hk hs, h5, h6, h7⟩
theorem UT.same {F : Nat → Prop} {w w' : World} {p : Nat} {us : List (List UInt8)} {gs : List Grp} (h : UT F w p us gs) (hk : Keeps nowhere w w') : UT F w' p us gs := h.keep hk (fun _ _ h => h)
theorem UT.mono {F F' : Nat → Prop} {w : World} {p : Nat} {us : List (List UInt8)} {gs : List Grp} (h : UT F w p us gs) (hf : ∀ b, F b → F' b) : UT F' w p us gs := by
  obtain ⟨v1, v2, xs, h1, h2, h3, h4, h5, h6, h7⟩ := h
  exact ⟨v1, v2, xs, h1, h2, h3, h4.imp fun x g hg => hg.mono hf, hf _ h5, fun b hb => hf b (h6 b hb), fun b hb => hf b (h7 b hb)⟩

def panicU (x : Int) : Ending := .panicked [{ v := .iface 26 (.int .i64 x), recovered := false }]
theorem must_ok (x : Int) (w : World) : Calls Tryd.prog 44 #[.bool false, .int .i64 x] w fun e w' => e = .returned (.tuple #[]) ∧ w' = w := by
  go_enter Tryd.func44, Tryd.ntmps44
  go_wp2_with fail
  simp [bodyPost, results, Tryd.results44, go_sem]
theorem must_bad (x : Int) (w : World) : Calls Tryd.prog 44 #[.bool true, .int .i64 x] w fun e w' => e = panicU x ∧ w' = w := by
  have hmi : ∀ w, (Instr.makeInterface 26 (.int .i64 x)).run Tryd.prog w = .ok (.iface 26 (.int .i64 x)) w := fun _ => by kernel_rfl
  go_enter Tryd.func44, Tryd.ntmps44
  go_wp2_with fail
  exact ⟨rfl, rfl, rfl⟩
def MustP (b : Bool) (x : Int) (w : World) : Ending → World → Prop := fun e w' => w' = w ∧ e = if b = true then panicU x else .returned (.tuple #[])
theorem must_any (b : Bool) (x : Int) (w : World) : Calls Tryd.prog 44 #[.bool b, .int .i64 x] w (MustP b x w) := by
  cases b with
  | false => exact (must_ok x w).mono fun e w' h => ⟨h.2, h.1⟩
  | true => exact (must_bad x w).mono fun e w' h => ⟨h.2, h.1⟩
set_option maxHeartbeats 400000 in
theorem ucaught_idle (p q : Nat) (w : World) :
    CallsD Tryd.prog 43 #[.pointer (some ⟨p, 0, none⟩), .pointer (some ⟨q, 0, none⟩)] .returning w fun e u' w' => e = .returned (.tuple #[]) ∧ u' = .returning ∧ w' = w := by
  refine callsD_of_wpS Tryd.func43 rfl fun c₀ cs hu => ?_
  apply wpS_seq
  apply wpS_region
  simp [wpOpsS, go_sem, recoverD, hu, Tryd.ntmps43, Exit.thenS, Array.replicate_succ]
  refine wpS_of_wp ?_
  go_wp2
  cases c₀
  simp_all [bodyPostS, results, Tryd.results43]
set_option maxHeartbeats 400000 in
theorem ucaught_panic (p q : Nat) (e : Int) (x : Value) (y : Int) (older : List PanicEntry) (w : World) (hb : Blk w p 49 #[x]) (hq : Blk w q 26 #[.int .i64 y]) :
    CallsD Tryd.prog 43 #[.pointer (some ⟨p, 0, none⟩), .pointer (some ⟨q, 0, none⟩)] (.panicking ({ v := .iface 26 (.int .i64 e), recovered := false } :: older)) w fun en u' w' =>
      en = .returned (.tuple #[]) ∧ u' = .panicking ({ v := .iface 26 (.int .i64 e), recovered := true } :: older) ∧ w' = (w.setCell ⟨p, 0, none⟩ (.pointer none)).setCell ⟨q, 0, none⟩ (.int .i64 e) := by
  have hc1 := hb.cell 0
  have hf1 := hb.frozen 0
  have hc2 := (hq.far (p := ⟨p, 0, none⟩) (hq.ne_ hb (by decide)) (.pointer none)).cell 0
  have hf2 := (hq.far (p := ⟨p, 0, none⟩) (hq.ne_ hb (by decide)) (.pointer none)).frozen 0
  simp at hc1 hc2
  clear hb hq
  have heq : ∀ w, (binOp .eql 20 (.iface 26 (.int .i64 e)) .nilIface).run Tryd.prog w = .ok (.bool false) w := fun _ => by kernel_rfl
  have hta : ∀ w, (Instr.typeAssert (.iface 26 (.int .i64 e)) 20 26 true).run Tryd.prog w = .ok (.tuple #[.int .i64 e, .bool true]) w := fun _ => by kernel_rfl
  refine callsD_of_wpS Tryd.func43 rfl fun c₀ cs hu => ?_
  apply wpS_seq
  apply wpS_region
  simp [wpOpsS, go_sem, recoverD, hu, Tryd.ntmps43, Exit.thenS, Array.replicate_succ]
  refine wpS_of_wp ?_
  go_wp2
  simp [bodyPostS, results, Tryd.results43]

theorem has32_any (s : List UInt8) (w : World) : Calls Tryd.prog 106 #[.string (strOf s), .string ⟨#[32]⟩] w fun e w' => e = .returned (.bool (s.contains 32)) ∧ w' = w := by
  refine (Any.strings_Contains_one { containsP with } (strOf s) 32 w).mono fun e w' ⟨he, hw⟩ => ⟨?_, hw⟩
  rw [he, show (strOf s).data.toList = s from by simp [strOf], index_has]
set_option maxHeartbeats 400000 in
theorem uname_any (s : List UInt8) (hl : s.length ≤ 1000000000) (w : World) : Calls Tryd.prog 93 #[.string (strOf s)] w (RetBool (nameU s) w) := by
  have hn := name_any s hl w
  unfold NameP at hn
  obtain ⟨n, hnn⟩ : ∃ n, n = nameE s := ⟨_, rfl⟩
  obtain ⟨c, hc⟩ : ∃ c, c = s.contains 32 := ⟨_, rfl⟩
  have hh := fun w => has32_any s w
  rw [← hc] at hh
  rw [← hnn] at hn
  have hu : nameU s = ((n == 0) && !c) := by unfold nameU; rw [← hnn, ← hc]
  rw [hu]
  clear hu hnn hc
  by_cases h0 : n = 0
  · subst h0
    have Hn := Lib.hid hn
    have Hh := Lib.hid hh
    clear hn hh
    go_enter Tryd.func93, Tryd.ntmps93
    go_wp2_with fail
    refine Hn.out.mono ?_
    rintro e w1 ⟨rfl, hk1⟩
    go_wp2_with fail
    refine (Hh.out w1).mono ?_
    rintro e w2 ⟨rfl, rfl⟩
    go_wp2_with fail
    go_ret
    exact ⟨by simp, hk1⟩
  · have h0b : (n == 0) = false := by simpa using h0
    rw [h0b]
    have Hn := Lib.hid hn
    have Hh := Lib.hid hh
    clear hn hh
    go_enter Tryd.func93, Tryd.ntmps93
    go_wp2_with fail
    refine Hn.out.mono ?_
    rintro e w1 ⟨rfl, hk1⟩
    go_wp2_with fail
    go_ret
    exact ⟨by simp, hk1⟩
set_option maxHeartbeats 400000 in
theorem uhas_any (F : Nat → Prop) (w : World) (p : Nat) (us : List (List UInt8)) (gs : List Grp) (s : List UInt8) (h : UT F w p us gs) (hl : us.length ≤ 1000000) :
    Calls Tryd.prog 41 #[.pointer (some ⟨p, 0, none⟩), .string (strOf s)] w (RetBool (us.contains s) w) := by
  obtain ⟨v1, v2, xs, h1, h2, -⟩ := h
  have hc0 := h1.cell 0
  simp at hc0
  have hcon := scontains_any v1 _ us s w h2.rd (by omega)
  clear h1 h2
  generalize us.contains s = b at hcon ⊢
  have Hcon := Lib.hid hcon
  clear hcon
  go_enter Tryd.func41, Tryd.ntmps41
  go_wp2_with fail
  refine Hcon.out.mono ?_
  rintro e w1 ⟨rfl, hk1⟩
  go_wp2_with fail
  go_ret
  exact ⟨rfl, hk1⟩
end Go.Proofs.YtnlmdfbjmhcilaaDoor
/-
  user: Table.user, Table.group.
-/
namespace Go.Proofs.YtnlmdfbjmhcilaaDoor
open Go.RowKit Go.Proofs Go.Shelf
attribute [local go_sem] strOf_size strOf_get strOf_toList

def More (F : Nat → Prop) (n : Nat) : Nat → Prop := fun b => F b ∨ n ≤ b
theorem row_str_ne {w : World} {v : Value} {l : List (List UInt8)} (h : recStr.Row w v l) {b : Nat} {T : TypeId} {cs : Array Value} (hb : Blk w b T cs) (ht : T ≠ 9) : v.ownBlock ≠ some b := by
  intro e
  rcases h.blk with ⟨rfl, -⟩ | ⟨b', c, rest, rfl, hb2, -⟩
  · simp [Value.ownBlock] at e
  · simp only [Value.ownBlock, Option.some.injEq] at e
    subst e
    exact absurd rfl (hb2.ne_ hb (fun e => ht e.symm))
theorem row_G_ne {w : World} {v : Value} {l : List GrpV} (h : recG.Row w v l) {b : Nat} {T : TypeId} {cs : Array Value} (hb : Blk w b T cs) (ht : T ≠ 79) : v.ownBlock ≠ some b := by
  intro e
  rcases h.blk with ⟨rfl, -⟩ | ⟨b', c, rest, rfl, hb2, -⟩
  · simp [Value.ownBlock] at e
  · simp only [Value.ownBlock, Option.some.injEq] at e
    subst e
    exact absurd rfl (hb2.ne_ hb (fun e => ht e.symm))
theorem row_SG_ne {w : World} {v v' : Value} {l : List (List UInt8)} {l' : List GrpV} (h : recStr.Row w v l) (h' : recG.Row w v' l') (b : Nat) (e : v.ownBlock = some b) : v'.ownBlock ≠ some b := by
  rcases h.blk with ⟨rfl, -⟩ | ⟨b', c, rest, rfl, hb2, -⟩
  · simp [Value.ownBlock] at e
  · simp only [Value.ownBlock, Option.some.injEq] at e
    subst e
    exact row_G_ne h' hb2 (by decide)
def UserP (F : Nat → Prop) (p : Nat) (us : List (List UInt8)) (s : List UInt8) (w : World) : Ending → World → Prop := fun e w' =>
  if userE us s = 0 then e = .returned (.tuple #[]) ∧ UT (More F w.heap.size) w' p (us ++ [s]) [] ∧ Keeps F w w' else e = panicU (userE us s) ∧ Keeps nowhere w w'
set_option maxHeartbeats 1000000 in
theorem uuser_any (F : Nat → Prop) (w : World) (p : Nat) (us : List (List UInt8)) (s : List UInt8) (h : UT F w p us []) (hl : us.length ≤ 1000000) (hs : s.length ≤ 1000000000) :
    Calls Tryd.prog 66 #[.pointer (some ⟨p, 0, none⟩), .string (strOf s)] w (UserP F p us s w) := by
  have hn := fun w => uname_any s hs w
  have hhas := fun w' (hk : Keeps nowhere w w') => uhas_any F w' p us [] s (h.same hk) hl
  cases hnu : nameU s with
  | false =>
    have hue : userE us s = 6 := by unfold userE; rw [hnu]; rfl
    rw [hnu] at hn
    unfold UserP
    rw [hue]
    have Hn := Lib.hid hn
    have Hhas := Lib.hid hhas
    have H := Lib.hid h
    have Hnu := Lib.hid hnu
    have Hue := Lib.hid hue
    clear hn hhas h hnu hue
    go_enter Tryd.func66, Tryd.ntmps66
    go_wp2_with fail
    refine (Hn.out w).mono ?_
    rintro e w1 ⟨rfl, hk1⟩
    go_wp2_with fail
    refine (must_bad 6 w1).mono ?_
    rintro e w2 ⟨rfl, rfl⟩
    exact ⟨rfl, rfl, hk1⟩
  | true =>
    rw [hnu] at hn
    cases hc : us.contains s with
    | true =>
      have hue : userE us s = 7 := by unfold userE; rw [hnu, hc]; rfl
      rw [hc] at hhas
      unfold UserP
      rw [hue]
      have Hn := Lib.hid hn
      have Hhas := Lib.hid hhas
      have H := Lib.hid h
      have Hnu := Lib.hid hnu
      have Hue := Lib.hid hue
      have Hc := Lib.hid hc
      clear hn hhas h hnu hue hc
      go_enter Tryd.func66, Tryd.ntmps66
      go_wp2_with fail
      refine (Hn.out w).mono ?_
      rintro e w1 ⟨rfl, hk1⟩
      go_wp2_with fail
      refine (must_ok 6 w1).mono ?_
      rintro e w2 ⟨rfl, rfl⟩
      go_wp2_with fail
      refine (Hhas.out w2 hk1).mono ?_
      rintro e w3 ⟨rfl, hk3⟩
      have hk13 := hk1.more hk3
      go_wp2_with fail
      refine (must_bad 7 w3).mono ?_
      rintro e w4 ⟨rfl, rfl⟩
      exact ⟨rfl, rfl, hk13⟩
    | false =>
      have hue : userE us s = 0 := by unfold userE; rw [hnu, hc]; rfl
      rw [hc] at hhas
      unfold UserP
      rw [hue]
      have Hn := Lib.hid hn
      have Hhas := Lib.hid hhas
      have H := Lib.hid h
      have Hnu := Lib.hid hnu
      have Hue := Lib.hid hue
      have Hc := Lib.hid hc
      clear hn hhas h hnu hue hc
      go_enter Tryd.func66, Tryd.ntmps66
      go_wp2_with fail
      refine (Hn.out w).mono ?_
      rintro e w1 ⟨rfl, hk1⟩
      go_wp2_with fail
      refine (must_ok 6 w1).mono ?_
      rintro e w2 ⟨rfl, rfl⟩
      go_wp2_with fail
      refine (Hhas.out w2 hk1).mono ?_
      rintro e w3 ⟨rfl, hk3⟩
      have hk13 := hk1.more hk3
      go_wp2_with fail
      refine (must_ok 7 w3).mono ?_
      rintro e w4 ⟨rfl, rfl⟩
      obtain ⟨v1, v2, xs, h1, h2, h3, h4, h5, h6, h7⟩ := H.out.same hk13
      have hx0 : xs = [] := List.eq_nil_of_length_eq_zero (by simpa using h4.1)
      subst hx0
      have c0 := h1.cell 0
      simp at c0
      have hka := (Keeps.refl nowhere w4).alloc (.cells #[.string (strOf s)] 9)
      have hrow := h2.same hka
      have hrd := RecT.Rd.one recStr w4 s
      have hlb : us.length + [s].length ≤ 100000000 := by simp; omega
      have hb5 := h1.keep hka (fun h => h)
      have hr5 := h3.same hka
      have hne5 := row_str_ne hrow hb5 (by decide)
      have hng5 : ∀ b, v2.ownBlock = some b → ¬ v1.ownBlock = some b := fun b e e2 => row_SG_ne hrow hr5 b e2 e
      clear hk1 hk3 h1 h2 h3 h4
      have Hk13 := Lib.hid hk13
      have Hrow := Lib.hid hrow
      have Hrd := Lib.hid hrd
      have Hlb := Lib.hid hlb
      have H5 := Lib.hid h5
      have H6 := Lib.hid h6
      have H7 := Lib.hid h7
      have Hka := Lib.hid hka
      have Hb5 := Lib.hid hb5
      have Hr5 := Lib.hid hr5
      have Hne5 := Lib.hid hne5
      have Hng5 := Lib.hid hng5
      clear hk13 hrow hrd hlb h5 h6 h7 hka hb5 hr5 hne5 hng5
      go_wp2_with (at_builtin; go_must (refine RecT.wpList_append (R := recStr) Tryd.underlying47 infoStr rfl (by decide) rfl (.tmp 16) (.tmp 18) rfl _ us rfl Hrow.out _ _ [s] rfl Hrd.out Hlb.out ?_))
      intro v6 w6 hrow6 hk6 hf6
      have hb6 := Hb5.out.keep hk6 (fun e => Hne5.out e)
      have hr6 := Hr5.out.keep hk6 (fun b hb e => Hng5.out b hb e)
      have c6 := hb6.cell 0
      have f6 := hb6.frozen 0
      simp at c6
      have hb7 := hb6.set_ 0 v6
      simp at hb7
      have hk7 : Keeps (only p) w6 (w6.setCell ⟨p, 0, none⟩ v6) := (Keeps.refl (only p) w6).setCell (p := ⟨p, 0, none⟩) (fun _ => rfl) v6
      have hne6 := row_str_ne hrow6 hb6 (by decide)
      have hrow7 := hrow6.keep hk7 (fun b e e2 => hne6 (by rw [e]; exact congrArg some e2))
      have hg6 := row_G_ne hr6 hb6 (by decide)
      have hr7 := hr6.keep hk7 (fun b e e2 => hg6 (by rw [e]; exact congrArg some e2))
      have hfin : UT (More F w.heap.size) (w6.setCell ⟨p, 0, none⟩ v6) p (us ++ [s]) [] := by
        refine ⟨v6, v2, [], hb7, hrow7, hr7, Each.nil, .inl H5.out, fun b e => ?_, fun b e => .inl (H7.out b e)⟩
        rcases hf6 b e with h | h
        · exact .inl (H6.out b h)
        · right
          have := Hk13.out.size
          have := Hka.out.size
          omega
      have hkf : Keeps F w (w6.setCell ⟨p, 0, none⟩ v6) := by
        have a1 : Keeps F w w6 := (Hk13.out.more Hka.out |>.mono (T := F) (fun _ _ h => h.elim)).trans hk6 (fun b hb e => H6.out b e)
        exact a1.setCell (p := ⟨p, 0, none⟩) (fun _ => H5.out) _
      obtain ⟨A6, d6, hv6, -⟩ := hrow6.form
      clear hk6 hf6 hb6 hr6 hb7 hk7 hne6 hrow7 hg6 hr7 hrow6
      have Hfin := Lib.hid hfin
      have Hkf := Lib.hid hkf
      clear hfin hkf
      generalize (us ++ [s]).length = N6 at hv6
      subst hv6
      go_wp2_with fail
      refine bodyPost_end (results_none rfl _ _ _) rfl ?_
      exact ⟨rfl, Hfin.out, Hkf.out⟩
end Go.Proofs.YtnlmdfbjmhcilaaDoor
/-
  user: slices.IndexFunc, ContainsFunc at groups; group$1, In$1; In.
-/
namespace Go.Proofs.YtnlmdfbjmhcilaaDoor
open Go.RowKit Go.Proofs Go.Shelf
attribute [local go_sem] strOf_size strOf_get strOf_toList

def PredG (g : Nat) (lb : Array Value) (xs : List GrpV) (q : Nat → Bool) (w : World) : Prop :=
  ∀ (W : World) (i : Nat) (j : GrpV), Keeps nowhere w W → xs[i]? = some j → Calls Tryd.prog g (#[j.val] ++ lb) W fun e w' => e = .returned (.bool (q i)) ∧ Keeps nowhere W w'
def FirstG (q : Nat → Bool) (n : Nat) (w : World) : Ending → World → Prop := fun e w' => ∃ x : Int, e = .returned (.int .i64 x) ∧ decide (0 ≤ x) = (List.range n).any q ∧ Keeps nowhere w w'
theorem any_hit {q : Nat → Bool} {n i : Nat} (hi : i < n) (h : q i = true) : (List.range n).any q = true := List.any_eq_true.2 ⟨i, List.mem_range.2 hi, h⟩
theorem any_miss {q : Nat → Bool} {n : Nat} (h : ∀ i, i < n → q i = false) : (List.range n).any q = false := List.any_eq_false.2 (fun i hi => by rw [h i (List.mem_range.1 hi)]; simp)
set_option maxHeartbeats 1000000 in
theorem gindex_any (g : Nat) (lb : Array Value) (q : Nat → Bool) (eg : ∀ args w, (callFunc g args).run Tryd.prog w = .ok (.enter g args) w) (v : Value) (gb : Option Nat) (l : List GrpV) (w : World)
    (hr : recG.Rd w v gb l) (hl : l.length ≤ 9223372036854775807) (hp : PredG g lb l q w) :
    Calls Tryd.prog 99 #[v, .func (.func g) #[] lb] w (FirstG q l.length w) := by
  obtain ⟨A, cap, rfl, h1, h2, hu, h3, -⟩ := hr
  obtain ⟨L, hL⟩ : ∃ L, L = l.length := ⟨_, rfl⟩
  rw [← hL] at hl ⊢
  have H3 := Lib.hid h3
  have Hu := Lib.hid hu
  have Hp := Lib.hid hp
  have HL := Lib.hid hL
  clear h3 hu hp hL
  go_enter Tryd.func99, Tryd.ntmps99
  go_wp2_with fail
  go_loopw [8] (fun iv wr => ∃ i : Nat, iv = .int .i64 i ∧ i ≤ L ∧ Keeps nowhere w wr ∧ ∀ j, j < i → q j = false) (fun iv _ => L - (intOf iv).toNat)
  case atStart => exact ⟨0, rfl, Nat.zero_le _, Keeps.refl _ _, fun j hj => absurd hj (by omega)⟩
  case round =>
    obtain ⟨i, rfl, hi, hk, hno⟩ := hrel
    by_cases hlt : i < L
    · have hltI : (i : Int) < L := by omega
      have hi0 : (0 : Int) ≤ (i : Int) := by omega
      have hi1 : IntKind.i64.wrap ((i : Int) + 1) = i + 1 := IntWalk.i64_in _ (by omega)
      obtain ⟨b, off, rfl, hg, hc⟩ := H3.out (by rw [← HL.out]; omega)
      have hil : i < l.length := by rw [← HL.out]; exact hlt
      obtain ⟨t, ht⟩ : ∃ t, l[i]? = some t := ⟨_, List.getElem?_eq_getElem hil⟩
      have hj := (hc i _ ht).keep hk (Hu.out b hg) (fun h => h)
      have hcall := Hp.out wr i t hk ht
      clear hc
      obtain ⟨d0, d1⟩ := atG hj
      rw [show i * recG.n = i * 2 from rfl] at d0 d1
      clear hj
      unfold GrpV.val at hcall
      cases hpt : q i with
      | true =>
        rw [hpt] at hcall
        have hfin := any_hit hlt hpt
        have Hk := Lib.hid hk
        have Hno := Lib.hid hno
        have Ht := Lib.hid ht
        have Hcall := Lib.hid hcall
        have Hg := Lib.hid hg
        have Hil := Lib.hid hil
        have Hfin := Lib.hid hfin
        clear hk hno ht hcall hg hil hfin
        go_wp2_with fail
        refine Hcall.out.mono ?_
        rintro e w1 ⟨rfl, hk1⟩
        have hk2 := Hk.out.more hk1
        clear hk1
        have Hk2 := Lib.hid hk2
        clear hk2
        go_wp2_with fail
        go_ret
        exact ⟨(i : Int), rfl, by rw [Hfin.out]; simp, Hk2.out⟩
      | false =>
        rw [hpt] at hcall
        have Hk := Lib.hid hk
        have Hno := Lib.hid hno
        have Ht := Lib.hid ht
        have Hcall := Lib.hid hcall
        have Hg := Lib.hid hg
        have Hil := Lib.hid hil
        clear hk hno ht hcall hg hil
        go_wp2_with fail
        refine Hcall.out.mono ?_
        rintro e w1 ⟨rfl, hk1⟩
        have hk2 := Hk.out.more hk1
        clear hk1
        have Hk2 := Lib.hid hk2
        clear hk2
        go_wp2_with fail
        go_roundw
        case rel => exact ⟨i + 1, by simp, by omega, Hk2.out, fun j hj => by
          by_cases e : j = i
          · subst e; exact hpt
          · exact Hno.out j (by omega)⟩
        case measure => simp [intOf]; omega
    · obtain rfl : i = L := by omega
      have hfin := any_miss hno
      have Hk := Lib.hid hk
      have Hno := Lib.hid hno
      have Hfin := Lib.hid hfin
      clear hk hno hfin
      go_wp2_with fail
      go_ret
      exact ⟨(-1 : Int), rfl, by rw [Hfin.out]; rfl, Hk.out⟩
theorem gcontains_any (g : Nat) (lb : Array Value) (q : Nat → Bool) (eg : ∀ args w, (callFunc g args).run Tryd.prog w = .ok (.enter g args) w) (v : Value) (gb : Option Nat) (l : List GrpV) (w : World)
    (hr : recG.Rd w v gb l) (hl : l.length ≤ 9223372036854775807) (hp : PredG g lb l q w) :
    Calls Tryd.prog 71 #[v, .func (.func g) #[] lb] w (RetBool ((List.range l.length).any q) w) := by
  have hI := gindex_any g lb q eg v gb l w hr hl hp
  clear hr hp
  have HI := Lib.hid hI
  clear hI
  go_enter Tryd.func71, Tryd.ntmps71
  go_wp2_with fail
  refine HI.out.mono ?_
  rintro e w1 ⟨x, rfl, hx, hk1⟩
  have Hk1 := Lib.hid hk1
  have Hx := Lib.hid hx
  clear hk1 hx
  go_wp2_with fail
  go_ret
  exact ⟨by rw [← Hx.out]; rfl, Hk1.out⟩
set_option maxHeartbeats 400000 in
theorem group1_any (p : Nat) (x j : GrpV) (w : World) (hb : Blk w p 79 #[.string (strOf x.nm), .slice x.A x.n x.c]) :
    Calls Tryd.prog 94 (#[j.val] ++ #[.pointer (some ⟨p, 0, none⟩)]) w fun e w' => e = .returned (.bool (j.nm == x.nm)) ∧ Keeps nowhere w w' := by
  have hka := (Keeps.refl nowhere w).alloc (.cells #[.string (strOf j.nm), .slice j.A j.n j.c] 79)
  have c0 := (hb.keep hka (fun h => h)).cell 0
  simp at c0
  clear hb
  have Hka := Lib.hid hka
  clear hka
  unfold GrpV.val
  by_cases h : j.nm = x.nm
  · have he : ((strOf j.nm).toList == (strOf x.nm).toList) = true := by rw [h]; simp
    have hb : (j.nm == x.nm) = true := by simpa using h
    rw [hb]
    clear h
    go_enter Tryd.func94, Tryd.ntmps94
    go_wp2_with fail
    go_ret
    exact ⟨rfl, Hka.out⟩
  · have he : ((strOf j.nm).toList == (strOf x.nm).toList) = false := by rw [strOf_toList, strOf_toList]; simpa using h
    have hb : (j.nm == x.nm) = false := by simpa using h
    rw [hb]
    clear h
    go_enter Tryd.func94, Tryd.ntmps94
    go_wp2_with fail
    go_ret
    exact ⟨rfl, Hka.out⟩
set_option maxHeartbeats 400000 in
theorem in1_any (p q : Nat) (grp who : List UInt8) (j : GrpV) (ms : List (List UInt8)) (k : Option Nat) (w : World) (hb : Blk w p 9 #[.string (strOf grp)]) (hq : Blk w q 9 #[.string (strOf who)])
    (hm : recStr.Rd w j.sl k ms) (hl : ms.length ≤ 1000000) :
    Calls Tryd.prog 72 (#[j.val] ++ #[.pointer (some ⟨p, 0, none⟩), .pointer (some ⟨q, 0, none⟩)]) w fun e w' => e = .returned (.bool (j.nm == grp && ms.contains who)) ∧ Keeps nowhere w w' := by
  have hka := (Keeps.refl nowhere w).alloc (.cells #[.string (strOf j.nm), .slice j.A j.n j.c] 79)
  have c0 := (hb.keep hka (fun h => h)).cell 0
  have d0 := (hq.keep hka (fun h => h)).cell 0
  simp at c0 d0
  have hcon := scontains_any _ _ ms who _ (hm.same hka) (by omega)
  clear hb hq hm
  have Hka := Lib.hid hka
  have Hcon := Lib.hid hcon
  clear hka hcon
  unfold GrpV.sl at Hcon
  unfold GrpV.val
  by_cases h : j.nm = grp
  · have he : ((strOf j.nm).toList == (strOf grp).toList) = true := by rw [h]; simp
    have hb : (j.nm == grp) = true := by simpa using h
    rw [hb]
    clear h
    go_enter Tryd.func72, Tryd.ntmps72
    go_wp2_with fail
    refine Hcon.out.mono ?_
    rintro e w1 ⟨rfl, hk1⟩
    have hk2 := Hka.out.more hk1
    go_wp2_with fail
    go_ret
    exact ⟨by simp, hk2⟩
  · have he : ((strOf j.nm).toList == (strOf grp).toList) = false := by rw [strOf_toList, strOf_toList]; simpa using h
    have hb : (j.nm == grp) = false := by simpa using h
    rw [hb]
    clear h
    go_enter Tryd.func72, Tryd.ntmps72
    go_wp2_with fail
    go_ret
    exact ⟨by simp, Hka.out⟩
theorem any_range {β : Type} (f : β → Bool) (gs : List β) : (List.range gs.length).any (fun i => (gs[i]?.map f).getD false) = gs.any f := by
  rw [Bool.eq_iff_iff, List.any_eq_true, List.any_eq_true]
  constructor
  · rintro ⟨i, hi, h⟩
    have hi' := List.mem_range.1 hi
    rw [List.getElem?_eq_getElem hi'] at h
    exact ⟨gs[i], List.getElem_mem _, by simpa using h⟩
  · rintro ⟨x, hx, h⟩
    obtain ⟨i, hi, rfl⟩ := List.getElem_of_mem hx
    exact ⟨i, List.mem_range.2 hi, by rw [List.getElem?_eq_getElem hi]; simpa using h⟩
set_option maxHeartbeats 1000000 in
theorem uin_any (F : Nat → Prop) (w : World) (p : Nat) (us : List (List UInt8)) (gs : List Grp) (who grp : List UInt8) (h : UT F w p us gs) (hl : us.length ≤ 1000000) (hl2 : gs.length ≤ 1000000) (hl3 : ∀ g ∈ gs, g.ms.length ≤ 1000000) :
    Calls Tryd.prog 42 #[.pointer (some ⟨p, 0, none⟩), .string (strOf who), .string (strOf grp)] w (RetBool (inU us gs who grp) w) := by
  obtain ⟨q1, hq1⟩ : ∃ q1, q1 = w.heap.size := ⟨_, rfl⟩
  obtain ⟨q2, hq2⟩ : ∃ q2, q2 = w.heap.size + 1 := ⟨_, rfl⟩
  obtain ⟨w1, hw1⟩ : ∃ w1, w1 = (w.alloc (.cells #[.string (strOf who)] 9)).alloc (.cells #[.string (strOf grp)] 9) := ⟨_, rfl⟩
  have hk1 : Keeps nowhere w w1 := by rw [hw1]; exact ((Keeps.refl nowhere w).alloc _).alloc _
  have hb1 : Blk w1 q1 9 #[.string (strOf who)] := by rw [hw1, hq1]; exact (Blk.new _ _ _).alloc _
  have hb2 : Blk w1 q2 9 #[.string (strOf grp)] := by
    rw [hw1, hq2]
    have := Blk.new (w.alloc (.cells #[.string (strOf who)] 9)) 9 #[.string (strOf grp)]
    rwa [World.size_alloc] at this
  have hhas := uhas_any F w1 p us gs who (h.same hk1) hl
  have h' := h
  cases hc : us.contains who with
  | false =>
    have hf : inU us gs who grp = false := by unfold inU; rw [hc]; rfl
    rw [hc] at hhas
    rw [hf]
    clear h'
    have Hw1 := Lib.hid hw1
    have Hq1 := Lib.hid hq1
    have Hq2 := Lib.hid hq2
    have Hk1 := Lib.hid hk1
    have Hb1 := Lib.hid hb1
    have Hb2 := Lib.hid hb2
    have Hhas := Lib.hid hhas
    have H := Lib.hid h
    have Hc := Lib.hid hc
    have Hf := Lib.hid hf
    clear hw1 hq1 hq2 hk1 hb1 hb2 hhas h hc hf
    go_enter Tryd.func42, Tryd.ntmps42
    go_upto_region 1 with fail
    rw [← Hw1.out]
    simp only [← Hq2.out]
    simp only [← Hq1.out]
    have c1 := Hb1.out.cell 0
    have c2 := Hb2.out.cell 0
    simp at c1 c2
    go_wp2_with fail
    refine Hhas.out.mono ?_
    rintro e w2 ⟨rfl, hk2⟩
    have hk12 := Hk1.out.more hk2
    go_wp2_with fail
    go_ret
    exact ⟨rfl, hk12⟩
  | true =>
    rw [hc] at hhas
    have hsz : w.heap.size + 2 = w1.heap.size := by rw [hw1]; simp
    by_cases hwg : who = grp
    · have hf : inU us gs who grp = true := by unfold inU; rw [hc, hwg]; simp
      have he : ((strOf who).toList == (strOf grp).toList) = true := by rw [hwg]; simp
      have he2 : (who == grp) = true := by rw [hwg]; simp
      rw [hf]
      clear h' hwg
      have Hw1 := Lib.hid hw1
      have Hq1 := Lib.hid hq1
      have Hq2 := Lib.hid hq2
      have Hk1 := Lib.hid hk1
      have Hb1 := Lib.hid hb1
      have Hb2 := Lib.hid hb2
      have Hhas := Lib.hid hhas
      have H := Lib.hid h
      have Hc := Lib.hid hc
      have Hf := Lib.hid hf
      clear hw1 hq1 hq2 hk1 hb1 hb2 hhas h hc hf
      go_enter Tryd.func42, Tryd.ntmps42
      go_upto_region 1 with fail
      rw [← Hw1.out]
      simp only [← Hq2.out]
      simp only [← Hq1.out]
      have c1 := Hb1.out.cell 0
      have c2 := Hb2.out.cell 0
      simp at c1 c2
      go_wp2_with fail
      refine Hhas.out.mono ?_
      rintro e w2 ⟨rfl, hk2⟩
      have hk12 := Hk1.out.more hk2
      have d1 := (Hb1.out.keep hk2 (fun h => h)).cell 0
      have d2 := (Hb2.out.keep hk2 (fun h => h)).cell 0
      simp at d1 d2
      go_wp2_with fail
      go_ret
      exact ⟨rfl, hk12⟩
    · have he : ((strOf who).toList == (strOf grp).toList) = false := by rw [strOf_toList, strOf_toList]; simpa using hwg
      have hwb : (who == grp) = false := by simpa using hwg
      have hf : inU us gs who grp = (List.range gs.length).any (fun i => (gs[i]?.map (fun x => x.nm == grp && x.ms.contains who)).getD false) := by
        rw [any_range]; unfold inU; rw [hc, hwb]; simp
      rw [hf]
      have eg1 : ∀ args w, (callFunc 72 args).run Tryd.prog w = .ok (.enter 72 args) w := enters_of Tryd.func72 (by kernel_rfl) rfl
      obtain ⟨v1, v2, xs, k1, k2, k3, k4, -⟩ := h.same hk1
      have hcon : ∀ W, Keeps nowhere w1 W → Calls Tryd.prog 71 #[v2, .func (.func 72) #[] #[.pointer (some ⟨q2, 0, none⟩), .pointer (some ⟨q1, 0, none⟩)]] W (RetBool ((List.range gs.length).any (fun i => (gs[i]?.map (fun x => x.nm == grp && x.ms.contains who)).getD false)) W) := by
        intro W hW
        rw [← k4.1]
        refine gcontains_any _ _ _ eg1 v2 _ xs W (k3.rd.same hW) (by rw [k4.1]; omega) ?_
        intro W' i j hW' hj
        obtain ⟨g, hg1, hg2, hg3, -⟩ := k4.2 i j hj
        have hkk := hW.more hW'
        have := in1_any q2 q1 grp who j g.ms _ W' (hb2.keep hkk (fun h => h)) (hb1.keep hkk (fun h => h)) (hg3.rd.same hkk) (hl3 g (List.mem_of_getElem? hg1))
        exact this.mono fun e w' h => ⟨by rw [h.1]; simp only [hg1, Option.map_some, Option.getD_some, hg2], h.2⟩
      clear h h' k2 k3 k4
      generalize (List.range gs.length).any (fun i => (gs[i]?.map (fun x => x.nm == grp && x.ms.contains who)).getD false) = bb at hcon hf ⊢
      have Hw1 := Lib.hid hw1
      have Hq1 := Lib.hid hq1
      have Hq2 := Lib.hid hq2
      have Hk1 := Lib.hid hk1
      have Hb1 := Lib.hid hb1
      have Hb2 := Lib.hid hb2
      have Hhas := Lib.hid hhas
      have Hc := Lib.hid hc
      have Hf := Lib.hid hf
      have Hcon := Lib.hid hcon
      have K1 := Lib.hid k1
      clear hw1 hq1 hq2 hk1 hb1 hb2 hhas hc hf hcon k1
      go_enter Tryd.func42, Tryd.ntmps42
      go_upto_region 1 with fail
      rw [← Hw1.out]
      simp only [← Hq2.out]
      simp only [← Hq1.out]
      have c1 := Hb1.out.cell 0
      have c2 := Hb2.out.cell 0
      simp at c1 c2
      go_wp2_with fail
      refine Hhas.out.mono ?_
      rintro e w2 ⟨rfl, hk2⟩
      have hk12 := Hk1.out.more hk2
      have d1 := (Hb1.out.keep hk2 (fun h => h)).cell 0
      have d2 := (Hb2.out.keep hk2 (fun h => h)).cell 0
      have d3 := (K1.out.keep hk2 (fun h => h)).cell 1
      simp at d1 d2 d3
      have Hk2 := Lib.hid hk2
      have Hk12 := Lib.hid hk12
      clear hk2 hk12
      go_wp2_with fail
      refine (Hcon.out w2 Hk2.out).mono ?_
      rintro e w3 ⟨rfl, hk3⟩
      have hk13 := Hk12.out.more hk3
      go_wp2_with fail
      go_ret
      exact ⟨rfl, hk13⟩
end Go.Proofs.YtnlmdfbjmhcilaaDoor
/-
  A slice literal of one record: the block that it lays. Plain words.
-/
namespace Go.Proofs.YtnlmdfbjmhcilaaDoor
open Go.RowKit
namespace RecT
theorem fold_sets (off : Nat) : ∀ (l : List Value) (k : Nat) (cs : Array Value), ((l.zipIdx k).foldl (fun cs p => cs.setIfInBounds (off + p.2) p.1) cs).toList = sets cs.toList (off + k) l
  | [], k, cs => rfl
  | u :: us, k, cs => by
    rw [List.zipIdx_cons, List.foldl_cons, fold_sets off us (k + 1), Array.toList_setIfInBounds]
    rfl
theorem fill_one {n : Nat} (v : Value) (cells : Array Value) (h1 : v.cells.size = n) (h2 : cells.size = n) : Instr.fill (fun i => some (i * n, n)) cells [(0, v)] = some v.cells := by
  unfold Instr.fill
  simp only [h1, h2, Nat.zero_mul, Nat.zero_add, Nat.lt_irrefl, gt_iff_lt, decide_false, Bool.or_false, ne_eq, not_true_eq_false]
  unfold Instr.fill
  simp only [Bool.false_eq_true, if_false, Option.some.injEq]
  apply Array.toList_inj.1
  have := fold_sets 0 v.cells.toList 0 cells
  have e := sets_app v.cells.toList [] cells.toList [] (by simp [h1, h2])
  simp only [List.nil_append, List.append_nil, List.length_nil] at e
  rw [Nat.add_zero, e] at this
  simp only [Nat.zero_add] at this
  rw [← this, ← Array.foldl_toList]
  simp
variable {α : Type} {R : RecT α}
theorem run_buildOne {P : Program} {ts : TypeId} {z : Value} {by_ : Nat} (ht : P.underlying ts = some (.slice R.t)) (hinfo : (P.info? R.t).map (fun i => (i.zero, i.size, i.bytes)) = some (some z, R.n, by_)) (hn : R.n ≤ 1000) (w : World) (v : Value) (x : α) (hv : v.cells = (R.cs x).toArray) :
    (Instr.buildSlice ts 1 #[(0, v)]).run P w = .ok (.slice (some ⟨w.heap.size, 0, none⟩) 1 1) (w.alloc (.cells (R.cs x).toArray R.t)) := by
  obtain ⟨i0, hi, hz0, hz1, hz2⟩ := info_parts hinfo
  have hp := R.pos
  have h1 : ¬ 1 * i0.size > 2 ^ 24 := by rw [hz1]; omega
  have h2 : ¬ 1 * i0.size = 0 := by rw [hz1]; omega
  have hf := fill_one (n := R.n) v ((Array.range (1 * i0.size)).map (fun j => z.cells[j % z.cells.size]!)) (by rw [hv]; simp [R.len]) (by simp [hz1])
  rw [hz1, Nat.one_mul] at h1 h2
  rw [hz1, Nat.one_mul] at hf
  simp [Instr.buildSlice, run_underlying ht, sizeOf, typeInfo, zeroValue, hi, hz0, hz1, h1, h2, hf, newRow, hv]
theorem wpList_buildOne {P : Program} {ops : Array Oper} {rest : List Oper} {o : Oper} {a : Act} {w : World} {Q : Exit → Act → World → Prop} {ts : TypeId} {z : Value} {by_ : Nat}
    (ht : P.underlying ts = some (.slice R.t)) (hinfo : (P.info? R.t).map (fun i => (i.zero, i.size, i.bytes)) = some (some z, R.n, by_)) (hn : R.n ≤ 1000)
    (hgd : o.guard = none) (s : Operand) (ho : o.op = .buildSlice ts 1 #[(0, s)]) (v : Value) (hs : a.eval s = v) (x : α) (hv : v.cells = (R.cs x).toArray)
    (h : wpList P ops Q rest (a.put o.dst (.slice (some ⟨w.heap.size, 0, none⟩) 1 1)) (w.alloc (.cells (R.cs x).toArray R.t))) : wpList P ops Q (o :: rest) a w :=
  wpList_plain hgd fun K hK => by
    unfold Oper.wp execOp
    simp only [ho, Sem.run_bind, List.map_toArray, List.map_cons, List.map_nil, hs, run_buildOne ht hinfo hn w v x hv, Result.andThen_ok]
    exact hK _ _ h
end RecT
end Go.Proofs.YtnlmdfbjmhcilaaDoor
/-
  user: Table.group.
-/
namespace Go.Proofs.YtnlmdfbjmhcilaaDoor
open Go.RowKit Go.Proofs Go.Shelf
attribute [local go_sem] strOf_size strOf_get strOf_toList

def GroupP (F : Nat → Prop) (p : Nat) (us : List (List UInt8)) (gs : List Grp) (g : Grp) (w : World) : Ending → World → Prop := fun e w' =>
  if groupE us gs g = 0 then e = .returned (.tuple #[]) ∧ UT (More F w.heap.size) w' p us (gs ++ [g]) ∧ Keeps F w w' else e = panicU (groupE us gs g) ∧ Keeps nowhere w w'
theorem GroupP.bad {F : Nat → Prop} {p : Nat} {us : List (List UInt8)} {gs : List Grp} {g : Grp} {w w' : World} {x : Int} (h : groupE us gs g = x) (h0 : x ≠ 0) (hk : Keeps nowhere w w') : GroupP F p us gs g w (panicU x) w' := by
  unfold GroupP; rw [h, if_neg h0]; exact ⟨rfl, hk⟩
theorem GroupP.good {F : Nat → Prop} {p : Nat} {us : List (List UInt8)} {gs : List Grp} {g : Grp} {w w' : World} (h : groupE us gs g = 0) (h1 : UT (More F w.heap.size) w' p us (gs ++ [g])) (hk : Keeps F w w') : GroupP F p us gs g w (.returned (.tuple #[])) w' := by
  unfold GroupP; rw [h, if_pos rfl]; exact ⟨rfl, h1, hk⟩
theorem membersE_step {us ms : List (List UInt8)} {i : Nat} {m : List UInt8} (hm : ms[i]? = some m) :
    membersE us (ms.take i) (ms.drop i) = if us.contains m = false then 6 else if (ms.take i).contains m = true then 7 else membersE us (ms.take (i + 1)) (ms.drop (i + 1)) := by
  obtain ⟨hi, rfl⟩ := List.getElem?_eq_some_iff.1 hm
  rw [List.drop_eq_getElem_cons hi, List.take_succ_eq_append_getElem hi]
  rfl
set_option maxRecDepth 8000 in
set_option maxHeartbeats 4000000 in
theorem ugroup_any (F : Nat → Prop) (w : World) (p : Nat) (us : List (List UInt8)) (gs : List Grp) (g : Grp) (x : GrpV) (h : UT F w p us gs) (hx : GRd w x g) (hl : us.length ≤ 1000000) (hl2 : gs.length ≤ 1000000) (hl3 : g.ms.length ≤ 1000000) (hs : g.nm.length ≤ 1000000000) :
    Calls Tryd.prog 67 #[.pointer (some ⟨p, 0, none⟩), x.val] w (GroupP F p us gs g w) := by
  obtain ⟨nm, A, n, c⟩ := x
  obtain ⟨e1, k, hms⟩ := hx
  simp only at e1
  subst e1
  unfold GrpV.sl at hms
  simp only at hms
  obtain ⟨hn, hcn, hcm⟩ : n = g.ms.length ∧ n ≤ c ∧ c ≤ maxLen := by
    obtain ⟨A', c', hv, j1, j2, -⟩ := id hms
    injection hv with _ i2 i3
    subst i3
    exact ⟨i2, by omega, j2⟩
  have hnb : n ≤ 1000000 := by omega
  have Hn := Lib.hid hn
  clear hn
  obtain ⟨q, hq⟩ : ∃ q, q = w.heap.size := ⟨_, rfl⟩
  obtain ⟨w1, hw1⟩ : ∃ w1, w1 = w.alloc (.cells #[.string (strOf g.nm), .slice A n c] 79) := ⟨_, rfl⟩
  have hk1 : Keeps nowhere w w1 := by rw [hw1]; exact (Keeps.refl nowhere w).alloc _
  have hb1 : Blk w1 q 79 #[.string (strOf g.nm), .slice A n c] := by rw [hw1, hq]; exact Blk.new _ _ _
  have h1 := h.same hk1
  have hm1 := hms.same hk1
  have hname := uname_any g.nm hs w1
  unfold GrpV.val
  simp only
  cases hnu : nameU g.nm with
  | false =>
    have hge : groupE us gs g = 6 := by unfold groupE; rw [hnu]; rfl
    rw [hnu] at hname
    have Hq := Lib.hid hq
    have Hw1 := Lib.hid hw1
    have Hk1 := Lib.hid hk1
    have Hb1 := Lib.hid hb1
    have H1 := Lib.hid h1
    have Hm1 := Lib.hid hm1
    have Hname := Lib.hid hname
    have Hge := Lib.hid hge
    have Hms := Lib.hid hms
    have H := Lib.hid h
    have Hnu := Lib.hid hnu
    clear hq hw1 hk1 hb1 h1 hm1 hname hge hms h hnu
    go_enter Tryd.func67, Tryd.ntmps67
    go_upto_region 1 with fail
    rw [← Hw1.out]
    simp only [← Hq.out]
    have c0 := Hb1.out.cell 0
    simp at c0
    go_wp2_with fail
    refine Hname.out.mono ?_
    rintro e w2 ⟨rfl, hk2⟩
    have hk02 := Hk1.out.more hk2
    go_wp2_with fail
    refine (must_bad 6 w2).mono ?_
    rintro e w3 ⟨rfl, rfl⟩
    exact ⟨rfl, GroupP.bad Hge.out (by decide) hk02⟩
  | true =>
    rw [hnu] at hname
    have eg1 : ∀ args w, (callFunc 94 args).run Tryd.prog w = .ok (.enter 94 args) w := enters_of Tryd.func94 (by kernel_rfl) rfl
    obtain ⟨v1, v2, xs, k1, k2, k3, k4, k5, k6, k7⟩ := id h1
    obtain ⟨b, hbb⟩ : ∃ b, b = gs.any (fun y => y.nm == g.nm) := ⟨_, rfl⟩
    have hcon : ∀ W, Keeps nowhere w1 W → Calls Tryd.prog 71 #[v2, .func (.func 94) #[] #[.pointer (some ⟨q, 0, none⟩)]] W (RetBool b W) := by
      intro W hW
      rw [hbb, ← any_range, ← k4.1]
      refine gcontains_any _ _ _ eg1 v2 _ xs W (k3.rd.same hW) (by rw [k4.1]; omega) ?_
      intro W' i j hW' hj
      obtain ⟨y, hg1, hg2, hg3, -⟩ := k4.2 i j hj
      have hkk := hW.more hW'
      have := group1_any q ⟨g.nm, A, n, c⟩ j W' (hb1.keep hkk (fun h => h))
      exact this.mono fun e w' h => ⟨by rw [h.1]; simp only [hg1, Option.map_some, Option.getD_some, hg2], h.2⟩
    have hcv : ∀ W, Keeps nowhere w1 W → W.cell? ⟨p, 1, none⟩ = some v2 := fun W hW => by simpa using (k1.keep hW (fun h => h)).cell 1
    clear k1 k2 k3 k4 k5 k6 k7
    cases hb2 : b with
    | true =>
      have hge : groupE us gs g = 7 := by unfold groupE; rw [hnu, ← hbb, hb2]; rfl
      rw [hb2] at hcon
      have Hq := Lib.hid hq
      have Hw1 := Lib.hid hw1
      have Hk1 := Lib.hid hk1
      have Hb1 := Lib.hid hb1
      have H1 := Lib.hid h1
      have Hm1 := Lib.hid hm1
      have Hname := Lib.hid hname
      have Hge := Lib.hid hge
      have Hms := Lib.hid hms
      have H := Lib.hid h
      have Hnu := Lib.hid hnu
      have Hcon := Lib.hid hcon
      have Hbb := Lib.hid hbb
      have Hcv := Lib.hid hcv
      clear hq hw1 hk1 hb1 h1 hm1 hname hge hms h hnu hcon hbb hcv
      go_enter Tryd.func67, Tryd.ntmps67
      go_upto_region 1 with fail
      rw [← Hw1.out]
      simp only [← Hq.out]
      have c0 := Hb1.out.cell 0
      simp at c0
      go_wp2_with fail
      refine Hname.out.mono ?_
      rintro e w2 ⟨rfl, hk2⟩
      have hk02 := Hk1.out.more hk2
      have d3 := Hcv.out w2 hk2
      have Hk2 := Lib.hid hk2
      have Hk02 := Lib.hid hk02
      clear hk2 hk02
      go_wp2_with fail
      refine (must_ok 6 w2).mono ?_
      rintro e w3 ⟨rfl, rfl⟩
      go_wp2_with fail
      refine (Hcon.out w3 Hk2.out).mono ?_
      rintro e w4 ⟨rfl, hk4⟩
      have hk04 := Hk02.out.more hk4
      go_wp2_with fail
      refine (must_bad 7 w4).mono ?_
      rintro e w5 ⟨rfl, rfl⟩
      exact ⟨rfl, GroupP.bad Hge.out (by decide) hk04⟩
    | false =>
      have hge : groupE us gs g = membersE us (g.ms.take 0) (g.ms.drop 0) := by unfold groupE; rw [hnu, ← hbb, hb2]; rfl
      rw [hb2] at hcon
      have Hq := Lib.hid hq
      have Hw1 := Lib.hid hw1
      have Hk1 := Lib.hid hk1
      have Hb1 := Lib.hid hb1
      have H1 := Lib.hid h1
      have Hm1 := Lib.hid hm1
      have Hname := Lib.hid hname
      have Hge := Lib.hid hge
      have Hms := Lib.hid hms
      have H := Lib.hid h
      have Hnu := Lib.hid hnu
      have Hcon := Lib.hid hcon
      have Hbb := Lib.hid hbb
      have Hcv := Lib.hid hcv
      clear hq hw1 hk1 hb1 h1 hm1 hname hge hms h hnu hcon hbb hcv
      go_enter Tryd.func67, Tryd.ntmps67
      go_upto_region 1 with fail
      rw [← Hw1.out]
      simp only [← Hq.out]
      have c0 := Hb1.out.cell 0
      simp at c0
      go_wp2_with fail
      refine Hname.out.mono ?_
      rintro e w2 ⟨rfl, hk2⟩
      have hk02 := Hk1.out.more hk2
      have d3 := Hcv.out w2 hk2
      have Hk2 := Lib.hid hk2
      have Hk02 := Lib.hid hk02
      clear hk2 hk02
      go_wp2_with fail
      refine (must_ok 6 w2).mono ?_
      rintro e w3 ⟨rfl, rfl⟩
      go_wp2_with fail
      refine (Hcon.out w3 Hk2.out).mono ?_
      rintro e w4 ⟨rfl, hk4⟩
      have hk04 := Hk02.out.more hk4
      have hk14 := Hk2.out.more hk4
      have c1 := (Hb1.out.keep hk14 (fun h => h)).cell 1
      simp at c1
      have Hk04 := Lib.hid hk04
      have Hk14 := Lib.hid hk14
      clear hk4 hk04 hk14
      go_wp2_with fail
      refine (must_ok 7 w4).mono ?_
      rintro e w5 ⟨rfl, rfl⟩
      clear d3 c0
      go_wp2_with fail
      clear c1
      go_loopw [21] (fun iv wr => ∃ i : Nat, iv = .int .i64 i ∧ i ≤ n ∧ Keeps nowhere w1 wr ∧ groupE us gs g = membersE us (g.ms.take i) (g.ms.drop i)) (fun iv _ => n - (intOf iv).toNat)
      case atStart => exact ⟨0, rfl, Nat.zero_le _, Hk14.out, Hge.out⟩
      case round =>
        obtain ⟨i, rfl, hi, hk, hme⟩ := hrel
        have e0 := (Hb1.out.keep hk (fun h => h)).cell 0
        have e1 := (Hb1.out.keep hk (fun h => h)).cell 1
        simp at e0 e1
        by_cases hlt : i < n
        · have hltI : (i : Int) < n := by omega
          have hi0 : (0 : Int) ≤ (i : Int) := by omega
          have hi1 : IntKind.i64.wrap ((i : Int) + 1) = i + 1 := IntWalk.i64_in _ (by omega)
          have hic : (i : Int) ≤ c := by omega
          have hil : i < g.ms.length := by rw [← Hn.out]; exact hlt
          obtain ⟨m, hm⟩ : ∃ m, g.ms[i]? = some m := ⟨_, List.getElem?_eq_getElem hil⟩
          obtain ⟨bb, oo, rfl, d0⟩ := rdSt_cell (Hm1.out.same hk) hm
          have hhas := uhas_any F wr p us gs m (H1.out.same hk) hl
          have htk := (Hm1.out.same hk).take i (by rw [← Hn.out]; omega)
          have hcm := fun w' (hh : Keeps nowhere wr w') => scontains_any _ _ _ m w' (htk.same hh) (Nat.le_trans (List.length_take_le _ _) (by omega))
          rw [membersE_step hm] at hme
          clear htk
          cases hu : us.contains m with
          | false =>
            rw [hu] at hhas
            rw [hu, if_pos rfl] at hme
            have Hhas := Lib.hid hhas
            have Hcm := Lib.hid hcm
            have Hme := Lib.hid hme
            have Hk := Lib.hid hk
            have Hm := Lib.hid hm
            have Hu := Lib.hid hu
            clear hhas hcm hme hk hm hu
            go_wp2_with fail
            refine Hhas.out.mono ?_
            rintro e w6 ⟨rfl, hk6⟩
            have hk06 := Hk1.out.more (Hk.out.more hk6)
            go_wp2_with fail
            refine (must_bad 6 w6).mono ?_
            rintro e w7 ⟨rfl, rfl⟩
            exact ⟨rfl, GroupP.bad Hme.out (by decide) hk06⟩
          | true =>
            rw [hu] at hhas
            rw [hu, if_neg (by decide)] at hme
            cases ht : (g.ms.take i).contains m with
            | true =>
              rw [ht] at hcm
              rw [ht, if_pos rfl] at hme
              have Hhas := Lib.hid hhas
              have Hcm := Lib.hid hcm
              have Hme := Lib.hid hme
              have Hk := Lib.hid hk
              have Hm := Lib.hid hm
              have Hu := Lib.hid hu
              have Ht := Lib.hid ht
              clear hhas hcm hme hk hm hu ht
              go_wp2_with fail
              refine Hhas.out.mono ?_
              rintro e w6 ⟨rfl, hk6⟩
              have f1 := (Hb1.out.keep (Hk.out.more hk6) (fun h => h)).cell 1
              simp at f1
              have Hk6 := Lib.hid hk6
              clear hk6
              go_wp2_with fail
              refine (must_ok 6 w6).mono ?_
              rintro e w7 ⟨rfl, rfl⟩
              go_wp2_with fail
              refine (Hcm.out w7 Hk6.out).mono ?_
              rintro e w8 ⟨rfl, hk8⟩
              have hk08 := Hk1.out.more (Hk.out.more (Hk6.out.more hk8))
              go_wp2_with fail
              refine (must_bad 7 w8).mono ?_
              rintro e w9 ⟨rfl, rfl⟩
              exact ⟨rfl, GroupP.bad Hme.out (by decide) hk08⟩
            | false =>
              rw [ht] at hcm
              rw [ht, if_neg (by decide)] at hme
              have Hhas := Lib.hid hhas
              have Hcm := Lib.hid hcm
              have Hme := Lib.hid hme
              have Hk := Lib.hid hk
              have Hm := Lib.hid hm
              have Hu := Lib.hid hu
              have Ht := Lib.hid ht
              clear hhas hcm hme hk hm hu ht
              go_wp2_with fail
              refine Hhas.out.mono ?_
              rintro e w6 ⟨rfl, hk6⟩
              have f1 := (Hb1.out.keep (Hk.out.more hk6) (fun h => h)).cell 1
              simp at f1
              have Hk6 := Lib.hid hk6
              clear hk6
              go_wp2_with fail
              refine (must_ok 6 w6).mono ?_
              rintro e w7 ⟨rfl, rfl⟩
              go_wp2_with fail
              refine (Hcm.out w7 Hk6.out).mono ?_
              rintro e w8 ⟨rfl, hk8⟩
              have hk08 := Hk.out.more (Hk6.out.more hk8)
              have Hk08 := Lib.hid hk08
              clear hk8 hk08
              go_wp2_with fail
              refine (must_ok 7 w8).mono ?_
              rintro e w9 ⟨rfl, rfl⟩
              go_wp2_with fail
              go_roundw
              case rel => exact ⟨i + 1, by simp, by omega, Hk08.out, Hme.out⟩
              case measure => simp [intOf]; omega
        · obtain rfl : i = n := by omega
          have hme0 : groupE us gs g = 0 := by
            rw [hme, Hn.out, List.drop_length]; rfl
          have hiI : ¬ (i : Int) < i := by omega
          have hkd := (Keeps.refl nowhere wr).drew
          have hkr := hk.more hkd
          have hU := H1.out.same hkr
          have hM := Hm1.out.same hkr
          have hB := Hb1.out.keep hkr (fun h => h)
          obtain ⟨v1, v2, xs, k1, k2, k3, k4, k5, k6, k7⟩ := id hU
          have q1 : ∀ w', Keeps nowhere wr.drew w' → w'.cell? ⟨p, 1, none⟩ = some v2 := fun w' e => by simpa using (k1.keep e (fun h => h)).cell 1
          have q2 : ∀ w', Keeps nowhere wr.drew w' → w'.cell? ⟨q, 0, none⟩ = some (.string (strOf g.nm)) := fun w' e => by simpa using (hB.keep e (fun h => h)).cell 0
          have q3 : ∀ w', Keeps nowhere wr.drew w' → w'.cell? ⟨q, 1, none⟩ = some (.slice A i c) := fun w' e => by simpa using (hB.keep e (fun h => h)).cell 1
          have hcl := fun w' (e : Keeps nowhere wr.drew w') => sclone_any _ _ g.ms w' (hM.same e) (by omega)
          have Hk := Lib.hid hk
          have Hkr := Lib.hid hkr
          have HU := Lib.hid hU
          have HM := Lib.hid hM
          have HB := Lib.hid hB
          have K1 := Lib.hid k1
          have K2 := Lib.hid k2
          have K3 := Lib.hid k3
          have K4 := Lib.hid k4
          have K5 := Lib.hid k5
          have K6 := Lib.hid k6
          have K7 := Lib.hid k7
          have Hme0 := Lib.hid hme0
          have Hme := Lib.hid hme
          have Hcl := Lib.hid hcl
          clear hk hkr hU hM hB k1 k2 k3 k4 k5 k6 k7 hme0 hme hcl
          go_wp2_with fail
          refine wp_region_script [0, 1, 2, 3, 4, 5, 6, 7, 10] [4, 6] [.ps [0, 1, 2, 3], .fs [4], .ps [5], .fs [6], .ps [7], .es [8] true, .es [9] true, .ps [10], .es [11] true, .es [12, 13, 14, 15] false] (Keeps nowhere wr.drew) rfl (by kernel_rfl) ?_
          refine wpS_ps rfl fun K hK => ?_
          simp only [List.map_cons, List.map_nil, Option.getD_some, List.getElem?_toArray, List.getElem?_cons_zero, List.getElem?_cons_succ]
          iterate 4 (first | (apply quietO_cons _ rfl; (intro w' _; go_simp; rfl)) | apply quietO_skip rfl)
          refine hK _ ?_
          clear hK K
          simp only [Act.put, List.setIfInBounds_toArray, List.set_cons_zero, List.set_cons_succ]
          refine wpS_fs rfl (Keeps.refl _ _) fun K hK => ?_
          simp only [List.map_cons, List.map_nil, Option.getD_some, List.getElem?_toArray, List.getElem?_cons_zero, List.getElem?_cons_succ]
          iterate 1 (first | (apply quietO_cons _ rfl; (intro w' hs; have c_0 := q1 w' hs; go_simp; rfl)) | apply quietO_skip rfl)
          refine hK _ ?_
          clear hK K
          simp only [Act.put, List.setIfInBounds_toArray, List.set_cons_zero, List.set_cons_succ]
          refine wpS_ps rfl fun K hK => ?_
          simp only [List.map_cons, List.map_nil, Option.getD_some, List.getElem?_toArray, List.getElem?_cons_zero, List.getElem?_cons_succ]
          iterate 1 (first | (apply quietO_cons _ rfl; (intro w' _; go_simp; rfl)) | apply quietO_skip rfl)
          refine hK _ ?_
          clear hK K
          simp only [Act.put, List.setIfInBounds_toArray, List.set_cons_zero, List.set_cons_succ]
          refine wpS_fs rfl (Keeps.refl _ _) fun K hK => ?_
          simp only [List.map_cons, List.map_nil, Option.getD_some, List.getElem?_toArray, List.getElem?_cons_zero, List.getElem?_cons_succ]
          iterate 1 (first | (apply quietO_cons _ rfl; (intro w' hs; have c_0 := q2 w' hs; go_simp; rfl)) | apply quietO_skip rfl)
          refine hK _ ?_
          clear hK K
          simp only [Act.put, List.setIfInBounds_toArray, List.set_cons_zero, List.set_cons_succ]
          refine wpS_ps rfl fun K hK => ?_
          simp only [List.map_cons, List.map_nil, Option.getD_some, List.getElem?_toArray, List.getElem?_cons_zero, List.getElem?_cons_succ]
          iterate 1 (first | (apply quietO_cons _ rfl; (intro w' _; go_simp; rfl)) | apply quietO_skip rfl)
          refine hK _ ?_
          clear hK K
          simp only [Act.put, List.setIfInBounds_toArray, List.set_cons_zero, List.set_cons_succ]
          have r3 := q3 _ (Keeps.refl _ _)
          clear q1 q2 q3
          refine wpS_es rfl fun K hK => ?_
          have HK := Lib.hid hK
          clear hK
          simp only [List.map_cons, List.map_nil, Option.getD_some, List.getElem?_toArray, List.getElem?_cons_zero, List.getElem?_cons_succ]
          go_wp2_with fail
          go_wp2_with fail
          refine HK.out _ _ (fun _ => Keeps.refl _ _) ?_
          clear HK K
          refine wpS_es rfl fun K hK => ?_
          have HK := Lib.hid hK
          clear hK
          simp only [List.map_cons, List.map_nil, Option.getD_some, List.getElem?_toArray, List.getElem?_cons_zero, List.getElem?_cons_succ]
          go_wp2_with fail
          refine (Hcl.out _ (Keeps.refl _ _)).mono ?_
          rintro e w6 ⟨v6, rfl, hrow6, hab6, hk6⟩
          obtain ⟨A6, c6, hv6, -⟩ := hrow6.form
          rw [← Hn.out] at hv6
          subst hv6
          have Hk6 := Lib.hid hk6
          have Hrow6 := Lib.hid hrow6
          have Hab6 := Lib.hid hab6
          clear hrow6 hab6
          go_wp2_with fail
          refine HK.out _ _ (fun _ => hk6) ?_
          clear HK K
          refine wpS_ps rfl fun K hK => ?_
          simp only [List.map_cons, List.map_nil, Option.getD_some, List.getElem?_toArray, List.getElem?_cons_zero, List.getElem?_cons_succ]
          iterate 1 (first | (apply quietO_cons _ rfl; (intro w' _; go_simp; rfl)) | apply quietO_skip rfl)
          refine hK _ ?_
          clear hK K
          simp only [Act.put, List.setIfInBounds_toArray, List.set_cons_zero, List.set_cons_succ]
          refine wpS_es rfl fun K hK => ?_
          have HK := Lib.hid hK
          clear hK
          simp only [List.map_cons, List.map_nil, Option.getD_some, List.getElem?_toArray, List.getElem?_cons_zero, List.getElem?_cons_succ]
          refine RecT.wpList_buildOne (R := recG) Tryd.underlying80 infoG (by decide) rfl (.tmp 49) rfl _ rfl (⟨g.nm, A6, i, c6⟩ : GrpV) rfl ?_
          have hk7 := Hk6.out.alloc (.cells (recG.cs (⟨g.nm, A6, i, c6⟩ : GrpV)).toArray recG.t)
          have hk67 := (Keeps.refl nowhere w6).alloc (.cells (recG.cs (⟨g.nm, A6, i, c6⟩ : GrpV)).toArray recG.t)
          have hrd := RecT.Rd.one recG w6 (⟨g.nm, A6, i, c6⟩ : GrpV)
          obtain ⟨w7, hw7⟩ : ∃ w7, w7 = w6.alloc (.cells (recG.cs (⟨g.nm, A6, i, c6⟩ : GrpV)).toArray recG.t) := ⟨_, rfl⟩
          obtain ⟨q7, hq7⟩ : ∃ q7, q7 = w6.heap.size := ⟨_, rfl⟩
          rw [← hw7] at hk7 hk67 hrd ⊢
          simp only [← hq7] at hrd ⊢
          have hB7 := K1.out.keep hk7 (fun h => h)
          have hS7 := K2.out.same hk7
          have hG7 := K3.out.same hk7
          have hE7 := K4.out.imp (fun _ _ hh => hh.keep hk7 (fun _ _ h => h))
          have hN7 := Hrow6.out.same hk67
          have Hk7 := Lib.hid hk7
          have hlb : xs.length + [(⟨g.nm, A6, i, c6⟩ : GrpV)].length ≤ 100000000 := by rw [K4.out.1]; simp; omega
          clear hk67
          have Hw7 := Lib.hid hw7
          have Hq7 := Lib.hid hq7
          have Hrd := Lib.hid hrd
          have HB7 := Lib.hid hB7
          have HS7 := Lib.hid hS7
          have HG7 := Lib.hid hG7
          have HE7 := Lib.hid hE7
          have HN7 := Lib.hid hN7
          have Hlb := Lib.hid hlb
          clear hw7 hq7 hrd hB7 hS7 hG7 hE7 hN7 hlb
          go_wp2_with fail
          refine HK.out _ _ (fun _ => hk7) ?_
          clear HK K
          refine wpS_es rfl fun K hK => ?_
          have HK := Lib.hid hK
          clear hK
          simp only [List.map_cons, List.map_nil, Option.getD_some, List.getElem?_toArray, List.getElem?_cons_zero, List.getElem?_cons_succ]
          go_wp2_with (at_builtin; go_must (refine RecT.wpList_append (R := recG) Tryd.underlying80 infoG rfl (by decide) rfl (.tmp 43) (.tmp 50) rfl _ xs rfl HG7.out _ _ [(⟨g.nm, A6, i, c6⟩ : GrpV)] rfl Hrd.out Hlb.out ?_))
          intro v8 w8 hrow8 hk8 hf8
          have hne1 := row_G_ne HG7.out HB7.out (by decide)
          have hB8 := HB7.out.keep hk8 (fun e => hne1 e)
          have hS8 := HS7.out.keep hk8 (fun b e e2 => row_SG_ne HS7.out HG7.out b e e2)
          have hN8 := HN7.out.keep hk8 (fun b e e2 => row_SG_ne HN7.out HG7.out b e e2)
          have hE8 : Each (GRow F w8) xs gs := HE7.out.imp (fun _ _ hh => ⟨hh.1, hh.2.1.keep hk8 (fun b e e2 => row_SG_ne hh.2.1 HG7.out b e e2), hh.2.2⟩)
          have c8 := hB8.cell 1
          have f8 := hB8.frozen 1
          simp at c8
          have hk9 : Keeps (only p) w8 (w8.setCell ⟨p, 1, none⟩ v8) := (Keeps.refl (only p) w8).setCell (p := ⟨p, 1, none⟩) (fun _ => rfl) v8
          have hB9 := hB8.set_ 1 v8
          simp at hB9
          have hneS := row_str_ne hS8 hB8 (by decide)
          have hneN := row_str_ne hN8 hB8 (by decide)
          have hneG := row_G_ne hrow8 hB8 (by decide)
          have hS9 := hS8.keep hk9 (fun b e e2 => hneS (by rw [e]; exact congrArg some e2))
          have hN9 := hN8.keep hk9 (fun b e e2 => hneN (by rw [e]; exact congrArg some e2))
          have hG9 := hrow8.keep hk9 (fun b e e2 => hneG (by rw [e]; exact congrArg some e2))
          have hsz1 := Hk1.out.size
          have hszr := Hkr.out.size
          have hsz6 := Hk6.out.size
          have hsz7 := Hk7.out.size
          have hE9 : Each (GRow (More F w.heap.size) (w8.setCell ⟨p, 1, none⟩ v8)) (xs ++ [(⟨g.nm, A6, i, c6⟩ : GrpV)]) (gs ++ [g]) := by
            refine Each.push (hE8.imp fun y z hh => ?_) ⟨rfl, hN9, fun b e => .inr ?_⟩
            · refine ⟨hh.1, hh.2.1.keep hk9 (fun b e e2 => ?_), fun b e => .inl (hh.2.2 b e)⟩
              have := row_str_ne hh.2.1 hB8 (by decide)
              exact this (by rw [e]; exact congrArg some e2)
            · have := Hab6.out b e
              omega
          have hfin : UT (More F w.heap.size) (w8.setCell ⟨p, 1, none⟩ v8) p us (gs ++ [g]) :=
            ⟨v1, v8, _, hB9, hS9, hG9, hE9, .inl K5.out, fun b e => .inl (K6.out b e), fun b e => by
              rcases hf8 b e with hh | hh
              · exact .inl (K7.out b hh)
              · right; omega⟩
          have hkf : Keeps F w (w8.setCell ⟨p, 1, none⟩ v8) := by
            have a1 : Keeps F w w8 := (((Hk1.out.more Hkr.out).more Hk7.out).mono (T := F) (fun _ _ h => h.elim)).trans hk8 (fun b hb e => K7.out b e)
            exact a1.setCell (p := ⟨p, 1, none⟩) (fun _ => K5.out) _
          have hgood := GroupP.good Hme0.out hfin hkf
          obtain ⟨A8, d8, hv8, -⟩ := hrow8.form
          clear hk8 hf8 hS8 hN8 hE8 hk9 hB9 hneS hneN hneG hS9 hN9 hG9 hE9 hfin hkf hrow8 hB8
          have Hgood := Lib.hid hgood
          clear hgood
          generalize (xs ++ [(⟨g.nm, A6, i, c6⟩ : GrpV)]).length = N8 at hv8
          subst hv8
          go_wp2_with fail
          refine HK.out _ _ (fun h => by cases h) ?_
          clear HK K
          refine wpS_nil ?_
          go_wp2_with fail
          refine bodyPost_end (results_none rfl _ _ _) rfl ?_
          exact Hgood.out
end Go.Proofs.YtnlmdfbjmhcilaaDoor
/-
  user: New.
-/
namespace Go.Proofs.YtnlmdfbjmhcilaaDoor
open Go.RowKit Go.Proofs Go.Shelf
attribute [local go_sem] strOf_size strOf_get strOf_toList

def NewP (us : List (List UInt8)) (gs : List Grp) (w : World) : Ending → World → Prop := fun e w' => Keeps nowhere w w' ∧
  ((newE us gs = 0 ∧ ∃ p, e = .returned (.tuple #[.pointer (some ⟨p, 0, none⟩), .int .i64 0]) ∧ UT (fun b => w.heap.size ≤ b) w' p us gs) ∨ (newE us gs ≠ 0 ∧ e = .returned (.tuple #[.pointer none, .int .i64 (newE us gs)])))
theorem usersE_step {us : List (List UInt8)} {i : Nat} {m : List UInt8} (hm : us[i]? = some m) :
    usersE (us.take i) (us.drop i) = if userE (us.take i) m = 0 then usersE (us.take (i + 1)) (us.drop (i + 1)) else userE (us.take i) m := by
  obtain ⟨hi, rfl⟩ := List.getElem?_eq_some_iff.1 hm
  rw [List.drop_eq_getElem_cons hi, List.take_succ_eq_append_getElem hi]
  rfl
theorem groupsE_step {us : List (List UInt8)} {gs : List Grp} {i : Nat} {m : Grp} (hm : gs[i]? = some m) :
    groupsE us (gs.take i) (gs.drop i) = if groupE us (gs.take i) m = 0 then groupsE us (gs.take (i + 1)) (gs.drop (i + 1)) else groupE us (gs.take i) m := by
  obtain ⟨hi, rfl⟩ := List.getElem?_eq_some_iff.1 hm
  rw [List.drop_eq_getElem_cons hi, List.take_succ_eq_append_getElem hi]
  rfl
/-- what the two cells of the results become when a panic is caught -/
theorem caught_cells {w w2 : World} {p q : Nat} {x : Value} {e : Int} (hp : w.heap.size ≤ p) (hq : w.heap.size ≤ q) (hk : Keeps nowhere w w2) (b1 : Blk w2 p 49 #[x]) (b2 : Blk w2 q 26 #[.int .i64 0]) :
    ((w2.setCell ⟨p, 0, none⟩ (.pointer none)).setCell ⟨q, 0, none⟩ (.int .i64 e)).cell? ⟨p, 0, none⟩ = some (.pointer none) ∧
    ((w2.setCell ⟨p, 0, none⟩ (.pointer none)).setCell ⟨q, 0, none⟩ (.int .i64 e)).cell? ⟨q, 0, none⟩ = some (.int .i64 e) ∧
    Keeps nowhere w ((w2.setCell ⟨p, 0, none⟩ (.pointer none)).setCell ⟨q, 0, none⟩ (.int .i64 e)) := by
  have x5 := (b1.set_ 0 (.pointer none)).far (p := ⟨q, 0, none⟩) (b1.ne_ b2 (by decide)) (.int .i64 e)
  have x6 := (b2.far (p := ⟨p, 0, none⟩) (b2.ne_ b1 (by decide)) (.pointer none)).set_ 0 (.int .i64 e)
  have y5 := x5.cell 0
  have y6 := x6.cell 0
  simp at y5 y6
  exact ⟨y5, y6, (hk.setCell (p := ⟨p, 0, none⟩) (fun h => by simp at h; omega) _).setCell (p := ⟨q, 0, none⟩) (fun h => by simp at h; omega) _⟩
theorem rdG_cell {w : World} {A : Option Addr} {n c : Nat} {g : Option Nat} {L : List GrpV} (h : recG.Rd w (.slice A n c) g L) {i : Nat} {x : GrpV} (hx : L[i]? = some x) : ∃ b o, A = some ⟨b, o, none⟩ ∧ w.cell? ⟨b, o + i * 2, none⟩ = some (.string (strOf x.nm)) ∧ w.cell? ⟨b, o + i * 2 + 1, none⟩ = some (.slice x.A x.n x.c) := by
  obtain ⟨A', c', hv, -, -, -, h3, -⟩ := h
  injection hv with h1 _ _
  obtain ⟨b, o, hA, -, hc⟩ := h3 (by have := (List.getElem?_eq_some_iff.1 hx).1; omega)
  obtain ⟨d0, d1⟩ := atG (hc i x hx)
  rw [show i * recG.n = i * 2 from rfl] at d0 d1
  exact ⟨b, o, h1.trans hA, d0, d1⟩
set_option maxRecDepth 8000 in
set_option maxHeartbeats 4000000 in
theorem unew_any (w : World) (v1 v2 : Value) (k1 k2 : Option Nat) (us : List (List UInt8)) (xs : List GrpV) (gs : List Grp) (hu : recStr.Rd w v1 k1 us) (hg : recG.Rd w v2 k2 xs) (he : Each (GRd w) xs gs)
    (hl : us.length ≤ 1000000) (hl2 : gs.length ≤ 1000000) (hl3 : ∀ g ∈ gs, g.ms.length ≤ 1000000 ∧ g.nm.length ≤ 1000000000) (hl4 : ∀ s ∈ us, s.length ≤ 1000000000) :
    Calls Tryd.prog 39 #[v1, v2] w (NewP us gs w) := by
  obtain ⟨A1, c1, rfl, -⟩ := id hu
  obtain ⟨A2, c2, rfl, -⟩ := id hg
  obtain ⟨p, hp⟩ : ∃ p, p = w.heap.size := ⟨_, rfl⟩
  obtain ⟨q, hq⟩ : ∃ q, q = w.heap.size + 1 := ⟨_, rfl⟩
  obtain ⟨w1, hw1⟩ : ∃ w1, w1 = (w.alloc (.cells #[.pointer none] 49)).alloc (.cells #[.int .i64 0] 26) := ⟨_, rfl⟩
  have hk1 : Keeps nowhere w w1 := by rw [hw1]; exact ((Keeps.refl nowhere w).alloc _).alloc _
  have hb1 : Blk w1 p 49 #[.pointer none] := by rw [hw1, hp]; exact (Blk.new _ _ _).alloc _
  have hb2 : Blk w1 q 26 #[.int .i64 0] := by
    rw [hw1, hq]
    have := Blk.new (w.alloc (.cells #[.pointer none] 49)) 26 #[.int .i64 0]
    rwa [World.size_alloc] at this
  have hsz1 : w1.heap.size = w.heap.size + 2 := by rw [hw1]; simp
  obtain ⟨n1, hn1⟩ : ∃ n1, n1 = us.length := ⟨_, rfl⟩
  obtain ⟨n2, hn2⟩ : ∃ n2, n2 = xs.length := ⟨_, rfl⟩
  have hn2g : n2 = gs.length := hn2.trans he.1
  simp only [← hn1, ← hn2] at hu hg ⊢
  by_cases hlong : 32 < n1 ∨ 32 < n2
  · have hne : newE us gs = 3 := by unfold newE; rw [if_pos (by rw [← hn1, ← hn2g]; exact hlong)]
    have hfin : ∀ w', Keeps nowhere w w' → NewP us gs w (.returned (.tuple #[.pointer none, .int .i64 3])) w' := fun w' h => ⟨h, .inr ⟨by rw [hne]; decide, by rw [hne]⟩⟩
    have Hw1 := Lib.hid hw1
    have Hp := Lib.hid hp
    have Hq := Lib.hid hq
    have Hk1 := Lib.hid hk1
    have Hb1 := Lib.hid hb1
    have Hb2 := Lib.hid hb2
    have Hu := Lib.hid hu
    have Hg := Lib.hid hg
    have He := Lib.hid he
    have Hne := Lib.hid hne
    have Hfin := Lib.hid hfin
    have Hsz1 := Lib.hid hsz1
    have Hn1 := Lib.hid hn1
    have Hn2 := Lib.hid hn2
    have Hn2g := Lib.hid hn2g
    clear hw1 hp hq hk1 hb1 hb2 hu hg he hne hfin hsz1 hn1 hn2 hn2g
    by_cases h1 : 32 < n1
    · have h1I : (32 : Int) < n1 := by omega
      go_enter_defers Tryd.func39, Tryd.ntmps39
      go_upto_region 1 with fail
      rw [← Hw1.out]
      simp only [← Hq.out]
      simp only [← Hp.out]
      go_wp2_with fail
      refine (must_bad 3 w1).mono ?_
      rintro e w2 ⟨rfl, rfl⟩
      obtain ⟨y5, y6, y7⟩ := caught_cells (e := 3) (by have := Hp.out; omega) (by have := Hq.out; omega) Hk1.out Hb1.out Hb2.out
      have hpan := ucaught_panic p q 3 _ 0 [] w2 Hb1.out Hb2.out
      refine leaves_cons (f := 43) (args := #[.pointer (some ⟨p, 0, none⟩), .pointer (some ⟨q, 0, none⟩)]) (by simp) (by simp [go_sem]) ?_
      refine hpan.mono ?_
      rintro e u' w'' ⟨rfl, rfl, rfl⟩
      simp [Leaves, settle, results, Tryd.results39, go_sem, y5, y6]
      exact Hfin.out _ y7
    · have h1I : ¬ (32 : Int) < n1 := by omega
      have h2I : (32 : Int) < n2 := by omega
      go_enter_defers Tryd.func39, Tryd.ntmps39
      go_upto_region 1 with fail
      rw [← Hw1.out]
      simp only [← Hq.out]
      simp only [← Hp.out]
      go_wp2_with fail
      refine (must_bad 3 w1).mono ?_
      rintro e w2 ⟨rfl, rfl⟩
      obtain ⟨y5, y6, y7⟩ := caught_cells (e := 3) (by have := Hp.out; omega) (by have := Hq.out; omega) Hk1.out Hb1.out Hb2.out
      have hpan := ucaught_panic p q 3 _ 0 [] w2 Hb1.out Hb2.out
      refine leaves_cons (f := 43) (args := #[.pointer (some ⟨p, 0, none⟩), .pointer (some ⟨q, 0, none⟩)]) (by simp) (by simp [go_sem]) ?_
      refine hpan.mono ?_
      rintro e u' w'' ⟨rfl, rfl, rfl⟩
      simp [Leaves, settle, results, Tryd.results39, go_sem, y5, y6]
      exact Hfin.out _ y7
  · have h1I : ¬ (32 : Int) < n1 := by omega
    have h2I : ¬ (32 : Int) < n2 := by omega
    have hne : newE us gs = if usersE (us.take 0) (us.drop 0) = 0 then groupsE us (gs.take 0) (gs.drop 0) else usersE (us.take 0) (us.drop 0) := by
      unfold newE; rw [if_neg (by rw [← hn1, ← hn2g]; exact hlong)]; rfl
    obtain ⟨pt, hpt⟩ : ∃ pt, pt = w1.heap.size := ⟨_, rfl⟩
    obtain ⟨w2, hw2⟩ : ∃ w2, w2 = w1.alloc (.cells #[.slice none 0 0, .slice none 0 0] 100) := ⟨_, rfl⟩
    have hk12 : Keeps nowhere w1 w2 := by rw [hw2]; exact (Keeps.refl nowhere w1).alloc _
    have hb3 : Blk w2 pt 100 #[.slice none 0 0, .slice none 0 0] := by rw [hw2, hpt]; exact Blk.new _ _ _
    have hk2 := hk1.more hk12
    have hU0 : UT (fun b => pt ≤ b) w2 pt [] [] := ⟨_, _, [], hb3, RecT.Row.nil _ _, RecT.Row.nil _ _, Each.nil, Nat.le_refl _, fun b e => by simp [Value.ownBlock] at e, fun b e => by simp [Value.ownBlock] at e⟩
    have Hw1 := Lib.hid hw1
    have Hp := Lib.hid hp
    have Hq := Lib.hid hq
    have Hk1 := Lib.hid hk1
    have Hb1 := Lib.hid hb1
    have Hb2 := Lib.hid hb2
    have Hu := Lib.hid hu
    have Hg := Lib.hid hg
    have He := Lib.hid he
    have Hne := Lib.hid hne
    have Hsz1 := Lib.hid hsz1
    have Hn1 := Lib.hid hn1
    have Hn2 := Lib.hid hn2
    have Hn2g := Lib.hid hn2g
    have Hpt := Lib.hid hpt
    have Hw2 := Lib.hid hw2
    have Hk12 := Lib.hid hk12
    have Hb3 := Lib.hid hb3
    have Hk2 := Lib.hid hk2
    have HU0 := Lib.hid hU0
    clear hw1 hp hq hk1 hb1 hb2 hu hg he hne hsz1 hn1 hn2 hn2g hpt hw2 hk12 hb3 hk2 hU0
    go_enter_defers Tryd.func39, Tryd.ntmps39
    go_upto_region 1 with fail
    rw [← Hw1.out]
    simp only [← Hq.out]
    simp only [← Hp.out]
    go_wp2_with fail
    refine (must_ok 3 w1).mono ?_
    rintro e w2' ⟨rfl, hww⟩
    rw [hww]
    clear hww
    go_upto_region 4 with fail
    rw [← Hw2.out]
    simp only [← Hpt.out]
    go_wp2_with fail
    go_loopw [24] (fun iv wr => ∃ i : Nat, iv = .int .i64 i ∧ i ≤ n1 ∧ UT (fun b => pt ≤ b) wr pt (us.take i) [] ∧ Keeps (fun b => pt ≤ b) w2 wr ∧ usersE (us.take 0) (us.drop 0) = usersE (us.take i) (us.drop i)) (fun iv _ => n1 - (intOf iv).toNat)
    case atStart => exact ⟨0, rfl, Nat.zero_le _, HU0.out, Keeps.refl _ _, rfl⟩
    case round =>
      obtain ⟨i, rfl, hi, hU, hk, hse⟩ := hrel
      have hkw : Keeps nowhere w wr := Hk2.out.trans hk (fun b hb e => by have := Hpt.out; have := Hsz1.out; have e' : pt ≤ b := e; omega)
      have hk1r : Keeps nowhere w1 wr := Hk12.out.trans hk (fun b hb e => by have := Hpt.out; have e' : pt ≤ b := e; omega)
      have hb1r := Hb1.out.keep hk1r (fun h => h)
      have hb2r := Hb2.out.keep hk1r (fun h => h)
      by_cases hlt : i < n1
      · have hltI : (i : Int) < n1 := by omega
        have hi0 : (0 : Int) ≤ (i : Int) := by omega
        have hi1 : IntKind.i64.wrap ((i : Int) + 1) = i + 1 := IntWalk.i64_in _ (by omega)
        have hil : i < us.length := by rw [← Hn1.out]; exact hlt
        obtain ⟨m, hm⟩ : ∃ m, us[i]? = some m := ⟨_, List.getElem?_eq_getElem hil⟩
        obtain ⟨bb, oo, rfl, d0⟩ := rdSt_cell (Hu.out.same hkw) hm
        have hcall := uuser_any _ wr pt (us.take i) m hU (by rw [List.length_take]; omega) (hl4 m (List.mem_of_getElem? hm))
        rw [usersE_step hm] at hse
        by_cases h0 : userE (us.take i) m = 0
        · rw [if_pos h0] at hse
          have hcall2 := hcall.mono (R' := fun e w' => e = .returned (.tuple #[]) ∧ UT (More (fun b => pt ≤ b) wr.heap.size) w' pt (us.take i ++ [m]) [] ∧ Keeps (fun b => pt ≤ b) wr w') (fun e w' h => by unfold UserP at h; rw [if_pos h0] at h; exact h)
          have htk : us.take i ++ [m] = us.take (i + 1) := by
            obtain ⟨hh, rfl⟩ := List.getElem?_eq_some_iff.1 hm
            rw [List.take_succ_eq_append_getElem hh]
          rw [htk] at hcall2
          clear hcall
          have HU := Lib.hid hU
          have Hk := Lib.hid hk
          have Hse := Lib.hid hse
          have Hkw := Lib.hid hkw
          have Hk1r := Lib.hid hk1r
          have Hb1r := Lib.hid hb1r
          have Hb2r := Lib.hid hb2r
          have Hm := Lib.hid hm
          have Hcall2 := Lib.hid hcall2
          have H0 := Lib.hid h0
          have Htk := Lib.hid htk
          clear hU hk hse hkw hk1r hb1r hb2r hm hcall2 h0 htk
          go_wp2_with fail
          refine Hcall2.out.mono ?_
          rintro e w6 ⟨rfl, hU6, hk6⟩
          have hU7 := hU6.mono (F' := fun b => pt ≤ b) (fun b hb => by
            rcases hb with hb | hb
            · exact hb
            · have h1 := Hk12.out.size; have h2 := Hk.out.size; have := Hpt.out; show pt ≤ b; omega)
          have hk7 := Hk.out.trans hk6 (fun _ _ h => h)
          clear hU6 hk6
          have HU7 := Lib.hid hU7
          have Hk7 := Lib.hid hk7
          clear hU7 hk7
          go_wp2_with fail
          go_roundw
          case rel => exact ⟨i + 1, by simp, by omega, HU7.out, Hk7.out, Hse.out⟩
          case measure => simp [intOf]; omega
        · rw [if_neg h0] at hse
          obtain ⟨x, hx⟩ : ∃ x, x = userE (us.take i) m := ⟨_, rfl⟩
          have hcall2 := hcall.mono (R' := fun e w' => e = panicU x ∧ Keeps nowhere wr w') (fun e w' h => by unfold UserP at h; rw [if_neg h0] at h; rw [hx]; exact h)
          rw [← hx] at hse h0
          have hnx : newE us gs = x := by rw [Hne.out, hse, if_neg h0]
          clear hcall
          have HU := Lib.hid hU
          have Hk := Lib.hid hk
          have Hse := Lib.hid hse
          have Hkw := Lib.hid hkw
          have Hk1r := Lib.hid hk1r
          have Hb1r := Lib.hid hb1r
          have Hb2r := Lib.hid hb2r
          have Hm := Lib.hid hm
          have Hcall2 := Lib.hid hcall2
          have H0 := Lib.hid h0
          have Hx := Lib.hid hx
          have Hnx := Lib.hid hnx
          clear hU hk hse hkw hk1r hb1r hb2r hm hcall2 h0 hx hnx
          go_wp2_with fail
          refine Hcall2.out.mono ?_
          rintro e w6 ⟨rfl, hk6⟩
          have b1 := Hb1r.out.keep hk6 (fun h => h)
          have b2 := Hb2r.out.keep hk6 (fun h => h)
          obtain ⟨y5, y6, y7⟩ := caught_cells (e := x) (by have := Hp.out; omega) (by have := Hq.out; omega) (Hkw.out.more hk6) b1 b2
          have hpan := ucaught_panic p q x _ 0 [] w6 b1 b2
          clear b1 b2
          refine leaves_cons (f := 43) (args := #[.pointer (some ⟨p, 0, none⟩), .pointer (some ⟨q, 0, none⟩)]) (by simp) (by simp [go_sem]) ?_
          refine hpan.mono ?_
          rintro e u' w'' ⟨rfl, rfl, rfl⟩
          simp [Leaves, settle, results, Tryd.results39, go_sem, y5, y6]
          exact ⟨y7, .inr ⟨by rw [Hnx.out]; exact H0.out, by rw [Hnx.out]⟩⟩
      · obtain rfl : i = n1 := by omega
        have hiI : ¬ (i : Int) < i := by omega
        have hse0 : usersE (us.take 0) (us.drop 0) = 0 := by rw [hse, Hn1.out, List.drop_length]; rfl
        have hne2 : newE us gs = groupsE us (gs.take 0) (gs.drop 0) := by rw [Hne.out, if_pos hse0]
        have hUs : UT (fun b => pt ≤ b) wr pt us (gs.take 0) := by rw [Hn1.out, List.take_length] at hU; exact hU
        clear hU hb1r hb2r hse
        have Hk := Lib.hid hk
        have Hkw := Lib.hid hkw
        have Hk1r := Lib.hid hk1r
        have Hse0 := Lib.hid hse0
        have Hne2 := Lib.hid hne2
        have HUs := Lib.hid hUs
        clear hk hkw hk1r hse0 hne2 hUs
        go_wp2_with fail
        go_loopw [34] (fun jv wz => ∃ j : Nat, jv = .int .i64 j ∧ j ≤ n2 ∧ UT (fun b => pt ≤ b) wz pt us (gs.take j) ∧ Keeps (fun b => pt ≤ b) w2 wz ∧ newE us gs = groupsE us (gs.take j) (gs.drop j)) (fun jv _ => n2 - (intOf jv).toNat)
        case atStart => exact ⟨0, rfl, Nat.zero_le _, HUs.out, Hk.out, Hne2.out⟩
        case round =>
          obtain ⟨j, rfl, hj, hV, hk2z, hge⟩ := hrel
          have hkwz : Keeps nowhere w wr := Hk2.out.trans hk2z (fun b hb e => by have := Hpt.out; have := Hsz1.out; have e' : pt ≤ b := e; omega)
          have hk1z : Keeps nowhere w1 wr := Hk12.out.trans hk2z (fun b hb e => by have := Hpt.out; have e' : pt ≤ b := e; omega)
          have hb1z := Hb1.out.keep hk1z (fun h => h)
          have hb2z := Hb2.out.keep hk1z (fun h => h)
          by_cases hlt : j < n2
          · have hltI : (j : Int) < n2 := by omega
            have hj0 : (0 : Int) ≤ (j : Int) := by omega
            have hj1 : IntKind.i64.wrap ((j : Int) + 1) = j + 1 := IntWalk.i64_in _ (by omega)
            have hjl : j < xs.length := by rw [← Hn2.out]; exact hlt
            obtain ⟨x, hx⟩ : ∃ x, xs[j]? = some x := ⟨_, List.getElem?_eq_getElem hjl⟩
            obtain ⟨g, hgj, hgx⟩ := He.out.2 j x hx
            obtain ⟨bb, oo, rfl, d0, d1⟩ := rdG_cell (Hg.out.same hkwz) hx
            obtain ⟨nm, xA, xn, xc⟩ := x
            simp only at d0 d1
            go_upto_region 12 with fail
            have hka := (Keeps.refl nowhere wr).alloc (.cells #[.string (strOf nm), .slice xA xn xc] 79)
            have hbx := Blk.new wr 79 #[.string (strOf nm), .slice xA xn xc]
            obtain ⟨w5, hw5⟩ : ∃ w5, w5 = wr.alloc (.cells #[.string (strOf nm), .slice xA xn xc] 79) := ⟨_, rfl⟩
            rw [← hw5] at hka hbx ⊢
            obtain ⟨qx, hqx⟩ : ∃ qx, qx = wr.heap.size := ⟨_, rfl⟩
            rw [← hqx] at hbx
            simp only [← hqx]
            have e0 := hbx.cell 0
            have e1 := hbx.cell 1
            simp at e0 e1
            have hgx5 := hgx.same (hkwz.more hka)
            have hcall := ugroup_any _ w5 pt us (gs.take j) g ⟨nm, xA, xn, xc⟩ (hV.same hka) hgx5 (by have := Hn1.out; omega) (by rw [List.length_take]; omega) (hl3 g (List.mem_of_getElem? hgj)).1 (hl3 g (List.mem_of_getElem? hgj)).2
            unfold GrpV.val at hcall
            simp only at hcall
            have hs5 := hka.size
            have hb15 := hb1z.keep hka (fun h => h)
            have hb25 := hb2z.keep hka (fun h => h)
            have hkw5 := hkwz.more hka
            have hk25 := hk2z.trans (hka.mono (T := fun b => pt ≤ b) (fun _ _ h => h.elim)) (fun _ _ h => h)
            rw [groupsE_step hgj] at hge
            by_cases h0 : groupE us (gs.take j) g = 0
            · rw [if_pos h0] at hge
              have hcall2 := hcall.mono (R' := fun e w' => e = .returned (.tuple #[]) ∧ UT (More (fun b => pt ≤ b) w5.heap.size) w' pt us (gs.take j ++ [g]) ∧ Keeps (fun b => pt ≤ b) w5 w') (fun e w' h => by unfold GroupP at h; rw [if_pos h0] at h; exact h)
              have htk : gs.take j ++ [g] = gs.take (j + 1) := by
                obtain ⟨hh, rfl⟩ := List.getElem?_eq_some_iff.1 hgj
                rw [List.take_succ_eq_append_getElem hh]
              rw [htk] at hcall2
              clear hcall
              have HV := Lib.hid hV
              have Hk2z := Lib.hid hk2z
              have Hge := Lib.hid hge
              have Hkwz := Lib.hid hkwz
              have Hk1z := Lib.hid hk1z
              have Hb1z := Lib.hid hb1z
              have Hb2z := Lib.hid hb2z
              have Hx := Lib.hid hx
              have Hgj := Lib.hid hgj
              have Hgx := Lib.hid hgx
              have Hka := Lib.hid hka
              have Hbx := Lib.hid hbx
              have Hw5 := Lib.hid hw5
              have Hqx := Lib.hid hqx
              have Hgx5 := Lib.hid hgx5
              have Hs5 := Lib.hid hs5
              have Hb15 := Lib.hid hb15
              have Hb25 := Lib.hid hb25
              have Hkw5 := Lib.hid hkw5
              have Hk25 := Lib.hid hk25
              have Hcall2 := Lib.hid hcall2
              have H0 := Lib.hid h0
              have Htk := Lib.hid htk
              clear hV hk2z hge hkwz hk1z hb1z hb2z hx hgj hgx hka hbx hw5 hqx hgx5 hs5 hb15 hb25 hkw5 hk25 hcall2 h0 htk
              go_wp2_with fail
              refine Hcall2.out.mono ?_
              rintro e w6 ⟨rfl, hU6, hk6⟩
              have hU7 := hU6.mono (F' := fun b => pt ≤ b) (fun b hb => by
                rcases hb with hb | hb
                · exact hb
                · have h1 := Hk12.out.size; have h2 := Hk25.out.size; have := Hpt.out; show pt ≤ b; omega)
              have hk7 := Hk25.out.trans hk6 (fun _ _ h => h)
              clear hU6 hk6
              have HU7 := Lib.hid hU7
              have Hk7 := Lib.hid hk7
              clear hU7 hk7
              go_wp2_with fail
              go_roundw
              case rel => exact ⟨j + 1, by simp, by omega, HU7.out, Hk7.out, Hge.out⟩
              case measure => simp [intOf]; omega
            · rw [if_neg h0] at hge
              obtain ⟨y, hy⟩ : ∃ y, y = groupE us (gs.take j) g := ⟨_, rfl⟩
              have hcall2 := hcall.mono (R' := fun e w' => e = panicU y ∧ Keeps nowhere w5 w') (fun e w' h => by unfold GroupP at h; rw [if_neg h0] at h; rw [hy]; exact h)
              rw [← hy] at hge h0
              clear hcall
              have HV := Lib.hid hV
              have Hk2z := Lib.hid hk2z
              have Hge := Lib.hid hge
              have Hkwz := Lib.hid hkwz
              have Hk1z := Lib.hid hk1z
              have Hb1z := Lib.hid hb1z
              have Hb2z := Lib.hid hb2z
              have Hx := Lib.hid hx
              have Hgj := Lib.hid hgj
              have Hgx := Lib.hid hgx
              have Hka := Lib.hid hka
              have Hbx := Lib.hid hbx
              have Hw5 := Lib.hid hw5
              have Hqx := Lib.hid hqx
              have Hgx5 := Lib.hid hgx5
              have Hs5 := Lib.hid hs5
              have Hb15 := Lib.hid hb15
              have Hb25 := Lib.hid hb25
              have Hkw5 := Lib.hid hkw5
              have Hk25 := Lib.hid hk25
              have Hcall2 := Lib.hid hcall2
              have H0 := Lib.hid h0
              have Hy := Lib.hid hy
              clear hV hk2z hge hkwz hk1z hb1z hb2z hx hgj hgx hka hbx hw5 hqx hgx5 hs5 hb15 hb25 hkw5 hk25 hcall2 h0 hy
              go_wp2_with fail
              refine Hcall2.out.mono ?_
              rintro e w6 ⟨rfl, hk6⟩
              have b1 := Hb15.out.keep hk6 (fun h => h)
              have b2 := Hb25.out.keep hk6 (fun h => h)
              obtain ⟨y5, y6, y7⟩ := caught_cells (e := y) (by have := Hp.out; omega) (by have := Hq.out; omega) (Hkw5.out.more hk6) b1 b2
              have hpan := ucaught_panic p q y _ 0 [] w6 b1 b2
              clear b1 b2
              refine leaves_cons (f := 43) (args := #[.pointer (some ⟨p, 0, none⟩), .pointer (some ⟨q, 0, none⟩)]) (by simp) (by simp [go_sem]) ?_
              refine hpan.mono ?_
              rintro e u' w'' ⟨rfl, rfl, rfl⟩
              simp [Leaves, settle, results, Tryd.results39, go_sem, y5, y6]
              exact ⟨y7, .inr ⟨by rw [Hge.out]; exact H0.out, by rw [Hge.out]⟩⟩
          · obtain rfl : j = n2 := by omega
            have hjI : ¬ (j : Int) < j := by omega
            have hne0 : newE us gs = 0 := by rw [hge, Hn2g.out, List.drop_length]; rfl
            have hUf : UT (fun b => pt ≤ b) wr pt us gs := by rw [Hn2g.out, List.take_length] at hV; exact hV
            have c1 := hb1z.cell 0
            have f1 := hb1z.frozen 0
            simp at c1
            have e2 := hb2z.far (p := ⟨p, 0, none⟩) (hb2z.ne_ hb1z (by decide)) (.pointer (some ⟨pt, 0, none⟩))
            have d1 := e2.cell 0
            have d2 := e2.frozen 0
            simp at d1
            have x5 := (hb1z.set_ 0 (.pointer (some ⟨pt, 0, none⟩))).far (p := ⟨q, 0, none⟩) (hb1z.ne_ hb2z (by decide)) (.int .i64 0)
            have x6 := e2.set_ 0 (.int .i64 0)
            have y5 := x5.cell 0
            have y6 := x6.cell 0
            simp at y5 y6
            have hkz7 : Keeps (fun k => k = p ∨ k = q) wr ((wr.setCell ⟨p, 0, none⟩ (.pointer (some ⟨pt, 0, none⟩))).setCell ⟨q, 0, none⟩ (.int .i64 0)) := ((Keeps.refl _ wr).setCell (p := ⟨p, 0, none⟩) (fun h => .inl rfl) _).setCell (p := ⟨q, 0, none⟩) (fun h => .inr rfl) _
            have hk7 := hkwz.trans hkz7 (fun b hb e => by have := Hp.out; have := Hq.out; omega)
            have hU7 := hUf.keep hkz7 (fun b hb e => by have := Hpt.out; have := Hsz1.out; have := Hp.out; have := Hq.out; have hb' : pt ≤ b := hb; omega)
            have hU8 := hU7.mono (F' := fun b => w.heap.size ≤ b) (fun b hb => by have := Hpt.out; have := Hsz1.out; have hb' : pt ≤ b := hb; show w.heap.size ≤ b; omega)
            clear hV hk2z hge hkwz hk1z hb1z hb2z hUf e2 x5 x6 hkz7 hU7
            have Hk7 := Lib.hid hk7
            have HU8 := Lib.hid hU8
            have Hne0 := Lib.hid hne0
            clear hk7 hU8 hne0
            go_wp2_with fail
            refine leaves_cons (f := 43) (args := #[.pointer (some ⟨p, 0, none⟩), .pointer (some ⟨q, 0, none⟩)]) (by simp) (by simp [go_sem]) ?_
            refine (ucaught_idle p q _).mono ?_
            rintro e u' w'' ⟨rfl, rfl, rfl⟩
            simp [Leaves, settle, results, Tryd.results39, go_sem, y5, y6]
            exact ⟨Hk7.out, .inl ⟨Hne0.out, pt, rfl, HU8.out⟩⟩
end Go.Proofs.YtnlmdfbjmhcilaaDoor
/-
  user: words and lines (plain).
-/
namespace Go.Proofs.YtnlmdfbjmhcilaaDoor
open Go.Lib

def splitL (c : UInt8) : List UInt8 → List (List UInt8)
  | [] => [[]]
  | x :: l => if x = c then [] :: splitL c l else match splitL c l with | [] => [[x]] | h :: t => (x :: h) :: t
def afterL (c : UInt8) : List UInt8 → List (List UInt8)
  | [] => [[]]
  | x :: l => if x = c then [c] :: afterL c l else match afterL c l with | [] => [[x]] | h :: t => (x :: h) :: t
theorem splitL_ne (c : UInt8) (s : List UInt8) : splitL c s ≠ [] := by
  cases s with
  | nil => simp [splitL]
  | cons x l =>
    unfold splitL
    split
    · simp
    · split <;> simp
theorem indexByte_pos {l : List UInt8} {c : UInt8} (h : 0 < l.count c) : ∃ i : Nat, indexByte l c = i := by
  induction l with
  | nil => simp at h
  | cons b l ih =>
    unfold indexByte
    by_cases hb : b = c
    · subst hb; exact ⟨0, by simp⟩
    · have hbb : (b == c) = false := by simp [hb]
      rw [List.count_cons, hbb] at h
      obtain ⟨i, hi⟩ := ih (by simpa using h)
      rw [hbb, hi]
      have : ((i : Int) == -1) = false := by simp
      exact ⟨i + 1, by simp [this]⟩
theorem splitK_cons_ne (x c : UInt8) (l : List UInt8) (sv : Nat) (h : x ≠ c) : ∀ hd tl, splitK [c] sv (l.count c) l = hd :: tl → splitK [c] sv ((x :: l).count c) (x :: l) = (x :: hd) :: tl := by
  intro hd tl he
  have hxb : (x == c) = false := by simp [h]
  have hc : (x :: l).count c = l.count c := by rw [List.count_cons, hxb]; rfl
  rw [hc]
  cases hk : l.count c with
  | zero =>
    rw [hk] at he
    simp only [splitK] at he ⊢
    injection he with e1 e2
    rw [← e1, ← e2]
  | succ k =>
    rw [hk] at he
    obtain ⟨i, hi⟩ := indexByte_pos (l := l) (c := c) (by omega)
    have h1 : index l [c] = i := by rw [index_one, hi]
    have h2 : index (x :: l) [c] = ((i + 1 : Nat) : Int) := by
      rw [index_one]
      unfold indexByte
      rw [hxb, hi]
      have : ((i : Int) == -1) = false := by simp
      simp [this]
    unfold splitK at he ⊢
    rw [h1] at he
    rw [h2]
    rw [if_neg (by simp)] at he
    rw [if_neg (by simp; omega)]
    simp only [Int.toNat_natCast, List.length_cons, List.length_nil, Nat.zero_add] at he ⊢
    injection he with e1 e2
    rw [show i + 1 + sv = (i + sv) + 1 by omega, List.take_succ_cons, show i + 1 + 1 = (i + 1) + 1 from rfl, List.drop_succ_cons, e1, e2]
theorem splitK_cons_eq (c : UInt8) (l : List UInt8) (sv : Nat) : splitK [c] sv ((c :: l).count c) (c :: l) = (c :: l).take sv :: splitK [c] sv (l.count c) l := by
  have hc : (c :: l).count c = l.count c + 1 := by rw [List.count_cons]; simp
  have h2 : index (c :: l) [c] = 0 := by rw [index_one]; unfold indexByte; simp
  rw [hc, splitK, h2]
  simp
theorem split_one (c : UInt8) : ∀ s : List UInt8, splitK [c] 0 (s.count c) s = splitL c s
  | [] => rfl
  | x :: l => by
    have ih := split_one c l
    by_cases h : x = c
    · subst h
      rw [splitK_cons_eq, ih]
      simp [splitL]
    · unfold splitL
      rw [if_neg h]
      cases hl : splitL c l with
      | nil => exact absurd hl (splitL_ne c l)
      | cons hd tl => exact splitK_cons_ne x c l 0 h hd tl (by rw [ih, hl])
theorem after_one (c : UInt8) : ∀ s : List UInt8, splitK [c] 1 (s.count c) s = afterL c s
  | [] => rfl
  | x :: l => by
    have ih := after_one c l
    by_cases h : x = c
    · subst h
      rw [splitK_cons_eq, ih]
      simp [afterL]
    · unfold afterL
      rw [if_neg h]
      cases hl : afterL c l with
      | nil =>
        exfalso
        cases l with
        | nil => simp [afterL] at hl
        | cons y m => unfold afterL at hl; split at hl; · simp at hl
                      · split at hl <;> simp at hl
      | cons hd tl => exact splitK_cons_ne x c l 1 h hd tl (by rw [ih, hl])
theorem splitL_len (c : UInt8) : ∀ s : List UInt8, (splitL c s).length = s.count c + 1
  | [] => rfl
  | x :: l => by
    have ih := splitL_len c l
    unfold splitL
    by_cases h : x = c
    · subst h; rw [if_pos rfl]; simp [ih]
    · rw [if_neg h]
      have hxb : (x == c) = false := by simp [h]
      rw [List.count_cons, hxb]
      cases hl : splitL c l with
      | nil => exact absurd hl (splitL_ne c l)
      | cons hd tl => rw [hl] at ih; simpa using ih

/-- the lines of a text, each without its end -/
def linesL (s : List UInt8) : List (List UInt8) := (splitL 10 s).dropLast
/-- what lies behind the last line's end -/
def restL (s : List UInt8) : List UInt8 := (splitL 10 s).getLastD []
theorem afterL_lines : ∀ s : List UInt8, afterL 10 s = (linesL s).map (· ++ [10]) ++ [restL s]
  | [] => rfl
  | x :: l => by
    have ih := afterL_lines l
    unfold afterL linesL restL splitL
    unfold linesL restL at ih
    by_cases h : x = 10
    · subst h
      rw [if_pos rfl, if_pos rfl, ih]
      cases hl : splitL 10 l with
      | nil => exact absurd hl (splitL_ne 10 l)
      | cons hd tl => simp [List.getLastD]
    · rw [if_neg h, if_neg h, ih]
      cases hl : splitL 10 l with
      | nil => exact absurd hl (splitL_ne 10 l)
      | cons hd tl =>
        cases tl with
        | nil => simp [List.getLastD]
        | cons a t => simp [List.getLastD]
theorem restL_end : ∀ s : List UInt8, s ≠ [] → ((restL s = []) ↔ s.getLast? = some 10)
  | [], h => absurd rfl h
  | [x], _ => by
    unfold restL splitL
    by_cases hx : x = 10
    · subst hx; simp [splitL]
    · simp [hx, splitL]
  | x :: y :: l, _ => by
    have ih := restL_end (y :: l) (by simp)
    rw [List.getLast?_cons_cons]
    rw [← ih]
    unfold restL
    rw [show splitL 10 (x :: y :: l) = if x = 10 then [] :: splitL 10 (y :: l) else match splitL 10 (y :: l) with | [] => [[x]] | h :: t => (x :: h) :: t from rfl]
    cases hl : splitL 10 (y :: l) with
    | nil => exact absurd hl (splitL_ne 10 _)
    | cons hd tl =>
      by_cases hx : x = 10
      · subst hx; simp
      · rw [if_neg hx]
        cases tl with
        | nil =>
          -- one piece: the text has no end of a line
          simp
          intro e
          subst e
          have := splitL_len 10 (y :: l)
          rw [hl] at this
          simp at this
          unfold splitL at hl
          split at hl
          · injection hl with _ h2; exact splitL_ne 10 l h2
          · split at hl <;> simp at hl
        | cons a t => simp
/-- words with one blank between -/
def glue : List (List UInt8) → List UInt8
  | [] => []
  | [x] => x
  | x :: y :: l => x ++ 32 :: glue (y :: l)
theorem glue_split : ∀ s : List UInt8, glue (splitL 32 s) = s
  | [] => rfl
  | x :: l => by
    have ih := glue_split l
    unfold splitL
    cases hl : splitL 32 l with
    | nil => exact absurd hl (splitL_ne 32 l)
    | cons hd tl =>
      rw [hl] at ih
      by_cases h : x = 32
      · subst h
        rw [if_pos rfl]
        show [] ++ 32 :: glue (hd :: tl) = _
        rw [ih]; rfl
      · rw [if_neg h]
        cases tl with
        | nil => simp [glue] at ih ⊢; exact ih
        | cons a t =>
          simp only [glue] at ih ⊢
          rw [List.cons_append, ih]

def wUser : List UInt8 := [117, 115, 101, 114]
def wGroup : List UInt8 := [103, 114, 111, 117, 112]
/-- a line's words, put to users and groups -/
def lineR (w : List (List UInt8)) (us : List (List UInt8)) (gs : List Grp) : Option (List (List UInt8) × List Grp) :=
  if w.length < 2 ∨ w.contains [] = true then none
  else if w[0]? = some wUser then (if w.length = 2 ∧ gs.length = 0 then some (us ++ [(w[1]?).getD []], gs) else none)
  else if w[0]? = some wGroup then some (us, gs ++ [⟨(w[1]?).getD [], w.drop 2⟩])
  else none
def linesR : List (List UInt8) → List (List UInt8) → List Grp → Option (List (List UInt8) × List Grp)
  | [], us, gs => some (us, gs)
  | l :: ls, us, gs => match lineR (splitL 32 l) us gs with
    | none => none
    | some (us', gs') => linesR ls us' gs'
def parseR (s : List UInt8) : Option (List (List UInt8) × List Grp) := if s ≠ [] ∧ s.getLast? ≠ some 10 then none else linesR (linesL s) [] []
def parseE (s : List UInt8) : Int := match parseR s with
  | none => 2
  | some (us, gs) => newE us gs
def textG (g : Grp) : List UInt8 := wGroup ++ 32 :: (g.nm ++ (g.ms.flatMap (fun m => 32 :: m) ++ [10]))
def textU (us : List (List UInt8)) (gs : List Grp) : List UInt8 := us.flatMap (fun u => wUser ++ 32 :: (u ++ [10])) ++ gs.flatMap textG
theorem glue_more : ∀ (x : List UInt8) (l : List (List UInt8)), glue (x :: l) = x ++ l.flatMap (fun m => 32 :: m)
  | x, [] => by simp [glue]
  | x, y :: l => by
    have := glue_more y l
    simp only [glue] at this ⊢
    rw [this]; simp
theorem lineR_text {l : List UInt8} {us us' : List (List UInt8)} {gs gs' : List Grp} (h : lineR (splitL 32 l) us gs = some (us', gs')) : textU us' gs' = textU us gs ++ (l ++ [10]) := by
  have hg := glue_split l
  unfold lineR at h
  split at h
  · cases h
  · rename_i h2
    have hlen : 2 ≤ (splitL 32 l).length := by omega
    generalize hw : splitL 32 l = w at h hg h2 hlen
    match w, hlen with
    | a :: b :: t, _ =>
      rw [glue_more] at hg
      simp at h
      split at h
      · rename_i ha
        split at h
        · rename_i hc
          obtain ⟨hc1, hc2⟩ := hc
          injection h with h
          injection h with e1 e2
          subst e1 e2 hc1 hc2
          rw [← hg, ha]
          simp [textU]
        · cases h
      · split at h
        · rename_i ha
          injection h with h
          injection h with e1 e2
          subst e1 e2
          rw [← hg, ha]
          simp [textU, textG]
        · cases h
theorem linesR_text : ∀ {ls : List (List UInt8)} {us us' : List (List UInt8)} {gs gs' : List Grp}, linesR ls us gs = some (us', gs') → textU us' gs' = textU us gs ++ ls.flatMap (fun l => l ++ [10])
  | [], us, us', gs, gs', h => by
    simp only [linesR] at h
    injection h with h
    injection h with e1 e2
    subst e1 e2
    simp
  | l :: ls, us, us', gs, gs', h => by
    simp only [linesR] at h
    split at h
    · cases h
    · rename_i us1 gs1 h1
      rw [linesR_text h, lineR_text h1]
      simp
theorem afterL_flat : ∀ s : List UInt8, (afterL 10 s).flatten = s
  | [] => rfl
  | x :: l => by
    have ih := afterL_flat l
    unfold afterL
    by_cases h : x = 10
    · subst h; rw [if_pos rfl]; simp [ih]
    · rw [if_neg h]
      cases hl : afterL 10 l with
      | nil => rw [hl] at ih; simp at ih; simp [← ih]
      | cons hd tl => rw [hl] at ih; simp at ih ⊢; exact ih
/-- what is read is told again -/
theorem parseR_text {s : List UInt8} {us : List (List UInt8)} {gs : List Grp} (h : parseR s = some (us, gs)) : textU us gs = s := by
  unfold parseR at h
  split at h
  · cases h
  · rename_i hn
    have := linesR_text h
    rw [this]
    have hf := afterL_flat s
    rw [afterL_lines] at hf
    have hr : restL s = [] := by
      by_cases h0 : s = []
      · subst h0; rfl
      · exact (restL_end s h0).2 (Decidable.byContradiction fun e => hn ⟨h0, e⟩)
    rw [hr] at hf
    simpa [textU, List.flatMap] using hf
end Go.Proofs.YtnlmdfbjmhcilaaDoor
/- Layings of the shelf's contracts at this seat, in plain words (the kit's tool lay-plain.mjs wrote them; wip/layp.py). -/
namespace Go.Proofs.YtnlmdfbjmhcilaaDoor
open Go.Shelf Go.Proofs
def genSplitP_ren : Go.Shelf.Ren := ⟨fun | 221 => 74 | 268 => 100 | 138 => 101 | 143 => 102 | 195 => 122 | 197 => 123 | 218 => 124 | 219 => 125 | 260 => 136 | 217 => 137 | 225 => 138 | 224 => 139 | 267 => 140 | 266 => 144 | 314 => 145 | n => n, fun | 9 => 9 | 3 => 3 | 31 => 47 | 4 => 4 | 0 => 0 | 105 => 149 | 21 => 21 | 5 => 5 | 46 => 118 | 119 => 177 | 139 => 180 | 138 => 179 | 146 => 181 | 51 => 36 | n => n, fun | 1 => 0 | 3 => 1 | 4 => 2 | n => n⟩
theorem genSplitP : Go.Proofs.Lays.n221 Tryd.prog genSplitP_ren := {
  mixed := by kernel_rfl
  f138 := Tryd.func101.trans (congrArg some (by kernel_rfl))
  f143 := Tryd.func102.trans (congrArg some (by kernel_rfl))
  f195 := Tryd.func122.trans (congrArg some (by kernel_rfl))
  f197 := Tryd.func123.trans (congrArg some (by kernel_rfl))
  f217 := Tryd.func137.trans (congrArg some (by kernel_rfl))
  f218 := Tryd.func124.trans (congrArg some (by kernel_rfl))
  f219 := Tryd.func125.trans (congrArg some (by kernel_rfl))
  f221 := Tryd.func74.trans (congrArg some (by kernel_rfl))
  f224 := Tryd.func139.trans (congrArg some (by kernel_rfl))
  f225 := Tryd.func138.trans (congrArg some (by kernel_rfl))
  f260 := Tryd.func136.trans (congrArg some (by kernel_rfl))
  f266 := Tryd.func144.trans (congrArg some (by kernel_rfl))
  f267 := Tryd.func140.trans (congrArg some (by kernel_rfl))
  f268 := Tryd.func100.trans (congrArg some (by kernel_rfl))
  f314 := Tryd.func145.trans (congrArg some (by kernel_rfl))
  t0 := Tryd.underlying0
  a0 := Tryd.isAgg0
  z0 := Tryd.sizeOf0
  v0 := Tryd.zeroValue0
  t3 := Tryd.underlying3
  a3 := Tryd.isAgg3
  z3 := Tryd.sizeOf3
  v3 := Tryd.zeroValue3
  t4 := Tryd.underlying4
  a4 := Tryd.isAgg4
  z4 := Tryd.sizeOf4
  v4 := Tryd.zeroValue4
  t5 := Tryd.underlying5
  a5 := Tryd.isAgg5
  z5 := Tryd.sizeOf5
  v5 := Tryd.zeroValue5
  t9 := Tryd.underlying9
  a9 := Tryd.isAgg9
  z9 := Tryd.sizeOf9
  v9 := Tryd.zeroValue9
  t21 := Tryd.underlying21
  a21 := Tryd.isAgg21
  z21 := Tryd.sizeOf21
  v21 := Tryd.zeroValue21
  t31 := Tryd.underlying47
  a31 := Tryd.isAgg47
  z31 := Tryd.sizeOf47
  v31 := Tryd.zeroValue47
  t46 := Tryd.underlying118
  a46 := Tryd.isAgg118
  z46 := Tryd.sizeOf118
  v46 := Tryd.zeroValue118
  t51 := Tryd.underlying36
  a51 := Tryd.isAgg36
  z51 := Tryd.sizeOf36
  v51 := Tryd.zeroValue36
  t105 := Tryd.underlying149
  a105 := Tryd.isAgg149
  z105 := Tryd.sizeOf149
  v105 := Tryd.zeroValue149
  t119 := Tryd.underlying177
  a119 := Tryd.isAgg177
  z119 := Tryd.sizeOf177
  t138 := Tryd.underlying179
  a138 := Tryd.isAgg179
  z138 := Tryd.sizeOf179
  v138 := Tryd.zeroValue179
  t139 := Tryd.underlying180
  a139 := Tryd.isAgg180
  z139 := Tryd.sizeOf180
  v139 := Tryd.zeroValue180
  t146 := Tryd.underlying181
  a146 := Tryd.isAgg181
  z146 := Tryd.sizeOf181
  v146 := Tryd.zeroValue181
  g1 := by kernel_rfl
  g3 := by kernel_rfl
  g4 := by kernel_rfl }
def hasSufP_ren : Go.Shelf.Ren := ⟨fun | 100 => 45 | 207 => 73 | n => n, fun | 9 => 9 | 4 => 4 | 3 => 3 | n => n, fun | n => n⟩
theorem hasSufP : Go.Proofs.Lays.n100 Tryd.prog hasSufP_ren := {
  mixed := by kernel_rfl
  f100 := Tryd.func45.trans (congrArg some (by kernel_rfl))
  f207 := Tryd.func73.trans (congrArg some (by kernel_rfl))
  t3 := Tryd.underlying3
  a3 := Tryd.isAgg3
  z3 := Tryd.sizeOf3
  v3 := Tryd.zeroValue3
  t4 := Tryd.underlying4
  a4 := Tryd.isAgg4
  z4 := Tryd.sizeOf4
  v4 := Tryd.zeroValue4
  t9 := Tryd.underlying9
  a9 := Tryd.isAgg9
  z9 := Tryd.sizeOf9
  v9 := Tryd.zeroValue9 }
def trimSufP_ren : Go.Shelf.Ren := ⟨fun | 102 => 48 | 209 => 76 | 207 => 73 | n => n, fun | 9 => 9 | 4 => 4 | 3 => 3 | n => n, fun | n => n⟩
theorem trimSufP : Go.Proofs.Lays.n102 Tryd.prog trimSufP_ren := {
  mixed := by kernel_rfl
  f102 := Tryd.func48.trans (congrArg some (by kernel_rfl))
  f207 := Tryd.func73.trans (congrArg some (by kernel_rfl))
  f209 := Tryd.func76.trans (congrArg some (by kernel_rfl))
  t3 := Tryd.underlying3
  a3 := Tryd.isAgg3
  z3 := Tryd.sizeOf3
  v3 := Tryd.zeroValue3
  t4 := Tryd.underlying4
  a4 := Tryd.isAgg4
  z4 := Tryd.sizeOf4
  v4 := Tryd.zeroValue4
  t9 := Tryd.underlying9
  a9 := Tryd.isAgg9
  z9 := Tryd.sizeOf9
  v9 := Tryd.zeroValue9 }
def joinP_ren : Go.Shelf.Ren := ⟨fun | 156 => 52 | 165 => 80 | 166 => 51 | 169 => 53 | 240 => 79 | 241 => 104 | 276 => 103 | 277 => 126 | n => n, fun | 31 => 47 | 9 => 9 | 3 => 3 | 4 => 4 | 0 => 0 | 20 => 20 | 72 => 98 | 76 => 103 | 70 => 96 | 37 => 25 | 75 => 102 | 127 => 130 | 164 => 147 | 5 => 5 | 80 => 57 | n => n, fun | n => n⟩
theorem joinP : Go.Proofs.Lays.n156 Tryd.prog joinP_ren := {
  mixed := by kernel_rfl
  f156 := Tryd.func52.trans (congrArg some (by kernel_rfl))
  f165 := Tryd.func80.trans (congrArg some (by kernel_rfl))
  f166 := Tryd.func51.trans (congrArg some (by kernel_rfl))
  f169 := Tryd.func53.trans (congrArg some (by kernel_rfl))
  f240 := Tryd.func79.trans (congrArg some (by kernel_rfl))
  f241 := Tryd.func104.trans (congrArg some (by kernel_rfl))
  f276 := Tryd.func103.trans (congrArg some (by kernel_rfl))
  f277 := Tryd.func126.trans (congrArg some (by kernel_rfl))
  t0 := Tryd.underlying0
  a0 := Tryd.isAgg0
  z0 := Tryd.sizeOf0
  v0 := Tryd.zeroValue0
  t3 := Tryd.underlying3
  a3 := Tryd.isAgg3
  z3 := Tryd.sizeOf3
  v3 := Tryd.zeroValue3
  t4 := Tryd.underlying4
  a4 := Tryd.isAgg4
  z4 := Tryd.sizeOf4
  v4 := Tryd.zeroValue4
  t9 := Tryd.underlying9
  a9 := Tryd.isAgg9
  z9 := Tryd.sizeOf9
  v9 := Tryd.zeroValue9
  t20 := Tryd.underlying20
  a20 := Tryd.isAgg20
  z20 := Tryd.sizeOf20
  v20 := Tryd.zeroValue20
  t31 := Tryd.underlying47
  a31 := Tryd.isAgg47
  z31 := Tryd.sizeOf47
  v31 := Tryd.zeroValue47
  t37 := Tryd.underlying25
  a37 := Tryd.isAgg25
  z37 := Tryd.sizeOf25
  v37 := Tryd.zeroValue25
  t70 := Tryd.underlying96
  a70 := Tryd.isAgg96
  z70 := Tryd.sizeOf96
  v70 := Tryd.zeroValue96
  t72 := Tryd.underlying98
  a72 := Tryd.isAgg98
  z72 := Tryd.sizeOf98
  v72 := Tryd.zeroValue98
  t75 := Tryd.underlying102
  a75 := Tryd.isAgg102
  z75 := Tryd.sizeOf102
  v75 := Tryd.zeroValue102
  t76 := Tryd.underlying103
  a76 := Tryd.isAgg103
  z76 := Tryd.sizeOf103
  v76 := Tryd.zeroValue103
  t127 := Tryd.underlying130
  a127 := Tryd.isAgg130
  z127 := Tryd.sizeOf130
  v127 := Tryd.zeroValue130
  t164 := Tryd.underlying147
  a164 := Tryd.isAgg147
  z164 := Tryd.sizeOf147
  v164 := Tryd.zeroValue147 }
end Go.Proofs.YtnlmdfbjmhcilaaDoor
/-
  user: strings.Split, SplitAfter at one byte; line.
-/
namespace Go.Proofs.YtnlmdfbjmhcilaaDoor
open Go.RowKit Go.Proofs Go.Shelf
attribute [local go_sem] strOf_size strOf_get strOf_toList

theorem recStr_cells : ∀ L : List (List UInt8), recStr.cells L = L.map (fun x => Value.string (strOf x))
  | [] => rfl
  | x :: l => by
    have := recStr_cells l
    unfold RecT.cells at this ⊢
    rw [List.flatMap_cons, this]; rfl
theorem strs_of {xs : List ByteArray} {L : List (List UInt8)} (h : xs.map (·.data.toList) = L) : xs.map Value.string = recStr.cells L := by
  subst h
  rw [recStr_cells, List.map_map]
  apply List.map_congr_left
  intro x _
  show Value.string x = Value.string (strOf x.data.toList)
  unfold strOf
  simp
def SplitP (L : List (List UInt8)) (w : World) : Ending → World → Prop := fun e w' => ∃ b, e = .returned (.slice (some ⟨b, 0, none⟩) L.length L.length) ∧ recStr.Row w' (.slice (some ⟨b, 0, none⟩) L.length L.length) L ∧ w.heap.size ≤ b ∧ (∃ cs, Blk w' b 9 cs) ∧ Keeps nowhere w w'
theorem gensplit_one (s : List UInt8) (c : UInt8) (sv : Nat) (hsv : sv ≤ 1) (hl : s.length ≤ 1000000) (L : List (List UInt8)) (hL : Lib.splitK [c] sv (s.count c) s = L) (w : World) :
    Calls Tryd.prog 74 #[.string (strOf s), .string ⟨#[c]⟩, .int .i64 sv, .int .i64 (-1)] w (SplitP L w) := by
  have hsz : (strOf s).size = s.length := by simp [strOf, ByteArray.size]
  have hcb : Lib.countB (strOf s) ⟨#[c]⟩ = s.count c := Lib.count_one c s
  have hle : s.count c ≤ s.length := List.count_le_length
  have h := Any.strings_genSplit_core genSplitP (by kernel_rfl) (strOf s) ⟨#[c]⟩ sv (-1) (s.count c + 1) w (by rw [hsz]; omega) (Nat.le_refl 1) hsv
    (fun x cs _ => (Any.strings_Index_one { genSplitP with } x c _).mono fun e w' ⟨he, hw⟩ => ⟨by rw [he]; show _ = Ending.returned (Value.int .i64 (Lib.index x.data.toList [c])); rw [Lib.index_one], hw⟩)
    ((Any.strings_Count_one { genSplitP with } (strOf s) c w).mono fun e w' ⟨he, hw⟩ => ⟨by rw [he, hcb]; rfl, hw⟩)
    (by decide) (by decide) (by rw [if_pos (by decide), hcb, hsz]; omega)
  refine h.mono ?_
  rintro e w' ⟨rfl, rfl⟩
  have hlen := Lib.splitB_all ⟨#[c]⟩ (Nat.le_refl 1) sv _ (strOf s) hcb
  rw [Nat.add_sub_cancel, hlen]
  have hcf := Lib.cellsOf_full (Lib.splitB ⟨#[c]⟩ sv (s.count c) (strOf s))
  rw [hlen] at hcf
  rw [hcf]
  have hd := Lib.splitB_data ⟨#[c]⟩ sv (s.count c) (strOf s)
  rw [show (strOf s).data.toList = s from by simp [strOf], hL] at hd
  have hLl : L.length = s.count c + 1 := by rw [← hd, List.length_map, hlen]
  rw [strs_of hd, ← hLl]
  have hb := Blk.new w 9 (recStr.cells L).toArray
  refine ⟨w.heap.size, rfl, RecT.Row.of_blk (rest := []) (by rw [List.append_nil]; exact hb) (by simp) (by unfold maxLen; omega), Nat.le_refl _, ⟨_, hb⟩, (Keeps.refl nowhere w).alloc _⟩
theorem split32_any (s : List UInt8) (hl : s.length ≤ 1000000) (w : World) : Calls Tryd.prog 75 #[.string (strOf s), .string ⟨#[32]⟩] w (SplitP (splitL 32 s) w) := by
  have h := gensplit_one s 32 0 (by decide) hl _ (split_one 32 s) w
  have H := Lib.hid h
  clear h
  go_enter Tryd.func75, Tryd.ntmps75
  go_wp2_with fail
  refine H.out.mono ?_
  rintro e w' ⟨b, rfl, h1, h2, h3, h4⟩
  go_wp2_with fail
  go_ret
  exact ⟨b, rfl, h1, h2, h3, h4⟩
theorem after10_any (s : List UInt8) (hl : s.length ≤ 1000000) (w : World) : Calls Tryd.prog 46 #[.string (strOf s), .string ⟨#[10]⟩] w (SplitP (afterL 10 s) w) := by
  have h := gensplit_one s 10 1 (by decide) hl _ (after_one 10 s) w
  have H := Lib.hid h
  clear h
  go_enter Tryd.func46, Tryd.ntmps46
  go_wp2_with fail
  refine H.out.mono ?_
  rintro e w' ⟨b, rfl, h1, h2, h3, h4⟩
  go_wp2_with fail
  go_ret
  exact ⟨b, rfl, h1, h2, h3, h4⟩

/-- a group whose members are words of a line -/
def GLn (F : Nat → Prop) (w : World) (x : GrpV) (g : Grp) : Prop := x.nm = g.nm ∧ ∃ k, recStr.Rd w x.sl k g.ms ∧ ∀ b, k = some b → F b ∧ ∃ cs, Blk w b 9 cs
theorem GLn.keep {F S : Nat → Prop} {w w' : World} {x : GrpV} {g : Grp} (h : GLn F w x g) (hk : Keeps S w w') (hs : ∀ b cs, F b → Blk w b 9 cs → ¬ S b) : GLn F w' x g := by
  obtain ⟨h1, k, h2, h3⟩ := h
  refine ⟨h1, k, h2.keep hk (fun b e => ?_), fun b e => ⟨(h3 b e).1, ?_⟩⟩
  · obtain ⟨hf, cs, hb⟩ := h3 b e
    exact hs b cs hf hb
  · obtain ⟨hf, cs, hb⟩ := h3 b e
    exact ⟨cs, hb.keep hk (hs b cs hf hb)⟩
theorem GLn.rd {F : Nat → Prop} {w : World} {x : GrpV} {g : Grp} (h : GLn F w x g) : GRd w x g := ⟨h.1, h.2.elim fun k hk => ⟨k, hk.1⟩⟩
/-- the users and groups read so far -/
def LnT (F : Nat → Prop) (w : World) (p q : Nat) (us : List (List UInt8)) (gs : List Grp) : Prop :=
  ∃ v1 v2 xs, Blk w p 47 #[v1] ∧ Blk w q 80 #[v2] ∧ recStr.Row w v1 us ∧ recG.Row w v2 xs ∧ Each (GLn F w) xs gs ∧ F p ∧ F q ∧ (∀ b, v1.ownBlock = some b → F b) ∧ (∀ b, v2.ownBlock = some b → F b)
theorem LnT.same {F : Nat → Prop} {w w' : World} {p q : Nat} {us : List (List UInt8)} {gs : List Grp} (h : LnT F w p q us gs) (hk : Keeps nowhere w w') : LnT F w' p q us gs := by
  obtain ⟨v1, v2, xs, h1, h2, h3, h4, h5, h6⟩ := h
  exact ⟨v1, v2, xs, h1.keep hk (fun h => h), h2.keep hk (fun h => h), h3.same hk, h4.same hk, h5.imp fun x g hg => hg.keep hk (fun _ _ _ _ h => h), h6⟩
theorem LnT.mono {F F' : Nat → Prop} {w : World} {p q : Nat} {us : List (List UInt8)} {gs : List Grp} (h : LnT F w p q us gs) (hf : ∀ b, F b → F' b) : LnT F' w p q us gs := by
  obtain ⟨v1, v2, xs, h1, h2, h3, h4, h5, h6, h7, h8, h9⟩ := h
  exact ⟨v1, v2, xs, h1, h2, h3, h4, h5.imp fun x g hg => ⟨hg.1, hg.2.elim fun k hk => ⟨k, hk.1, fun b e => ⟨hf b (hk.2 b e).1, (hk.2 b e).2⟩⟩⟩, hf _ h6, hf _ h7, fun b e => hf b (h8 b e), fun b e => hf b (h9 b e)⟩
def LineP (F : Nat → Prop) (p q : Nat) (us : List (List UInt8)) (gs : List Grp) (l : List UInt8) (w : World) : Ending → World → Prop := fun e w' => match lineR (splitL 32 l) us gs with
  | none => e = panicU 2 ∧ Keeps nowhere w w'
  | some (us', gs') => e = .returned (.tuple #[]) ∧ LnT (More F w.heap.size) w' p q us' gs' ∧ Keeps F w w'
theorem LineP.bad {F : Nat → Prop} {p q : Nat} {us : List (List UInt8)} {gs : List Grp} {l : List UInt8} {w w' : World} (h : lineR (splitL 32 l) us gs = none) (hk : Keeps nowhere w w') : LineP F p q us gs l w (panicU 2) w' := by
  unfold LineP; rw [h]; exact ⟨rfl, hk⟩
theorem LineP.good {F : Nat → Prop} {p q : Nat} {us us' : List (List UInt8)} {gs gs' : List Grp} {l : List UInt8} {w w' : World} (h : lineR (splitL 32 l) us gs = some (us', gs')) (h1 : LnT (More F w.heap.size) w' p q us' gs') (hk : Keeps F w w') : LineP F p q us gs l w (.returned (.tuple #[])) w' := by
  unfold LineP; rw [h]; exact ⟨rfl, h1, hk⟩
end Go.Proofs.YtnlmdfbjmhcilaaDoor
