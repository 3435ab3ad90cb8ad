/-
  Parts of the proof, joined in build order: Us19, Us13, Us14, Us20.
-/
import Derived.Test.YtnlmdfbjmhcilaaDoorMu4
import Derived.Laws.ResultCell
set_option linter.unusedVariables false
set_option linter.unusedSimpArgs false
/-
  law 15: known.
-/
namespace Go.Proofs.YtnlmdfbjmhcilaaDoor
open Go.RowKit Go.Proofs Go.Shelf
attribute [local go_sem] strOf_size strOf_get strOf_toList

def kT : List UInt8 := [117, 115, 101, 114, 32, 97, 10, 117, 115, 101, 114, 32, 98, 10, 103, 114, 111, 117, 112, 32, 103, 32, 98, 10]
theorem kN : newE kU kG = 0 ∧ newE [[97], [97]] [] = 7 ∧ newE [] [⟨[103], [[120]]⟩] = 6 ∧ textU kU kG = kT := by decide +kernel
theorem kPar : parseE kT = 0 := by decide +kernel
theorem kPr {us : List (List UInt8)} {gs : List Grp} (h : parseR kT = some (us, gs)) : us = kU ∧ gs = kG := by
  have e : parseR kT = some (kU, kG) := by rfl
  rw [e] at h
  injection h with h
  injection h with h1 h2
  exact ⟨h1.symm, h2.symm⟩
theorem kIn : kU.contains [97] = true ∧ inU kU kG [98] [103] = true ∧ inU kU kG [97] [103] = false ∧ inU kU kG [97] [97] = true := by decide +kernel
theorem rd2 (w : World) (a b : List UInt8) : recStr.Rd (w.alloc (.cells #[.string (strOf a), .string (strOf b)] 9)) (.slice (some ⟨w.heap.size, 0, none⟩) 2 2) (some w.heap.size) [a, b] :=
  (RecT.Row.of_blk (R := recStr) (l := [a, b]) (rest := []) (Blk.new w _ _) rfl (by show 2 ≤ maxLen; decide)).rd
/-- what New makes, where all is right; where it is not -/
theorem new_ok (w : World) (v1 v2 : Value) (k1 k2 : Option Nat) (us : List (List UInt8)) (xs : List GrpV) (gs : List Grp) (hu : recStr.Rd w v1 k1 us) (hg : recG.Rd w v2 k2 xs) (he : Each (GRd w) xs gs)
    (hl : us.length ≤ 1000) (hl2 : gs.length ≤ 1000) (hl3 : ∀ g ∈ gs, g.ms.length ≤ 1000 ∧ g.nm.length ≤ 1000) (hl4 : ∀ s ∈ us, s.length ≤ 1000) (h0 : newE us gs = 0) :
    Calls Tryd.prog 39 #[v1, v2] w fun e w' => ∃ p, e = .returned (.tuple #[.pointer (some ⟨p, 0, none⟩), .int .i64 0]) ∧ UT (fun b => w.heap.size ≤ b) w' p us gs ∧ Keeps nowhere w w' := by
  refine (unew_any w v1 v2 k1 k2 us xs gs hu hg he (by omega) (by omega) (fun g hg => by have := hl3 g hg; omega) (fun s hs => by have := hl4 s hs; omega)).mono ?_
  rintro e w' ⟨hk, ⟨_, p, h1, h2⟩ | ⟨h1, _⟩⟩
  · exact ⟨p, h1, h2, hk⟩
  · exact absurd h0 h1
theorem new_bad (x : Int) (w : World) (v1 v2 : Value) (k1 k2 : Option Nat) (us : List (List UInt8)) (xs : List GrpV) (gs : List Grp) (hu : recStr.Rd w v1 k1 us) (hg : recG.Rd w v2 k2 xs) (he : Each (GRd w) xs gs)
    (hl : us.length ≤ 1000) (hl2 : gs.length ≤ 1000) (hl3 : ∀ g ∈ gs, g.ms.length ≤ 1000 ∧ g.nm.length ≤ 1000) (hl4 : ∀ s ∈ us, s.length ≤ 1000) (h0 : newE us gs = x) (hx : x ≠ 0) :
    Calls Tryd.prog 39 #[v1, v2] w fun e w' => e = .returned (.tuple #[.pointer none, .int .i64 x]) ∧ Keeps nowhere w w' := by
  refine (unew_any w v1 v2 k1 k2 us xs gs hu hg he (by omega) (by omega) (fun g hg => by have := hl3 g hg; omega) (fun s hs => by have := hl4 s hs; omega)).mono ?_
  rintro e w' ⟨hk, ⟨h1, _⟩ | ⟨h1, h2⟩⟩
  · exact absurd (h0.symm.trans h1) hx
  · exact ⟨by rw [h2, h0], hk⟩
def YesU (w : World) : Ending → World → Prop := fun e w' => e = .returned (.bool true) ∧ Keeps nowhere w w'
set_option maxRecDepth 20000 in
set_option maxHeartbeats 8000000 in
theorem known15 (w : World) : Calls Tryd.prog 20 #[] w (YesU w) := by
  obtain ⟨kn1, kn2, kn3, ktx⟩ := kN
  obtain ⟨ki1, ki2, ki3, ki4⟩ := kIn
  -- the first table's slices
  have hka : Keeps nowhere w (w.alloc (.cells #[.string ⟨#[97]⟩, .string ⟨#[98]⟩] 9)) := (Keeps.refl nowhere w).alloc _
  have r1 : recStr.Rd (w.alloc (.cells #[.string ⟨#[97]⟩, .string ⟨#[98]⟩] 9)) (.slice (some ⟨w.heap.size, 0, none⟩) 2 2) (some w.heap.size) kU := rd2 w [97] [98]
  obtain ⟨wa, hwa⟩ : ∃ wa, wa = w.alloc (.cells #[.string ⟨#[97]⟩, .string ⟨#[98]⟩] 9) := ⟨_, rfl⟩
  rw [← hwa] at hka r1
  have ea : wa.heap.size = w.heap.size + 1 := by rw [hwa]; simp
  have hkb : Keeps nowhere wa (wa.alloc (.cells #[.string ⟨#[98]⟩] 9)) := (Keeps.refl nowhere wa).alloc _
  have r2 : recStr.Rd (wa.alloc (.cells #[.string ⟨#[98]⟩] 9)) (.slice (some ⟨wa.heap.size, 0, none⟩) 1 1) (some wa.heap.size) [[98]] := RecT.Rd.one recStr wa [98]
  obtain ⟨wb, hwb⟩ : ∃ wb, wb = wa.alloc (.cells #[.string ⟨#[98]⟩] 9) := ⟨_, rfl⟩
  rw [← hwb] at hkb r2
  have eb : wb.heap.size = w.heap.size + 1 + 1 := by rw [hwb]; simp [ea]
  rw [ea] at r2
  have hkc : Keeps nowhere wb (wb.alloc (.cells #[.string ⟨#[103]⟩, .slice (some ⟨w.heap.size + 1, 0, none⟩) 1 1] 79)) := (Keeps.refl nowhere wb).alloc _
  have r3 : recG.Rd (wb.alloc (.cells #[.string ⟨#[103]⟩, .slice (some ⟨w.heap.size + 1, 0, none⟩) 1 1] 79)) (.slice (some ⟨wb.heap.size, 0, none⟩) 1 1) (some wb.heap.size) [⟨[103], some ⟨w.heap.size + 1, 0, none⟩, 1, 1⟩] := RecT.Rd.one recG wb _
  obtain ⟨wc, hwc⟩ : ∃ wc, wc = wb.alloc (.cells #[.string ⟨#[103]⟩, .slice (some ⟨w.heap.size + 1, 0, none⟩) 1 1] 79) := ⟨_, rfl⟩
  rw [← hwc] at hkc r3
  rw [eb] at r3
  have heach : Each (GRd wc) [⟨[103], some ⟨w.heap.size + 1, 0, none⟩, 1, 1⟩] kG := Each.push (gs := []) Each.nil ⟨rfl, _, (r2.same hkc)⟩
  have hnew := new_ok wc _ _ _ _ kU _ kG ((r1.same hkb).same hkc) r3 heach (by decide) (by decide) (by decide) (by decide) kn1
  have hk0c := (hka.more hkb).more hkc
  clear r1 r2 r3 heach hka hkb hkc ea eb
  have Kn1 := Lib.hid kn1
  have Kn2 := Lib.hid kn2
  have Kn3 := Lib.hid kn3
  have Ktx := Lib.hid ktx
  have Ki1 := Lib.hid ki1
  have Ki2 := Lib.hid ki2
  have Ki3 := Lib.hid ki3
  have Ki4 := Lib.hid ki4
  have Hwa := Lib.hid hwa
  have Hwb := Lib.hid hwb
  have Hwc := Lib.hid hwc
  have Hnew := Lib.hid hnew
  have Hk0c := Lib.hid hk0c
  clear kn1 kn2 kn3 ktx ki1 ki2 ki3 ki4 hwa hwb hwc hnew hk0c
  go_enter Tryd.func20, Tryd.ntmps20
  go_wp2_with fail
  rw [← Hwa.out]
  rw [← Hwb.out]
  rw [← Hwc.out]
  refine Hnew.out.mono ?_
  rintro e w1 ⟨p1, rfl, hU1, hk1⟩
  have hk01 := Hk0c.out.more hk1
  clear hk1
  -- two users of one name
  have hkd : Keeps nowhere w1 (w1.alloc (.cells #[.string ⟨#[97]⟩, .string ⟨#[97]⟩] 9)) := (Keeps.refl nowhere w1).alloc _
  have r4 : recStr.Rd (w1.alloc (.cells #[.string ⟨#[97]⟩, .string ⟨#[97]⟩] 9)) (.slice (some ⟨w1.heap.size, 0, none⟩) 2 2) (some w1.heap.size) [[97], [97]] := rd2 w1 [97] [97]
  have hnew2 := new_bad 7 _ _ _ _ none [[97], [97]] [] [] r4 (RecT.Rd.nil recG _) Each.nil (by decide) (by decide) (by decide) (by decide) Kn2.out (by decide)
  clear r4
  have HU1 := Lib.hid hU1
  have Hk01 := Lib.hid hk01
  have Hkd := Lib.hid hkd
  have Hnew2 := Lib.hid hnew2
  clear hU1 hk01 hkd hnew2
  go_wp2_with fail
  refine Hnew2.out.mono ?_
  rintro e w2 ⟨rfl, hk2⟩
  have hk12 := Hkd.out.more hk2
  have hk02 := Hk01.out.more hk12
  have hU2 := HU1.out.same hk12
  clear hk2
  -- a group of nobody
  have hke : Keeps nowhere w2 (w2.alloc (.cells #[.string ⟨#[120]⟩] 9)) := (Keeps.refl nowhere w2).alloc _
  have r5 : recStr.Rd (w2.alloc (.cells #[.string ⟨#[120]⟩] 9)) (.slice (some ⟨w2.heap.size, 0, none⟩) 1 1) (some w2.heap.size) [[120]] := RecT.Rd.one recStr w2 [120]
  obtain ⟨wd, hwd⟩ : ∃ wd, wd = w2.alloc (.cells #[.string ⟨#[120]⟩] 9) := ⟨_, rfl⟩
  rw [← hwd] at hke r5
  have ed : wd.heap.size = w2.heap.size + 1 := by rw [hwd]; simp
  have hkf : Keeps nowhere wd (wd.alloc (.cells #[.string ⟨#[103]⟩, .slice (some ⟨w2.heap.size, 0, none⟩) 1 1] 79)) := (Keeps.refl nowhere wd).alloc _
  have r6 : recG.Rd (wd.alloc (.cells #[.string ⟨#[103]⟩, .slice (some ⟨w2.heap.size, 0, none⟩) 1 1] 79)) (.slice (some ⟨wd.heap.size, 0, none⟩) 1 1) (some wd.heap.size) [⟨[103], some ⟨w2.heap.size, 0, none⟩, 1, 1⟩] := RecT.Rd.one recG wd _
  obtain ⟨we, hwe⟩ : ∃ we, we = wd.alloc (.cells #[.string ⟨#[103]⟩, .slice (some ⟨w2.heap.size, 0, none⟩) 1 1] 79) := ⟨_, rfl⟩
  rw [← hwe] at hkf r6
  rw [ed] at r6
  have heach2 : Each (GRd we) [⟨[103], some ⟨w2.heap.size, 0, none⟩, 1, 1⟩] [⟨[103], [[120]]⟩] := Each.push (gs := []) Each.nil ⟨rfl, _, (r5.same hkf)⟩
  have hnew3 := new_bad 6 we _ _ none _ [] _ [⟨[103], [[120]]⟩] (RecT.Rd.nil recStr _) r6 heach2 (by decide) (by decide) (by decide) (by decide) Kn3.out (by decide)
  have hk2e := hke.more hkf
  clear r5 r6 heach2 hke hkf ed
  have HU2 := Lib.hid hU2
  have Hk12 := Lib.hid hk12
  have Hk02 := Lib.hid hk02
  have Hwd := Lib.hid hwd
  have Hwe := Lib.hid hwe
  have Hnew3 := Lib.hid hnew3
  have Hk2e := Lib.hid hk2e
  clear hU2 hk12 hk02 hwd hwe hnew3 hk2e
  go_wp2_with fail
  rw [← Hwd.out]
  rw [← Hwe.out]
  refine Hnew3.out.mono ?_
  rintro e w3 ⟨rfl, hk3⟩
  have hk23 := Hk2e.out.more hk3
  have hk03 := Hk02.out.more hk23
  have hU3 := HU2.out.same hk23
  clear hk3
  have htext := utext_any _ w3 p1 kU kG hU3 (by decide) (by decide) (by decide) (by rw [Ktx.out]; decide)
  unfold UTextP at htext
  rw [Ktx.out] at htext
  have hpar := fun w => uparse_any w kT (by decide)
  have Hk03 := Lib.hid hk03
  have HU3 := Lib.hid hU3
  have Htext := Lib.hid htext
  have Hpar := Lib.hid hpar
  have Hk23 := Lib.hid hk23
  clear hk03 hU3 htext hpar hk23
  go_wp2_with fail
  refine Htext.out.mono ?_
  rintro e w4 ⟨rfl, hk4⟩
  have hk04 := Hk03.out.more hk4
  have hU4 := HU3.out.same hk4
  clear hk4
  have Hk04 := Lib.hid hk04
  have HU4 := Lib.hid hU4
  clear hk04 hU4
  go_wp2_with fail
  refine (Hpar.out w4).mono ?_
  rintro e w5 ⟨hk5, ⟨us2, gs2, p2, hp2, -, -, -, rfl, hU5⟩ | ⟨hbad, -⟩⟩
  · obtain ⟨rfl, rfl⟩ := kPr hp2
    have hk05 := Hk04.out.more hk5
    have hU51 := HU4.out.same hk5
    have hgr := groups_known _ w5 p1 hU51
    clear hk5 hp2
    have Hk05 := Lib.hid hk05
    have HU51 := Lib.hid hU51
    have HU5 := Lib.hid hU5
    have Hgr := Lib.hid hgr
    clear hk05 hU51 hU5 hgr
    go_wp2_with fail
    refine Hgr.out.mono ?_
    rintro e w6 ⟨⟨A6, c6, rfl⟩, hk6⟩
    have hk06 := Hk05.out.more hk6
    have hU61 := HU51.out.same hk6
    have hU62 := HU5.out.same hk6
    have hhas := uhas_any _ w6 p1 kU kG [97] hU61 (by decide)
    rw [Ki1.out] at hhas
    clear hk6
    have Hk06 := Lib.hid hk06
    have HU61 := Lib.hid hU61
    have HU62 := Lib.hid hU62
    have Hhas := Lib.hid hhas
    clear hk06 hU61 hU62 hhas
    go_wp2_with fail
    refine Hhas.out.mono ?_
    rintro e w7 ⟨rfl, hk7⟩
    have hk07 := Hk06.out.more hk7
    have hU71 := HU61.out.same hk7
    have hU72 := HU62.out.same hk7
    have hin1 := uin_any _ w7 p1 kU kG [98] [103] hU71 (by decide) (by decide) (by decide)
    rw [Ki2.out] at hin1
    clear hk7
    have Hk07 := Lib.hid hk07
    have HU71 := Lib.hid hU71
    have HU72 := Lib.hid hU72
    have Hin1 := Lib.hid hin1
    clear hk07 hU71 hU72 hin1
    go_wp2_with fail
    refine Hin1.out.mono ?_
    rintro e w8 ⟨rfl, hk8⟩
    have hk08 := Hk07.out.more hk8
    have hU81 := HU71.out.same hk8
    have hU82 := HU72.out.same hk8
    have hin2 := uin_any _ w8 p1 kU kG [97] [103] hU81 (by decide) (by decide) (by decide)
    rw [Ki3.out] at hin2
    clear hk8
    have Hk08 := Lib.hid hk08
    have HU81 := Lib.hid hU81
    have HU82 := Lib.hid hU82
    have Hin2 := Lib.hid hin2
    clear hk08 hU81 hU82 hin2
    go_wp2_with fail
    refine Hin2.out.mono ?_
    rintro e w9 ⟨rfl, hk9⟩
    have hk09 := Hk08.out.more hk9
    have hU91 := HU81.out.same hk9
    have hU92 := HU82.out.same hk9
    have hin3 := uin_any _ w9 p1 kU kG [97] [97] hU91 (by decide) (by decide) (by decide)
    rw [Ki4.out] at hin3
    clear hk9
    have Hk09 := Lib.hid hk09
    have HU91 := Lib.hid hU91
    have HU92 := Lib.hid hU92
    have Hin3 := Lib.hid hin3
    clear hk09 hU91 hU92 hin3
    go_wp2_with fail
    refine Hin3.out.mono ?_
    rintro e wA ⟨rfl, hkA⟩
    have hk0A := Hk09.out.more hkA
    have hUA1 := HU91.out.same hkA
    have hUA2 := HU92.out.same hkA
    have htext2 := utext_any _ wA p1 kU kG hUA1 (by decide) (by decide) (by decide) (by rw [Ktx.out]; decide)
    unfold UTextP at htext2
    rw [Ktx.out] at htext2
    clear hkA
    have Hk0A := Lib.hid hk0A
    have HUA1 := Lib.hid hUA1
    have HUA2 := Lib.hid hUA2
    have Htext2 := Lib.hid htext2
    clear hk0A hUA1 hUA2 htext2
    go_wp2_with fail
    refine Htext2.out.mono ?_
    rintro e wB ⟨rfl, hkB⟩
    have hk0B := Hk0A.out.more hkB
    have hUB2 := HUA2.out.same hkB
    have hin4 := uin_any _ wB p2 kU kG [98] [103] hUB2 (by decide) (by decide) (by decide)
    rw [Ki2.out] at hin4
    have hkt : (kT == [117, 115, 101, 114, 32, 97, 10, 117, 115, 101, 114, 32, 98, 10, 103, 114, 111, 117, 112, 32, 103, 32, 98, 10]) = true := by decide
    clear hkB
    have Hk0B := Lib.hid hk0B
    have HUB2 := Lib.hid hUB2
    have Hin4 := Lib.hid hin4
    clear hk0B hUB2 hin4
    go_wp2_with fail
    refine Hin4.out.mono ?_
    rintro e wC ⟨rfl, hkC⟩
    have hk0C := Hk0B.out.more hkC
    clear hkC
    have Hk0C := Lib.hid hk0C
    clear hk0C
    go_wp2_with fail
    go_ret
    exact ⟨rfl, Hk0C.out⟩
  · exact absurd kPar hbad
end Go.Proofs.YtnlmdfbjmhcilaaDoor
/-
  law 15: parse: what stands in memory between lines; lines (plain).
-/
namespace Go.Proofs.YtnlmdfbjmhcilaaDoor
open Go.RowKit Go.Proofs Go.Shelf

theorem rowR_ne {α : Type} {R : RecT α} {w : World} {v : Value} {l : List α} (h : R.Row w v l) {b : Nat} {T : TypeId} {cs : Array Value} (hb : Blk w b T cs) (ht : T ≠ R.t) : v.ownBlock ≠ some b := by
  intro e
  rcases h.blk with ⟨rfl, -⟩ | ⟨b', c, rest, rfl, hb2, -⟩
  · simp [Value.ownBlock] at e
  · simp only [Value.ownBlock, Option.some.injEq] at e
    subst e
    exact absurd rfl (hb2.ne_ hb (fun e => ht e.symm))
theorem rowRR_ne {α β : Type} {R : RecT α} {R' : RecT β} {w : World} {v v' : Value} {l : List α} {l' : List β} (h : R.Row w v l) (h' : R'.Row w v' l') (ht : R.t ≠ R'.t) (b : Nat) (e : v.ownBlock = some b) : v'.ownBlock ≠ some b := by
  rcases h.blk with ⟨rfl, -⟩ | ⟨b', c, rest, rfl, hb2, -⟩
  · simp [Value.ownBlock] at e
  · simp only [Value.ownBlock, Option.some.injEq] at e
    subst e
    exact rowR_ne h' hb2 ht
abbrev anyB : Nat → Prop := fun _ => True
/-- what parse has read: the result's cell at `p`, the record at `q` -/
structure PS (w0 w : World) (p q : Nat) (vu vg : Value) (xs : List GrpV) (us : List (List UInt8)) (gs : List Grp) : Prop where
  res : Blk w p 54 #[.slice none 0 0, .slice none 0 0]
  recd : Blk w q 54 #[vu, vg]
  us_ : recStr.Row w vu us
  gs_ : recG2.Row w vg xs
  mem : Each (GLn anyB w) xs gs
  au : Above w0.heap.size vu.ownBlock
  ag : Above w0.heap.size vg.ownBlock
  k : Keeps nowhere w0 w
  pq : p ≠ q
  p0 : w0.heap.size ≤ p
  q0 : w0.heap.size ≤ q
section
variable {w0 w w' : World} {p q : Nat} {vu vg : Value} {xs : List GrpV} {us : List (List UInt8)} {gs : List Grp}
theorem PS.same (h : PS w0 w p q vu vg xs us gs) (hk : Keeps nowhere w w') : PS w0 w' p q vu vg xs us gs :=
  ⟨h.res.keep hk (fun h => h), h.recd.keep hk (fun h => h), h.us_.same hk, h.gs_.same hk, h.mem.imp fun _ _ hh => hh.keep hk (fun _ _ _ _ h => h), h.au, h.ag, h.k.more hk, h.pq, h.p0, h.q0⟩
theorem PS.ru (h : PS w0 w p q vu vg xs us gs) : RU w vu vg us gs := ⟨_, _, xs, h.us_.rd, h.gs_.rd, h.mem.imp fun _ _ hh => hh.rd⟩
theorem PS.user (h : PS w0 w p q vu vg [] us []) {x : List UInt8} {v6 : Value} {w6 : World} (hr : recStr.Row w6 v6 (us ++ [x])) (hk : Keeps (fun b => vu.ownBlock = some b) w w6) (hf : ∀ b, v6.ownBlock = some b → vu.ownBlock = some b ∨ w0.heap.size ≤ b) :
    Blk w6 q 54 #[vu, vg] ∧ PS w0 (w6.setCell ⟨q, 0, none⟩ v6) p q v6 vg [] (us ++ [x]) [] := by
  have hq6 := h.recd.keep hk (fun e => rowR_ne h.us_ h.recd (by decide) e)
  have hp6 := h.res.keep hk (fun e => rowR_ne h.us_ h.res (by decide) e)
  have hg6 := h.gs_.keep hk (fun b e e2 => rowRR_ne h.us_ h.gs_ (by decide) b e2 e)
  have hk7 : Keeps (only q) w6 (w6.setCell ⟨q, 0, none⟩ v6) := (Keeps.refl (only q) w6).setCell (p := ⟨q, 0, none⟩) (fun _ => rfl) v6
  have hb7 := hq6.set_ 0 v6
  simp at hb7
  refine ⟨hq6, hp6.keep hk7 (fun e => h.pq e), hb7, hr.keep hk7 (fun b e e2 => ?_), hg6.keep hk7 (fun b e e2 => ?_), Each.nil, fun b e => (hf b e).elim (h.au b) id, h.ag, (h.k.trans hk (fun b hb e => by have := h.au b e; omega)).trans hk7 (fun b hb e => by have := h.q0; unfold only at e; omega), h.pq, h.p0, h.q0⟩
  · have e' : b = q := e2
    subst e'
    exact rowR_ne hr hq6 (by decide) e
  · have e' : b = q := e2
    subst e'
    exact rowR_ne hg6 hq6 (by decide) e
theorem PS.group (h : PS w0 w p q vu vg xs us gs) {x : GrpV} {g : Grp} (hx : GLn anyB w x g) {v6 : Value} {w6 : World} (hr : recG2.Row w6 v6 (xs ++ [x])) (hk : Keeps (fun b => vg.ownBlock = some b) w w6) (hf : ∀ b, v6.ownBlock = some b → vg.ownBlock = some b ∨ w0.heap.size ≤ b) :
    Blk w6 q 54 #[vu, vg] ∧ PS w0 (w6.setCell ⟨q, 1, none⟩ v6) p q vu v6 (xs ++ [x]) us (gs ++ [g]) := by
  have hq6 := h.recd.keep hk (fun e => rowR_ne h.gs_ h.recd (by decide) e)
  have hp6 := h.res.keep hk (fun e => rowR_ne h.gs_ h.res (by decide) e)
  have hu6 := h.us_.keep hk (fun b e e2 => rowRR_ne h.us_ h.gs_ (by decide) b e e2)
  have hE6 := (h.mem.push hx).imp (fun _ _ hh => hh.keep hk (fun b cs _ hb e => rowR_ne h.gs_ hb (by decide) e))
  have hk7 : Keeps (only q) w6 (w6.setCell ⟨q, 1, none⟩ v6) := (Keeps.refl (only q) w6).setCell (p := ⟨q, 1, none⟩) (fun _ => rfl) v6
  have hb7 := hq6.set_ 1 v6
  simp at hb7
  refine ⟨hq6, hp6.keep hk7 (fun e => h.pq e), hb7, hu6.keep hk7 (fun b e e2 => ?_), hr.keep hk7 (fun b e e2 => ?_), hE6.imp (fun _ _ hh => hh.keep hk7 (fun b cs _ hb e => hb.ne_ hq6 (by decide) e)), h.au, fun b e => (hf b e).elim (h.ag b) id, (h.k.trans hk (fun b hb e => by have := h.ag b e; omega)).trans hk7 (fun b hb e => by have := h.q0; unfold only at e; omega), h.pq, h.p0, h.q0⟩
  · have e' : b = q := e2
    subst e'
    exact rowR_ne hu6 hq6 (by decide) e
  · have e' : b = q := e2
    subst e'
    exact rowR_ne hr hq6 (by decide) e
end
theorem splitL_line (c : UInt8) (r : List UInt8) : ∀ l : List UInt8, (∀ x ∈ l, x ≠ c) → splitL c (l ++ c :: r) = l :: splitL c r
  | [], _ => by simp [splitL]
  | x :: l, h => by
    have ih := splitL_line c r l (fun y hy => h y (List.mem_cons_of_mem _ hy))
    have hx := h x (by simp)
    rw [List.cons_append, splitL, if_neg hx, ih]
theorem splitL_none (c : UInt8) : ∀ l : List UInt8, (∀ x ∈ l, x ≠ c) → splitL c l = [l]
  | [], _ => rfl
  | x :: l, h => by
    have ih := splitL_none c l (fun y hy => h y (List.mem_cons_of_mem _ hy))
    have hx := h x (by simp)
    rw [splitL, if_neg hx, ih]
theorem linesL_line (r l : List UInt8) (h : ∀ x ∈ l, x ≠ 10) : linesL (l ++ 10 :: r) = l :: linesL r := by
  unfold linesL
  rw [splitL_line 10 r l h, List.dropLast_cons_of_ne_nil (splitL_ne 10 r)]
theorem linesL_none (l : List UInt8) (h : ∀ x ∈ l, x ≠ 10) : linesL l = [] := by
  unfold linesL
  rw [splitL_none 10 l h]; rfl
/-- at a line's end -/
theorem lines_at {s : List UInt8} {a i : Nat} (ha : a ≤ i) (hi : s[i]? = some 10) (hno : ∀ k x, a ≤ k → k < i → s[k]? = some x → x ≠ 10) :
    linesL (s.drop a) = (s.drop a).take (i - a) :: linesL (s.drop (i + 1)) := by
  have hlt := (List.getElem?_eq_some_iff.1 hi).1
  have h1 : s.drop a = (s.drop a).take (i - a) ++ 10 :: s.drop (i + 1) := by
    conv => lhs; rw [← List.take_append_drop (i - a) (s.drop a)]
    rw [List.drop_drop, show a + (i - a) = i by omega, List.drop_eq_getElem_cons hlt]
    obtain ⟨_, h2⟩ := List.getElem?_eq_some_iff.1 hi
    rw [h2]
  have h2 := linesL_line (s.drop (i + 1)) ((s.drop a).take (i - a)) (by
    intro x hx
    obtain ⟨k, hk, e⟩ := List.getElem_of_mem hx
    have hk' : k < i - a := by simp at hk; omega
    refine hno (a + k) x (by omega) (by omega) ?_
    rw [← e]
    simp only [List.getElem_take, List.getElem_drop]
    exact List.getElem?_eq_getElem (by omega))
  rw [← h1] at h2
  exact h2
theorem lines_end {s : List UInt8} {a : Nat} (hno : ∀ k x, a ≤ k → k < s.length → s[k]? = some x → x ≠ 10) : linesL (s.drop a) = [] := by
  refine linesL_none _ fun x hx => ?_
  obtain ⟨k, hk, e⟩ := List.getElem_of_mem hx
  have hk' : a + k < s.length := by simp at hk; omega
  refine hno (a + k) x (by omega) hk' ?_
  rw [← e, List.getElem_drop]
  exact List.getElem?_eq_getElem hk'
end Go.Proofs.YtnlmdfbjmhcilaaDoor
/-
  law 15: parse.
-/
namespace Go.Proofs.YtnlmdfbjmhcilaaDoor
open Go.RowKit Go.Proofs Go.Shelf
attribute [local go_sem] strOf_size strOf_get strOf_toList

def RParseP (s : List UInt8) (w : World) : Ending → World → Prop := fun e w' => ∃ A n c A' n' c', e = .returned (.tuple #[.agg #[.slice A n c, .slice A' n' c'], .int .i64 (parseE s)]) ∧ (parseE s = 0 → ∃ us gs, parseR s = some (us, gs) ∧ RU w' (.slice A n c) (.slice A' n' c') us gs) ∧ Keeps nowhere w w'
theorem RParseP.bad {s : List UInt8} {w w' : World} {A A' : Option Addr} {n c n' c' : Nat} {x : Int} (h : parseE s = x) (hx : x ≠ 0) (hk : Keeps nowhere w w') : RParseP s w (.returned (.tuple #[.agg #[.slice A n c, .slice A' n' c'], .int .i64 x])) w' := ⟨_, _, _, _, _, _, by rw [h], fun e => absurd (h.symm.trans e) hx, hk⟩
theorem PS.cells {w0 w : World} {p q : Nat} {vu vg : Value} {xs : List GrpV} {us : List (List UInt8)} {gs : List Grp} (h : PS w0 w p q vu vg xs us gs) :
    w.cell? ⟨p, 0, none⟩ = some (.slice none 0 0) ∧ w.cell? ⟨p, 1, none⟩ = some (.slice none 0 0) ∧ w.frozen? ⟨p, 0, none⟩ = false ∧ w.frozen? ⟨p, 1, none⟩ = false ∧ w.cell? ⟨q, 0, none⟩ = some vu ∧ w.cell? ⟨q, 1, none⟩ = some vg ∧ w.frozen? ⟨q, 0, none⟩ = false ∧ w.frozen? ⟨q, 1, none⟩ = false :=
  ⟨by simpa using h.res.cell 0, by simpa using h.res.cell 1, h.res.frozen 0, h.res.frozen 1, by simpa using h.recd.cell 0, by simpa using h.recd.cell 1, h.recd.frozen 0, h.recd.frozen 1⟩
/-- the result's cell, laid -/
theorem PS.lay {w0 w : World} {p q : Nat} {vu vg : Value} {xs : List GrpV} {us : List (List UInt8)} {gs : List Grp} (h : PS w0 w p q vu vg xs us gs) (a b : Value) :
    Keeps nowhere w0 ((w.setCell ⟨p, 0, none⟩ a).setCell ⟨p, 1, none⟩ b) ∧ ((w.setCell ⟨p, 0, none⟩ a).setCell ⟨p, 1, none⟩ b).cell? ⟨p, 0, none⟩ = some a ∧ ((w.setCell ⟨p, 0, none⟩ a).setCell ⟨p, 1, none⟩ b).cell? ⟨p, 1, none⟩ = some b := by
  have h2 := (h.res.set_ 0 a).set_ 1 b
  have e0 := h2.cell 0
  have e1 := h2.cell 1
  simp at e0 e1
  have hp := h.p0
  exact ⟨(h.k.setCell (p := ⟨p, 0, none⟩) (fun e => by simp at e; omega) a).setCell (p := ⟨p, 1, none⟩) (fun e => by simp at e; omega) b, e0, e1⟩
theorem linesR_step {l : List UInt8} {ls us : List (List UInt8)} {gs : List Grp} : linesR (l :: ls) us gs = match lineR (splitL 32 l) us gs with | none => none | some (us', gs') => linesR ls us' gs' := rfl
theorem parseE_none {s : List UInt8} (h : parseR s = none) : parseE s = 2 := by unfold parseE; rw [h]
set_option maxRecDepth 20000 in
set_option maxHeartbeats 8000000 in
theorem parse_any (s : List UInt8) (hl : s.length ≤ 1000) (w : World) : Calls Tryd.prog 22 #[.string (strOf s)] w (RParseP s w) := by
  obtain ⟨n, hn⟩ : ∃ n, n = s.length := ⟨_, rfl⟩
  obtain ⟨p, hp⟩ : ∃ p, p = w.heap.size := ⟨_, rfl⟩
  obtain ⟨w1, hw1⟩ : ∃ w1, w1 = w.alloc (.cells #[.slice none 0 0, .slice none 0 0] 54) := ⟨_, rfl⟩
  obtain ⟨q, hq⟩ : ∃ q, q = w1.heap.size := ⟨_, rfl⟩
  obtain ⟨w2, hw2⟩ : ∃ w2, w2 = w1.alloc (.cells #[.slice none 0 0, .slice none 0 0] 54) := ⟨_, rfl⟩
  have hk1 : Keeps nowhere w w1 := by rw [hw1]; exact (Keeps.refl nowhere w).alloc _
  have hk12 : Keeps nowhere w1 w2 := by rw [hw2]; exact (Keeps.refl nowhere w1).alloc _
  have hb1 : Blk w1 p 54 #[.slice none 0 0, .slice none 0 0] := by rw [hw1, hp]; exact Blk.new _ _ _
  have hb2 : Blk w2 q 54 #[.slice none 0 0, .slice none 0 0] := by rw [hw2, hq]; exact Blk.new _ _ _
  have hps : PS w w2 p q (.slice none 0 0) (.slice none 0 0) [] [] [] :=
    ⟨hb1.keep hk12 (fun h => h), hb2, RecT.Row.nil _ _, RecT.Row.nil _ _, Each.nil, fun b e => by simp [Value.ownBlock] at e, fun b e => by simp [Value.ownBlock] at e, hk1.more hk12, (by have := hb1.lt; omega), (by omega), (by have := hk1.size; omega)⟩
  obtain ⟨c1, c2, c3, c4, c5, c6, c7, c8⟩ := hps.cells
  by_cases h0 : s = []
  · have hse : s.isEmpty = true := by rw [h0]; rfl
    have hpe : parseE s = 0 := by rw [h0]; rfl
    have hpr : parseR s = some ([], []) := by rw [h0]; rfl
    obtain ⟨y1, y2, y3⟩ := hps.lay (.slice none 0 0) (.slice none 0 0)
    have hru : RU ((w2.setCell ⟨p, 0, none⟩ (.slice none 0 0)).setCell ⟨p, 1, none⟩ (.slice none 0 0)) (.slice none 0 0) (.slice none 0 0) [] [] := ⟨none, none, [], RecT.Rd.nil _ _, RecT.Rd.nil _ _, Each.nil⟩
    have hfin : RParseP s w (.returned (.tuple #[.agg #[.slice none 0 0, .slice none 0 0], .int .i64 0])) ((w2.setCell ⟨p, 0, none⟩ (.slice none 0 0)).setCell ⟨p, 1, none⟩ (.slice none 0 0)) := ⟨_, _, _, _, _, _, by rw [hpe], fun _ => ⟨[], [], hpr, hru⟩, y1⟩
    clear y1 hru h0
    have Hps := Lib.hid hps
    have Hfin := Lib.hid hfin
    have Hpe := Lib.hid hpe
    have Hpr := Lib.hid hpr
    have Hn := Lib.hid hn
    have Hp := Lib.hid hp
    have Hq := Lib.hid hq
    have Hw1 := Lib.hid hw1
    have Hw2 := Lib.hid hw2
    have Hk1 := Lib.hid hk1
    have Hk12 := Lib.hid hk12
    have Hb1 := Lib.hid hb1
    have Hb2 := Lib.hid hb2
    clear hps hfin hpe hpr hn hp hq hw1 hw2 hk1 hk12 hb1 hb2
    go_enter Tryd.func22, Tryd.ntmps22
    go_upto_region 1 with fail
    rw [← Hw1.out]
    simp only [← Hp.out]
    go_upto_region 2 with fail
    rw [← Hw2.out]
    simp only [← Hq.out]
    go_wp2_with fail
    (try simp only [Exit.inBlock, Exit.then])
    refine bodyPost_ret (v := .tuple #[.agg #[.slice none 0 0, .slice none 0 0], .int .i64 0]) ?_ rfl Hfin.out
    rw [results_cell_tmp rfl]
    go_simp
  · have hse : s.isEmpty = false := by simp [h0]
    have hpos : 0 < n := by rw [hn]; exact List.length_pos_iff.2 h0
    obtain ⟨z, hz⟩ : ∃ z, z + 1 = n := ⟨n - 1, by omega⟩
    have hzn : z < n := by omega
    have hznI : (z : Int) < n := by omega
    have hz0 : (0 : Int) ≤ (z : Int) := by omega
    have hw' : IntKind.i64.wrap ((n : Int) - 1) = z := by rw [IntWalk.i64_in _ (by omega)]; omega
    obtain ⟨c, hc⟩ : ∃ c, s[z]? = some c := ⟨_, List.getElem?_eq_getElem (by omega)⟩
    have hbc : byteN s z = c.toNat := by unfold byteN; rw [hc]; rfl
    have hlast : s.getLast? = some c := by rw [List.getLast?_eq_getElem?, ← hn, show n - 1 = z by omega]; exact hc
    have hsz : s.length = n := hn.symm
    by_cases hnl : c = 10
    · have hb10 : byteN s z = 10 := by rw [hbc, hnl]; rfl
      have hpr : parseR s = linesR (linesL (s.drop 0)) [] [] := by unfold parseR; rw [if_neg (by rw [hlast, hnl]; simp)]; rfl
      clear hlast
      have Hps := Lib.hid hps
      have Hpr := Lib.hid hpr
      have Hn := Lib.hid hn
      have Hp := Lib.hid hp
      have Hq := Lib.hid hq
      have Hw1 := Lib.hid hw1
      have Hw2 := Lib.hid hw2
      have Hk1 := Lib.hid hk1
      have Hk12 := Lib.hid hk12
      have Hb1 := Lib.hid hb1
      have Hb2 := Lib.hid hb2
      have Hz := Lib.hid hz
      have Hc := Lib.hid hc
      have Hbc := Lib.hid hbc
      have Hnl := Lib.hid hnl
      have H0 := Lib.hid h0
      clear hps hpr hn hp hq hw1 hw2 hk1 hk12 hb1 hb2 hz hc hbc hnl h0
      go_enter Tryd.func22, Tryd.ntmps22
      go_upto_region 1 with fail
      rw [← Hw1.out]
      simp only [← Hp.out]
      go_upto_region 2 with fail
      rw [← Hw2.out]
      simp only [← Hq.out]
      go_wp2_with fail
      clear c1 c2 c3 c4 c5 c6 c7 c8 hse hb10 hz0 hznI hw'
      go_loopw [5, 6] (fun av iv wr => ∃ (a i : Nat) (vu vg : Value) (xs : List GrpV) (us : List (List UInt8)) (gs : List Grp), av = .int .i64 a ∧ iv = .int .i64 i ∧ a ≤ i ∧ i ≤ n ∧ PS w wr p q vu vg xs us gs ∧ parseR s = linesR (linesL (s.drop a)) us gs ∧ (∀ k x, a ≤ k → k < i → s[k]? = some x → x ≠ 10) ∧ BndU 1000 us gs ∧ us.length + gs.length ≤ a) (fun _ iv _ => n - (intOf iv).toNat)
      case atStart => exact ⟨0, 0, _, _, [], [], [], rfl, rfl, Nat.le_refl _, Nat.zero_le _, Hps.out, Hpr.out, (fun k x h1 h2 => by omega), ⟨fun u h => by simp at h, fun g h => by simp at h⟩, Nat.le_refl _⟩
      case round =>
        obtain ⟨a, i, vu, vg, xs, us, gs, rfl, rfl, hai, hin, hP, hpr2, hno, hbd, hcnt⟩ := hrel
        obtain ⟨Au, cu, hvu, -⟩ := hP.us_.form
        obtain ⟨Ag, cg, hvg, -⟩ := hP.gs_.form
        obtain ⟨Nu, hNu⟩ : ∃ N, N = us.length := ⟨_, rfl⟩
        obtain ⟨Ng, hNg⟩ : ∃ N, N = xs.length := ⟨_, rfl⟩
        rw [← hNu] at hvu
        rw [← hNg] at hvg
        subst hvu hvg
        have HNu := Lib.hid hNu
        have HNg := Lib.hid hNg
        clear hNu hNg
        obtain ⟨c1, c2, c3, c4, c5, c6, c7, c8⟩ := hP.cells
        by_cases hlt : i < n
        · have hltI : (i : Int) < n := by omega
          have hi0 : (0 : Int) ≤ (i : Int) := by omega
          have ha0 : (0 : Int) ≤ (a : Int) := by omega
          have haiI : (a : Int) ≤ i := by omega
          have hiN : (i : Int) ≤ n := by omega
          have hi1 : IntKind.i64.wrap ((i : Int) + 1) = i + 1 := IntWalk.i64_in _ (by omega)
          obtain ⟨d, hd⟩ : ∃ d, s[i]? = some d := ⟨_, List.getElem?_eq_getElem (by rw [← Hn.out]; exact hlt)⟩
          have hbd2 : byteN s i = d.toNat := by unfold byteN; rw [hd]; rfl
          by_cases hdn : d = 10
          · have hbi : ((byteN s i : Int) != 10) = false := by rw [hbd2, hdn]; rfl
            obtain ⟨line, hline⟩ : ∃ line, line = (s.drop a).take (i - a) := ⟨_, rfl⟩
            have hla := lines_at hai (by rw [hd, hdn]) hno
            rw [← hline] at hla
            have hex : (strOf s).extract a i = strOf line := by rw [strOf_extract, hline]
            have hlineL : line.length ≤ 1000 := by rw [hline]; simp; have := Hn.out; omega
            rw [hla, linesR_step] at hpr2
            have hfld := fields_any line (by omega) wr
            have hbnd := fun us' gs' h => lineR_bnd (B := 1000) (l := line) (us := us) (us' := us') (gs := gs) (gs' := gs') h hlineL hbd
            have HP := Lib.hid hP
            have Hpr2 := Lib.hid hpr2
            have Hno := Lib.hid hno
            have Hbd := Lib.hid hbd
            have Hcnt := Lib.hid hcnt
            have Hd := Lib.hid hd
            have Hbd2 := Lib.hid hbd2
            have Hdn := Lib.hid hdn
            have Hline := Lib.hid hline
            have Hla := Lib.hid hla
            have HlineL := Lib.hid hlineL
            have Hfld := Lib.hid hfld
            have Hbnd := Lib.hid hbnd
            clear hP hpr2 hno hbd hcnt hd hbd2 hdn hline hla hlineL hfld hbnd
            go_wp2_with fail
            refine Hfld.out.mono ?_
            rintro e w5 ⟨v5, b, rfl, hb5, hr5, ha5, hk5⟩
            obtain ⟨L, hL⟩ : ∃ L, L = splitL 32 line := ⟨_, rfl⟩
            rw [← hL] at hb5 hr5
            have hpr3 := Hpr2.out
            rw [← hL] at hpr3
            have hbnd3 := Hbnd.out
            rw [← hL] at hbnd3
            have hLpos : 0 < L.length := by rw [hL]; exact splitL_pos 32 _
            obtain ⟨bb, cap, rest, hv5, hblk, -, hmcap, -⟩ := (hr5.blk).resolve_left (fun h => by rw [h.2] at hLpos; cases hLpos)
            subst hv5
            obtain ⟨m, hm⟩ : ∃ m, m = L.length := ⟨_, rfl⟩
            rw [← hm] at hr5 hLpos
            have hP5 := HP.out.same hk5
            clear c1 c2 c3 c4 c5 c6 c7 c8
            obtain ⟨c1, c2, c3, c4, c5, c6, c7, c8⟩ := hP5.cells
            rw [← hm] at hmcap
            rw [← hm]
            --BEGIN
            by_cases hbadw : b = false ∨ m < 2
            · have hlr : lineR L us gs = none := by
                unfold lineR
                rw [if_pos]
                rcases hbadw with h | h
                · right
                  rw [h] at hb5
                  simpa using hb5.symm
                · left; rw [← hm]; exact h
              have hpe : parseE s = 2 := by
                rw [hlr] at hpr3
                exact parseE_none hpr3
              have Hb5 := Lib.hid hb5
              have Hr5 := Lib.hid hr5
              have Ha5 := Lib.hid ha5
              have Hk5 := Lib.hid hk5
              have HL := Lib.hid hL
              have Hpr3 := Lib.hid hpr3
              have Hbnd3 := Lib.hid hbnd3
              have Hblk := Lib.hid hblk
              have Hm := Lib.hid hm
              have HP5 := Lib.hid hP5
              have Hlr := Lib.hid hlr
              clear hb5 hr5 ha5 hk5 hL hpr3 hbnd3 hblk hm hP5 hlr
              cases b with
              | false =>
                clear hbadw
                obtain ⟨y1, y2, y3⟩ := HP5.out.lay (.slice Au Nu cu) (.slice Ag Ng cg)
                have hfin : RParseP s w (.returned (.tuple #[.agg #[.slice Au Nu cu, .slice Ag Ng cg], .int .i64 2])) ((w5.setCell ⟨p, 0, none⟩ (.slice Au Nu cu)).setCell ⟨p, 1, none⟩ (.slice Ag Ng cg)) := RParseP.bad hpe (by decide) y1
                clear y1 
                have Hpe := Lib.hid hpe
                have Hfin := Lib.hid hfin
                clear hpe hfin
                go_wp2_with fail
                (try simp only [Exit.inBlock, Exit.then])
                refine bodyPost_ret (v := .tuple #[.agg #[.slice Au Nu cu, .slice Ag Ng cg], .int .i64 2]) ?_ rfl Hfin.out
                rw [results_cell_tmp rfl]
                go_simp
              | true =>
                have hm2 : (m : Int) < 2 := by rcases hbadw with h | h; cases h; omega
                clear hbadw
                obtain ⟨y1, y2, y3⟩ := HP5.out.lay (.slice Au Nu cu) (.slice Ag Ng cg)
                have hfin : RParseP s w (.returned (.tuple #[.agg #[.slice Au Nu cu, .slice Ag Ng cg], .int .i64 2])) ((w5.setCell ⟨p, 0, none⟩ (.slice Au Nu cu)).setCell ⟨p, 1, none⟩ (.slice Ag Ng cg)) := RParseP.bad hpe (by decide) y1
                clear y1 
                have Hpe := Lib.hid hpe
                have Hfin := Lib.hid hfin
                clear hpe hfin
                go_wp2_with fail
                (try simp only [Exit.inBlock, Exit.then])
                refine bodyPost_ret (v := .tuple #[.agg #[.slice Au Nu cu, .slice Ag Ng cg], .int .i64 2]) ?_ rfl Hfin.out
                rw [results_cell_tmp rfl]
                go_simp
            · have hbt : b = true := by cases b with | false => exact absurd (.inl rfl) hbadw | true => rfl
              have hm2' : 2 ≤ m := by omega
              subst hbt
              clear hbadw
              have hm2 : ¬ (m : Int) < 2 := by omega
              have h0m : (0 : Int) < m := by omega
              have h1m : (1 : Int) < m := by omega
              have h2m : (2 : Int) ≤ m := by omega
              have hpre : ¬ (L.length < 2 ∨ L.contains [] = true) := by
                rintro (h | h)
                · omega
                · rw [h] at hb5; simp at hb5
              obtain ⟨x0, hx0⟩ : ∃ x, L[0]? = some x := ⟨_, List.getElem?_eq_getElem (by omega)⟩
              obtain ⟨x1, hx1⟩ : ∃ x, L[1]? = some x := ⟨_, List.getElem?_eq_getElem (by omega)⟩
              have d0 := atSt (hr5.at_ hx0)
              rw [Nat.zero_mul] at d0
              have Hb5 := Lib.hid hb5
              have Hr5 := Lib.hid hr5
              have Ha5 := Lib.hid ha5
              have Hk5 := Lib.hid hk5
              have HL := Lib.hid hL
              have Hpr3 := Lib.hid hpr3
              have Hbnd3 := Lib.hid hbnd3
              have Hblk := Lib.hid hblk
              have Hm := Lib.hid hm
              have HP5 := Lib.hid hP5
              have Hpre := Lib.hid hpre
              clear hb5 hr5 ha5 hk5 hL hpr3 hbnd3 hblk hm hP5 hpre
              by_cases hus : x0 = wUser
              · have e1 : ((strOf x0).toList == wUser) = true := by rw [strOf_toList, hus]; decide
                have e2 : (x0 == wUser) = true := by rw [hus]; simp
                have g1 : ((strOf x0).toList == wGroup) = false := by rw [strOf_toList, hus]; decide
                have g2 : (x0 == wGroup) = false := by rw [hus]; decide
                unfold wUser at e1 e2
                unfold wGroup at g1 g2
                by_cases hgood : m = 2 ∧ gs = []
                · obtain ⟨hm22, hgs⟩ := hgood
                  have hNg : Ng = 0 := by rw [HNg.out, HP5.out.mem.1, hgs]; rfl
                  have hlr : lineR L us gs = some (us ++ [x1], gs) := by
                    unfold lineR
                    rw [if_neg Hpre.out, if_pos (by rw [hx0, hus]), if_pos ⟨by rw [← Hm.out]; exact hm22, by rw [hgs]; rfl⟩, hx1]; rfl
                  have b2 : ((m : Int) == 2) = true := by rw [hm22]; rfl
                  have b3 : ((Ng : Int) == 0) = true := by rw [hNg]; rfl
                  have b4 : (Ng == 0) = true := by rw [hNg]; rfl
                  have Hm22 := Lib.hid hm22
                  have HNg := Lib.hid hNg
                  clear hm22 hNg
                  have hgs0 : gs = [] := hgs
                  subst hgs0
                  have hxs0 : xs = [] := List.eq_nil_of_length_eq_zero (by have := HP5.out.mem.1; simpa using this)
                  subst hxs0
                  have hpr4 := Hpr3.out
                  rw [hlr] at hpr4
                  obtain ⟨hbd4, hcnt4⟩ := Hbnd3.out _ _ hlr
                  have q1 : ∀ w', Keeps nowhere w5.drew w' → w'.cell? ⟨q, 0, none⟩ = some (.slice Au Nu cu) := fun w' e => (HP5.out.same ((Keeps.refl _ w5).drew.more e)).cells.2.2.2.2.1
                  have r2 : w5.drew.cell? ⟨bb, 1, none⟩ = some (.string (strOf x1)) := by
                    have := atSt ((Hr5.out.same (Keeps.refl nowhere w5).drew).at_ hx1)
                    rwa [Nat.one_mul] at this
                  clear hgs
                  have Hlr := Lib.hid hlr
                  have Hpr4 := Lib.hid hpr4
                  have Hbd4 := Lib.hid hbd4
                  have Hcnt4 := Lib.hid hcnt4
                  have Hx0 := Lib.hid hx0
                  have Hx1 := Lib.hid hx1
                  have Hus := Lib.hid hus
                  clear hlr hpr4 hbd4 hcnt4 hx0 hx1 hus
                  go_wp2_with fail
                  refine wp_region_script [0, 1, 2, 3] [1] [.ps [0], .fs [1], .ps [2, 3], .es [4] true, .es [5] true, .es [6, 7, 8] false] (Keeps nowhere w5.drew) rfl (by kernel_rfl) ?_
                  refine wpS_ps rfl fun K hK => ?_
                  simp only [List.map_cons, List.map_nil, Option.getD_some, List.getElem?_toArray, List.getElem?_cons_zero, List.getElem?_cons_succ]
                  iterate 1 (first | (apply quietO_cons _ rfl; (intro w' _; go_simp; rfl)) | apply quietO_skip rfl)
                  refine hK _ ?_
                  clear hK K
                  simp only [Act.put, List.setIfInBounds_toArray, List.set_cons_zero, List.set_cons_succ]
                  refine wpS_fs rfl (Keeps.refl _ _) fun K hK => ?_
                  simp only [List.map_cons, List.map_nil, Option.getD_some, List.getElem?_toArray, List.getElem?_cons_zero, List.getElem?_cons_succ]
                  iterate 1 (first | (apply quietO_cons _ rfl; (intro w' hs; have c_0 := q1 w' hs; go_simp; rfl)) | apply quietO_skip rfl)
                  refine hK _ ?_
                  clear hK K
                  simp only [Act.put, List.setIfInBounds_toArray, List.set_cons_zero, List.set_cons_succ]
                  refine wpS_ps rfl fun K hK => ?_
                  simp only [List.map_cons, List.map_nil, Option.getD_some, List.getElem?_toArray, List.getElem?_cons_zero, List.getElem?_cons_succ]
                  iterate 2 (first | (apply quietO_cons _ rfl; (intro w' _; go_simp; rfl)) | apply quietO_skip rfl)
                  refine hK _ ?_
                  clear hK K
                  simp only [Act.put, List.setIfInBounds_toArray, List.set_cons_zero, List.set_cons_succ]
                  clear q1
                  refine wpS_es rfl fun K hK => ?_
                  have HK := Lib.hid hK
                  clear hK
                  simp only [List.map_cons, List.map_nil, Option.getD_some, List.getElem?_toArray, List.getElem?_cons_zero, List.getElem?_cons_succ]
                  go_wp2_with fail
                  go_wp2_with fail
                  refine HK.out _ _ (fun _ => Keeps.refl _ _) ?_
                  clear HK K
                  have hka := (Keeps.refl nowhere w5.drew).alloc (.cells #[.string (strOf x1)] 9)
                  have hP6 := (HP5.out.same (Keeps.refl nowhere w5).drew).same hka
                  have hrow := hP6.us_
                  have hrd := RecT.Rd.one recStr w5.drew x1
                  have hlb : us.length + [x1].length ≤ 100000000 := by have := Hcnt.out; have := Hn.out; simp at this ⊢; omega
                  have Hka := Lib.hid hka
                  have HP6 := Lib.hid hP6
                  have Hrow := Lib.hid hrow
                  have Hrd := Lib.hid hrd
                  have Hlb := Lib.hid hlb
                  clear hka hP6 hrow hrd hlb
                  refine wpS_es rfl fun K hK => ?_
                  have HK := Lib.hid hK
                  clear hK
                  simp only [List.map_cons, List.map_nil, Option.getD_some, List.getElem?_toArray, List.getElem?_cons_zero, List.getElem?_cons_succ]
                  go_wp2_with fail
                  go_wp2_with fail
                  refine HK.out _ _ (fun _ => Hka.out) ?_
                  clear HK K
                  refine wpS_es rfl fun K hK => ?_
                  have HK := Lib.hid hK
                  clear hK
                  simp only [List.map_cons, List.map_nil, Option.getD_some, List.getElem?_toArray, List.getElem?_cons_zero, List.getElem?_cons_succ]
                  go_wp2_with (at_builtin; go_must (refine RecT.wpList_append (R := recStr) Tryd.underlying47 infoStr rfl (by decide) rfl (.tmp 67) (.tmp 71) rfl _ us rfl Hrow.out _ _ [x1] rfl Hrd.out Hlb.out ?_))
                  intro v6 w6 hrow6 hk6 hf6
                  have hsz := HP6.out.k.size
                  try simp at hsz
                  have hf6' : ∀ b, v6.ownBlock = some b → Value.ownBlock (.slice Au Nu cu) = some b ∨ w.heap.size ≤ b := fun b hb => by
                    rcases hf6 b hb with h | h
                    · exact .inl h
                    · right; try simp at h
                      omega
                  obtain ⟨hq6, hP7⟩ := HP6.out.user hrow6 hk6 hf6'
                  have c6 := hq6.cell 0
                  have f6 := hq6.frozen 0
                  simp at c6
                  obtain ⟨A6, d6, hv6, -⟩ := hrow6.form
                  clear hk6 hf6 hf6' hq6 hrow6 hsz
                  have HP7 := Lib.hid hP7
                  clear hP7
                  generalize (us ++ [x1]).length = N6 at hv6
                  subst hv6
                  go_wp2_with fail
                  refine HK.out _ _ (fun h => by cases h) ?_
                  clear HK K
                  refine wpS_nil ?_
                  go_wp2_with fail
                  go_roundw
                  case rel => exact ⟨i + 1, i + 1, _, _, [], us ++ [x1], [], by simp, by simp, Nat.le_refl _, by omega, HP7.out, Hpr4.out, (fun k x h1 h2 => by omega), Hbd4.out, by have := Hcnt4.out; have := Hcnt.out; simp at this ⊢; omega⟩
                  case measure => simp [intOf]; omega
                · have hlr : lineR L us gs = none := by
                    unfold lineR
                    rw [if_neg Hpre.out, if_pos (by rw [hx0, hus]), if_neg]
                    rintro ⟨h1, h2⟩
                    exact hgood ⟨by rw [Hm.out]; exact h1, List.eq_nil_of_length_eq_zero h2⟩
                  have hpe : parseE s = 2 := by
                    have h := Hpr3.out
                    rw [hlr] at h
                    exact parseE_none h
                  have hNgs : Ng = gs.length := by rw [HNg.out, HP5.out.mem.1]
                  by_cases hm22 : m = 2
                  · have hNg : Ng ≠ 0 := fun h => hgood ⟨hm22, List.eq_nil_of_length_eq_zero (by omega)⟩
                    have b2 : ((m : Int) == 2) = true := by rw [hm22]; rfl
                    have b3 : ((Ng : Int) == 0) = false := by simpa using hNg
                    have b4 : (Ng == 0) = false := by simpa using hNg
                    clear hgood
                    have Hm22 := Lib.hid hm22
                    have HNg := Lib.hid hNg
                    have HNgs := Lib.hid hNgs
                    have Hlr := Lib.hid hlr
                    have Hx0 := Lib.hid hx0
                    have Hx1 := Lib.hid hx1
                    have Hus := Lib.hid hus
                    clear hm22 hNg hNgs hlr hx0 hx1 hus
                    obtain ⟨y1, y2, y3⟩ := HP5.out.lay (.slice Au Nu cu) (.slice Ag Ng cg)
                    have hfin : RParseP s w (.returned (.tuple #[.agg #[.slice Au Nu cu, .slice Ag Ng cg], .int .i64 2])) ((w5.setCell ⟨p, 0, none⟩ (.slice Au Nu cu)).setCell ⟨p, 1, none⟩ (.slice Ag Ng cg)) := RParseP.bad hpe (by decide) y1
                    clear y1 
                    have Hpe := Lib.hid hpe
                    have Hfin := Lib.hid hfin
                    clear hpe hfin
                    go_wp2_with fail
                    (try simp only [Exit.inBlock, Exit.then])
                    refine bodyPost_ret (v := .tuple #[.agg #[.slice Au Nu cu, .slice Ag Ng cg], .int .i64 2]) ?_ rfl Hfin.out
                    rw [results_cell_tmp rfl]
                    go_simp
                  · have b2 : ((m : Int) == 2) = false := by simp; omega
                    clear hgood
                    have Hm22 := Lib.hid hm22
                    have HNgs := Lib.hid hNgs
                    have Hlr := Lib.hid hlr
                    have Hx0 := Lib.hid hx0
                    have Hx1 := Lib.hid hx1
                    have Hus := Lib.hid hus
                    clear hm22 hNgs hlr hx0 hx1 hus
                    obtain ⟨y1, y2, y3⟩ := HP5.out.lay (.slice Au Nu cu) (.slice Ag Ng cg)
                    have hfin : RParseP s w (.returned (.tuple #[.agg #[.slice Au Nu cu, .slice Ag Ng cg], .int .i64 2])) ((w5.setCell ⟨p, 0, none⟩ (.slice Au Nu cu)).setCell ⟨p, 1, none⟩ (.slice Ag Ng cg)) := RParseP.bad hpe (by decide) y1
                    clear y1 
                    have Hpe := Lib.hid hpe
                    have Hfin := Lib.hid hfin
                    clear hpe hfin
                    go_wp2_with fail
                    (try simp only [Exit.inBlock, Exit.then])
                    refine bodyPost_ret (v := .tuple #[.agg #[.slice Au Nu cu, .slice Ag Ng cg], .int .i64 2]) ?_ rfl Hfin.out
                    rw [results_cell_tmp rfl]
                    go_simp
              · have e1 : ((strOf x0).toList == wUser) = false := by rw [strOf_toList]; simpa using hus
                have e2 : (x0 == wUser) = false := by simpa using hus
                unfold wUser at e1 e2
                by_cases hgr : x0 = wGroup
                · have g1 : ((strOf x0).toList == wGroup) = true := by rw [strOf_toList, hgr]; decide
                  have g2 : (x0 == wGroup) = true := by rw [hgr]; simp
                  unfold wGroup at g1 g2
                  have hlr : lineR L us gs = some (us, gs ++ [⟨x1, L.drop 2⟩]) := by
                    unfold lineR
                    rw [if_neg Hpre.out, if_neg (by rw [hx0]; intro e; injection e with e; exact hus e), if_pos (by rw [hx0, hgr]), hx1]; rfl
                  by_cases h22 : cap = 2
                  · have hm22 : m = 2 := by omega
                    subst h22
                    have hpr4 := Hpr3.out
                    rw [hlr] at hpr4
                    obtain ⟨hbd4, hcnt4⟩ := Hbnd3.out _ _ hlr
                    have q1 : ∀ w', Keeps nowhere w5.drew w' → w'.cell? ⟨q, 1, none⟩ = some (.slice Ag Ng cg) := fun w' e => (HP5.out.same ((Keeps.refl _ w5).drew.more e)).cells.2.2.2.2.2.1
                    have q2 : ∀ w', Keeps nowhere w5.drew w' → w'.cell? ⟨bb, 1, none⟩ = some (.string (strOf x1)) := fun w' e => by
                      have := atSt ((Hr5.out.same ((Keeps.refl nowhere w5).drew.more e)).at_ hx1)
                      rwa [Nat.one_mul] at this
                    have Hlr := Lib.hid hlr
                    have Hpr4 := Lib.hid hpr4
                    have Hbd4 := Lib.hid hbd4
                    have Hcnt4 := Lib.hid hcnt4
                    have Hx0 := Lib.hid hx0
                    have Hx1 := Lib.hid hx1
                    have Hus := Lib.hid hus
                    have Hgr := Lib.hid hgr
                    clear hlr hpr4 hbd4 hcnt4 hx0 hx1 hus hgr
                    go_wp2_with fail
                    refine wp_region_script [0, 1, 2, 3, 4, 5, 6, 7] [1, 4] [.ps [0], .fs [1], .ps [2, 3], .fs [4], .ps [5, 6, 7], .es [8] true, .es [9, 10, 11] false] (Keeps nowhere w5.drew) rfl (by kernel_rfl) ?_
                    refine wpS_ps rfl fun K hK => ?_
                    simp only [List.map_cons, List.map_nil, Option.getD_some, List.getElem?_toArray, List.getElem?_cons_zero, List.getElem?_cons_succ]
                    iterate 1 (first | (apply quietO_cons _ rfl; (intro w' _; go_simp; rfl)) | apply quietO_skip rfl)
                    refine hK _ ?_
                    clear hK K
                    simp only [Act.put, List.setIfInBounds_toArray, List.set_cons_zero, List.set_cons_succ]
                    refine wpS_fs rfl (Keeps.refl _ _) fun K hK => ?_
                    simp only [List.map_cons, List.map_nil, Option.getD_some, List.getElem?_toArray, List.getElem?_cons_zero, List.getElem?_cons_succ]
                    iterate 1 (first | (apply quietO_cons _ rfl; (intro w' hs; have c_0 := q1 w' hs; go_simp; rfl)) | apply quietO_skip rfl)
                    refine hK _ ?_
                    clear hK K
                    simp only [Act.put, List.setIfInBounds_toArray, List.set_cons_zero, List.set_cons_succ]
                    refine wpS_ps rfl fun K hK => ?_
                    simp only [List.map_cons, List.map_nil, Option.getD_some, List.getElem?_toArray, List.getElem?_cons_zero, List.getElem?_cons_succ]
                    iterate 2 (first | (apply quietO_cons _ rfl; (intro w' _; go_simp; rfl)) | apply quietO_skip rfl)
                    refine hK _ ?_
                    clear hK K
                    simp only [Act.put, List.setIfInBounds_toArray, List.set_cons_zero, List.set_cons_succ]
                    refine wpS_fs rfl (Keeps.refl _ _) fun K hK => ?_
                    simp only [List.map_cons, List.map_nil, Option.getD_some, List.getElem?_toArray, List.getElem?_cons_zero, List.getElem?_cons_succ]
                    iterate 1 (first | (apply quietO_cons _ rfl; (intro w' hs; have c_0 := q2 w' hs; go_simp; rfl)) | apply quietO_skip rfl)
                    refine hK _ ?_
                    clear hK K
                    simp only [Act.put, List.setIfInBounds_toArray, List.set_cons_zero, List.set_cons_succ]
                    refine wpS_ps rfl fun K hK => ?_
                    simp only [List.map_cons, List.map_nil, Option.getD_some, List.getElem?_toArray, List.getElem?_cons_zero, List.getElem?_cons_succ]
                    iterate 3 (first | (apply quietO_cons _ rfl; (intro w' _; go_simp; rfl)) | apply quietO_skip rfl)
                    refine hK _ ?_
                    clear hK K
                    simp only [Act.put, List.setIfInBounds_toArray, List.set_cons_zero, List.set_cons_succ]
                    clear q1 q2
                    refine wpS_es rfl fun K hK => ?_
                    have HK := Lib.hid hK
                    clear hK
                    simp only [List.map_cons, List.map_nil, Option.getD_some, List.getElem?_toArray, List.getElem?_cons_zero, List.getElem?_cons_succ]
                    refine RecT.wpList_buildOne (R := recG2) Tryd.underlying52 infoG2 (by decide) rfl (.tmp 86) rfl _ rfl (⟨x1, some ⟨bb, 0, none⟩, 0, 0⟩ : GrpV) rfl ?_
                    obtain ⟨gx, hgx⟩ : ∃ gx : GrpV, gx = ⟨x1, some ⟨bb, 0, none⟩, 0, 0⟩ := ⟨_, rfl⟩
                    rw [← hgx]
                    have Hgx := Lib.hid hgx
                    clear hgx
                    have hka := (Keeps.refl nowhere w5.drew).alloc (.cells (recG2.cs gx).toArray recG2.t)
                    have hrd := RecT.Rd.one recG2 w5.drew gx
                    have hr6 := (Hr5.out.same (Keeps.refl nowhere w5).drew).same hka
                    obtain ⟨cs6, hB6⟩ : ∃ cs, Blk (w5.drew.alloc (.cells (recG2.cs gx).toArray recG2.t)) bb 9 cs := ⟨_, (Hblk.out.keep ((Keeps.refl nowhere w5).drew) (fun h => h)).keep hka (fun h => h)⟩
                    obtain ⟨w7, hw7⟩ : ∃ w7, w7 = w5.drew.alloc (.cells (recG2.cs gx).toArray recG2.t) := ⟨_, rfl⟩
                    obtain ⟨q7, hq7⟩ : ∃ q7, q7 = w5.drew.heap.size := ⟨_, rfl⟩
                    rw [← hw7] at hka hrd hr6 hB6 ⊢
                    simp only [← hq7] at hrd ⊢
                    have hP6 := (HP5.out.same (Keeps.refl nowhere w5).drew).same hka
                    have hrow := hP6.gs_
                    have hlb : xs.length + [gx].length ≤ 100000000 := by have := HP5.out.mem.1; have := Hcnt.out; have := Hn.out; simp; omega
                    have hM : GLn anyB w7 gx ⟨x1, L.drop 2⟩ := by
                      rw [Hgx.out]
                      refine ⟨rfl, some bb, ?_, fun b' e => ?_⟩
                      · unfold GrpV.sl
                        have hd : L.drop 2 = [] := List.drop_of_length_le (by rw [← Hm.out]; omega)
                        have hlt := hr6.lt bb rfl
                        rw [hd]
                        exact ⟨_, 0, rfl, Nat.le_refl _, Nat.zero_le _, fun b' hb' => by injection hb' with hb'; rw [← hb']; exact hlt, fun hp => absurd hp (by simp), fun h => by cases h⟩
                      · injection e with e
                        subst e
                        exact ⟨trivial, _, hB6⟩
                    clear hr6 hB6
                    have Hka := Lib.hid hka
                    have HP6 := Lib.hid hP6
                    have Hrow := Lib.hid hrow
                    have Hrd := Lib.hid hrd
                    have Hlb := Lib.hid hlb
                    have HM := Lib.hid hM
                    have Hw7 := Lib.hid hw7
                    have Hq7 := Lib.hid hq7
                    clear hka hP6 hrow hrd hlb hM hw7 hq7
                    go_wp2_with fail
                    refine HK.out _ _ (fun _ => Hka.out) ?_
                    clear HK K
                    refine wpS_es rfl fun K hK => ?_
                    have HK := Lib.hid hK
                    clear hK
                    simp only [List.map_cons, List.map_nil, Option.getD_some, List.getElem?_toArray, List.getElem?_cons_zero, List.getElem?_cons_succ]
                    go_wp2_with (at_builtin; go_must (refine RecT.wpList_append (R := recG2) Tryd.underlying52 infoG2 rfl (by decide) rfl (.tmp 80) (.tmp 87) rfl _ xs rfl Hrow.out _ _ [gx] rfl Hrd.out Hlb.out ?_))
                    intro v6 w6 hrow6 hk6 hf6
                    have hsz := HP6.out.k.size
                    have hf6' : ∀ b, v6.ownBlock = some b → Value.ownBlock (.slice Ag Ng cg) = some b ∨ w.heap.size ≤ b := fun b hb => by
                      rcases hf6 b hb with h | h
                      · exact .inl h
                      · right; try simp at h
                        omega
                    obtain ⟨hq6, hP7⟩ := HP6.out.group HM.out hrow6 hk6 hf6'
                    have c6 := hq6.cell 1
                    have f6 := hq6.frozen 1
                    simp at c6
                    obtain ⟨A6, d6, hv6, -⟩ := hrow6.form
                    clear hk6 hf6 hf6' hq6 hrow6 hsz
                    have HP7 := Lib.hid hP7
                    clear hP7
                    generalize (xs ++ [gx]).length = N6 at hv6
                    subst hv6
                    go_wp2_with fail
                    refine HK.out _ _ (fun h => by cases h) ?_
                    clear HK K
                    refine wpS_nil ?_
                    go_wp2_with fail
                    go_roundw
                    case rel => exact ⟨i + 1, i + 1, _, _, xs ++ [gx], us, gs ++ [⟨x1, L.drop 2⟩], by simp, by simp, Nat.le_refl _, by omega, HP7.out, Hpr4.out, (fun k x h1 h2 => by omega), Hbd4.out, by have := Hcnt4.out; have := Hcnt.out; simp at this ⊢; omega⟩
                    case measure => simp [intOf]; omega
                  · have h22n : ¬ cap = 2 := h22
                    have hpr4 := Hpr3.out
                    rw [hlr] at hpr4
                    obtain ⟨hbd4, hcnt4⟩ := Hbnd3.out _ _ hlr
                    have q1 : ∀ w', Keeps nowhere w5.drew w' → w'.cell? ⟨q, 1, none⟩ = some (.slice Ag Ng cg) := fun w' e => (HP5.out.same ((Keeps.refl _ w5).drew.more e)).cells.2.2.2.2.2.1
                    have q2 : ∀ w', Keeps nowhere w5.drew w' → w'.cell? ⟨bb, 1, none⟩ = some (.string (strOf x1)) := fun w' e => by
                      have := atSt ((Hr5.out.same ((Keeps.refl nowhere w5).drew.more e)).at_ hx1)
                      rwa [Nat.one_mul] at this
                    have Hlr := Lib.hid hlr
                    have Hpr4 := Lib.hid hpr4
                    have Hbd4 := Lib.hid hbd4
                    have Hcnt4 := Lib.hid hcnt4
                    have Hx0 := Lib.hid hx0
                    have Hx1 := Lib.hid hx1
                    have Hus := Lib.hid hus
                    have Hgr := Lib.hid hgr
                    clear hlr hpr4 hbd4 hcnt4 hx0 hx1 hus hgr
                    go_wp2_with fail
                    refine wp_region_script [0, 1, 2, 3, 4, 5, 6, 7] [1, 4] [.ps [0], .fs [1], .ps [2, 3], .fs [4], .ps [5, 6, 7], .es [8] true, .es [9, 10, 11] false] (Keeps nowhere w5.drew) rfl (by kernel_rfl) ?_
                    refine wpS_ps rfl fun K hK => ?_
                    simp only [List.map_cons, List.map_nil, Option.getD_some, List.getElem?_toArray, List.getElem?_cons_zero, List.getElem?_cons_succ]
                    iterate 1 (first | (apply quietO_cons _ rfl; (intro w' _; go_simp; rfl)) | apply quietO_skip rfl)
                    refine hK _ ?_
                    clear hK K
                    simp only [Act.put, List.setIfInBounds_toArray, List.set_cons_zero, List.set_cons_succ]
                    refine wpS_fs rfl (Keeps.refl _ _) fun K hK => ?_
                    simp only [List.map_cons, List.map_nil, Option.getD_some, List.getElem?_toArray, List.getElem?_cons_zero, List.getElem?_cons_succ]
                    iterate 1 (first | (apply quietO_cons _ rfl; (intro w' hs; have c_0 := q1 w' hs; go_simp; rfl)) | apply quietO_skip rfl)
                    refine hK _ ?_
                    clear hK K
                    simp only [Act.put, List.setIfInBounds_toArray, List.set_cons_zero, List.set_cons_succ]
                    refine wpS_ps rfl fun K hK => ?_
                    simp only [List.map_cons, List.map_nil, Option.getD_some, List.getElem?_toArray, List.getElem?_cons_zero, List.getElem?_cons_succ]
                    iterate 2 (first | (apply quietO_cons _ rfl; (intro w' _; go_simp; rfl)) | apply quietO_skip rfl)
                    refine hK _ ?_
                    clear hK K
                    simp only [Act.put, List.setIfInBounds_toArray, List.set_cons_zero, List.set_cons_succ]
                    refine wpS_fs rfl (Keeps.refl _ _) fun K hK => ?_
                    simp only [List.map_cons, List.map_nil, Option.getD_some, List.getElem?_toArray, List.getElem?_cons_zero, List.getElem?_cons_succ]
                    iterate 1 (first | (apply quietO_cons _ rfl; (intro w' hs; have c_0 := q2 w' hs; go_simp; rfl)) | apply quietO_skip rfl)
                    refine hK _ ?_
                    clear hK K
                    simp only [Act.put, List.setIfInBounds_toArray, List.set_cons_zero, List.set_cons_succ]
                    refine wpS_ps rfl fun K hK => ?_
                    simp only [List.map_cons, List.map_nil, Option.getD_some, List.getElem?_toArray, List.getElem?_cons_zero, List.getElem?_cons_succ]
                    iterate 3 (first | (apply quietO_cons _ rfl; (intro w' _; go_simp; rfl)) | apply quietO_skip rfl)
                    refine hK _ ?_
                    clear hK K
                    simp only [Act.put, List.setIfInBounds_toArray, List.set_cons_zero, List.set_cons_succ]
                    clear q1 q2
                    refine wpS_es rfl fun K hK => ?_
                    have HK := Lib.hid hK
                    clear hK
                    simp only [List.map_cons, List.map_nil, Option.getD_some, List.getElem?_toArray, List.getElem?_cons_zero, List.getElem?_cons_succ]
                    refine RecT.wpList_buildOne (R := recG2) Tryd.underlying52 infoG2 (by decide) rfl (.tmp 86) rfl _ rfl (⟨x1, some ⟨bb, 2, none⟩, m - 2, cap - 2⟩ : GrpV) rfl ?_
                    obtain ⟨gx, hgx⟩ : ∃ gx : GrpV, gx = ⟨x1, some ⟨bb, 2, none⟩, m - 2, cap - 2⟩ := ⟨_, rfl⟩
                    rw [← hgx]
                    have Hgx := Lib.hid hgx
                    clear hgx
                    have hka := (Keeps.refl nowhere w5.drew).alloc (.cells (recG2.cs gx).toArray recG2.t)
                    have hrd := RecT.Rd.one recG2 w5.drew gx
                    have hr6 := (Hr5.out.same (Keeps.refl nowhere w5).drew).same hka
                    obtain ⟨cs6, hB6⟩ : ∃ cs, Blk (w5.drew.alloc (.cells (recG2.cs gx).toArray recG2.t)) bb 9 cs := ⟨_, (Hblk.out.keep ((Keeps.refl nowhere w5).drew) (fun h => h)).keep hka (fun h => h)⟩
                    obtain ⟨w7, hw7⟩ : ∃ w7, w7 = w5.drew.alloc (.cells (recG2.cs gx).toArray recG2.t) := ⟨_, rfl⟩
                    obtain ⟨q7, hq7⟩ : ∃ q7, q7 = w5.drew.heap.size := ⟨_, rfl⟩
                    rw [← hw7] at hka hrd hr6 hB6 ⊢
                    simp only [← hq7] at hrd ⊢
                    have hP6 := (HP5.out.same (Keeps.refl nowhere w5).drew).same hka
                    have hrow := hP6.gs_
                    have hlb : xs.length + [gx].length ≤ 100000000 := by have := HP5.out.mem.1; have := Hcnt.out; have := Hn.out; simp; omega
                    have hM : GLn anyB w7 gx ⟨x1, L.drop 2⟩ := by
                      rw [Hgx.out]
                      refine ⟨rfl, some bb, ?_, fun b' e => ?_⟩
                      · unfold GrpV.sl
                        have := hr6.rd.drop 2 (by rw [← Hm.out]; omega)
                        simpa [recStr, Value.ownBlock] using this
                      · injection e with e
                        subst e
                        exact ⟨trivial, _, hB6⟩
                    clear hr6 hB6
                    have Hka := Lib.hid hka
                    have HP6 := Lib.hid hP6
                    have Hrow := Lib.hid hrow
                    have Hrd := Lib.hid hrd
                    have Hlb := Lib.hid hlb
                    have HM := Lib.hid hM
                    have Hw7 := Lib.hid hw7
                    have Hq7 := Lib.hid hq7
                    clear hka hP6 hrow hrd hlb hM hw7 hq7
                    go_wp2_with fail
                    refine HK.out _ _ (fun _ => Hka.out) ?_
                    clear HK K
                    refine wpS_es rfl fun K hK => ?_
                    have HK := Lib.hid hK
                    clear hK
                    simp only [List.map_cons, List.map_nil, Option.getD_some, List.getElem?_toArray, List.getElem?_cons_zero, List.getElem?_cons_succ]
                    go_wp2_with (at_builtin; go_must (refine RecT.wpList_append (R := recG2) Tryd.underlying52 infoG2 rfl (by decide) rfl (.tmp 80) (.tmp 87) rfl _ xs rfl Hrow.out _ _ [gx] rfl Hrd.out Hlb.out ?_))
                    intro v6 w6 hrow6 hk6 hf6
                    have hsz := HP6.out.k.size
                    have hf6' : ∀ b, v6.ownBlock = some b → Value.ownBlock (.slice Ag Ng cg) = some b ∨ w.heap.size ≤ b := fun b hb => by
                      rcases hf6 b hb with h | h
                      · exact .inl h
                      · right; try simp at h
                        omega
                    obtain ⟨hq6, hP7⟩ := HP6.out.group HM.out hrow6 hk6 hf6'
                    have c6 := hq6.cell 1
                    have f6 := hq6.frozen 1
                    simp at c6
                    obtain ⟨A6, d6, hv6, -⟩ := hrow6.form
                    clear hk6 hf6 hf6' hq6 hrow6 hsz
                    have HP7 := Lib.hid hP7
                    clear hP7
                    generalize (xs ++ [gx]).length = N6 at hv6
                    subst hv6
                    go_wp2_with fail
                    refine HK.out _ _ (fun h => by cases h) ?_
                    clear HK K
                    refine wpS_nil ?_
                    go_wp2_with fail
                    go_roundw
                    case rel => exact ⟨i + 1, i + 1, _, _, xs ++ [gx], us, gs ++ [⟨x1, L.drop 2⟩], by simp, by simp, Nat.le_refl _, by omega, HP7.out, Hpr4.out, (fun k x h1 h2 => by omega), Hbd4.out, by have := Hcnt4.out; have := Hcnt.out; simp at this ⊢; omega⟩
                    case measure => simp [intOf]; omega
                · have g1 : ((strOf x0).toList == wGroup) = false := by rw [strOf_toList]; simpa using hgr
                  have g2 : (x0 == wGroup) = false := by simpa using hgr
                  unfold wGroup at g1 g2
                  have hlr : lineR L us gs = none := by
                    unfold lineR
                    rw [if_neg Hpre.out, if_neg (by rw [hx0]; intro e; injection e with e; exact hus e), if_neg (by rw [hx0]; intro e; injection e with e; exact hgr e)]
                  have hpe : parseE s = 2 := by
                    have h := Hpr3.out
                    rw [hlr] at h
                    exact parseE_none h
                  have Hlr := Lib.hid hlr
                  have Hx0 := Lib.hid hx0
                  have Hx1 := Lib.hid hx1
                  have Hus := Lib.hid hus
                  have Hgr := Lib.hid hgr
                  clear hlr hx0 hx1 hus hgr
                  obtain ⟨y1, y2, y3⟩ := HP5.out.lay (.slice Au Nu cu) (.slice Ag Ng cg)
                  have hfin : RParseP s w (.returned (.tuple #[.agg #[.slice Au Nu cu, .slice Ag Ng cg], .int .i64 2])) ((w5.setCell ⟨p, 0, none⟩ (.slice Au Nu cu)).setCell ⟨p, 1, none⟩ (.slice Ag Ng cg)) := RParseP.bad hpe (by decide) y1
                  clear y1 
                  have Hpe := Lib.hid hpe
                  have Hfin := Lib.hid hfin
                  clear hpe hfin
                  go_wp2_with fail
                  (try simp only [Exit.inBlock, Exit.then])
                  refine bodyPost_ret (v := .tuple #[.agg #[.slice Au Nu cu, .slice Ag Ng cg], .int .i64 2]) ?_ rfl Hfin.out
                  rw [results_cell_tmp rfl]
                  go_simp
            --END
          · have hbi : ((byteN s i : Int) != 10) = true := by
              rw [hbd2]; simp; intro h; apply hdn; exact UInt8.toNat_inj.1 (by show d.toNat = 10; omega)
            have hno2 : ∀ k x, a ≤ k → k < i + 1 → s[k]? = some x → x ≠ 10 := fun k x h1 h2 hx => by
              by_cases e : k = i
              · subst e; rw [hd] at hx; injection hx with hx; rw [← hx]; exact hdn
              · exact hno k x h1 (by omega) hx
            have HP := Lib.hid hP
            have Hpr2 := Lib.hid hpr2
            have Hno := Lib.hid hno
            have Hbd := Lib.hid hbd
            have Hcnt := Lib.hid hcnt
            have Hd := Lib.hid hd
            have Hbd2 := Lib.hid hbd2
            have Hdn := Lib.hid hdn
            have Hno2 := Lib.hid hno2
            clear hP hpr2 hno hbd hcnt hd hbd2 hdn hno2
            go_wp2_with fail
            go_roundw
            case rel => exact ⟨a, i + 1, _, _, xs, us, gs, rfl, by simp, by omega, by omega, HP.out, Hpr2.out, Hno2.out, Hbd.out, Hcnt.out⟩
            case measure => simp [intOf]; omega
        · obtain rfl : i = n := by omega
          have hiI : ¬ (i : Int) < i := by omega
          have hle : linesL (s.drop a) = [] := lines_end fun k x h1 h2 hx => hno k x h1 (by have := Hn.out; omega) hx
          have hpr3 : parseR s = some (us, gs) := by rw [hpr2, hle]; rfl
          have hpe : parseE s = newE us gs := by unfold parseE; rw [hpr3]
          have hchk : ∀ W, Keeps nowhere wr W → Calls Tryd.prog 50 #[.agg #[.slice Au Nu cu, .slice Ag Ng cg]] W (CkP us gs W) := fun W hW => by
            have h1 := Hn.out
            exact check_any _ _ us gs W ((hP.same hW).ru) (by omega) (by omega) (fun g hg => by have := hbd.2 g hg; omega) (fun u hu => by have := hbd.1 u hu; omega)
          have q0 : ∀ w', Keeps nowhere wr.drew w' → w'.cell? ⟨q, 0, none⟩ = some (.slice Au Nu cu) := fun w' e => (hP.same ((Keeps.refl _ wr).drew.more e)).cells.2.2.2.2.1
          have q1 : ∀ w', Keeps nowhere wr.drew w' → w'.cell? ⟨q, 1, none⟩ = some (.slice Ag Ng cg) := fun w' e => (hP.same ((Keeps.refl _ wr).drew.more e)).cells.2.2.2.2.2.1
          clear hno hbd hcnt hpr2 hle
          have HP := Lib.hid hP
          have Hpr3 := Lib.hid hpr3
          have Hpe := Lib.hid hpe
          have Hchk := Lib.hid hchk
          clear hP hpr3 hpe hchk
          go_wp2_with fail
          refine wp_region_script [0] [0] [.fs [0], .es [1] true, .es [2] true, .es [3, 4] false] (Keeps nowhere wr.drew) rfl (by kernel_rfl) ?_
          refine wpS_fs rfl (Keeps.refl _ _) fun K hK => ?_
          simp only [List.map_cons, List.map_nil, Option.getD_some, List.getElem?_toArray, List.getElem?_cons_zero, List.getElem?_cons_succ]
          iterate 1 (first | (apply quietO_cons _ rfl; (intro w' hs; have c_0 := q0 w' hs; have c_1 := q1 w' hs; go_simp; rfl)) | apply quietO_skip rfl)
          refine hK _ ?_
          clear hK K
          simp only [Act.put, List.setIfInBounds_toArray, List.set_cons_zero, List.set_cons_succ]
          clear q0 q1
          refine wpS_es rfl fun K hK => ?_
          have HK := Lib.hid hK
          clear hK
          simp only [List.map_cons, List.map_nil, Option.getD_some, List.getElem?_toArray, List.getElem?_cons_zero, List.getElem?_cons_succ]
          go_wp2_with fail
          go_wp2_with fail
          refine HK.out _ _ (fun _ => Keeps.refl _ _) ?_
          clear HK K
          refine wpS_es rfl fun K hK => ?_
          have HK := Lib.hid hK
          clear hK
          simp only [List.map_cons, List.map_nil, Option.getD_some, List.getElem?_toArray, List.getElem?_cons_zero, List.getElem?_cons_succ]
          go_wp2_with fail
          refine (Hchk.out wr.drew (Keeps.refl _ _).drew).mono ?_
          rintro e w6 ⟨rfl, hk6⟩
          have hP6 := (HP.out.same (Keeps.refl nowhere wr).drew).same hk6
          clear c1 c2 c3 c4 c5 c6 c7 c8
          obtain ⟨c1, c2, c3, c4, c5, c6, c7, c8⟩ := hP6.cells
          obtain ⟨y1, y2, y3⟩ := hP6.lay (.slice Au Nu cu) (.slice Ag Ng cg)
          have hpz : w.heap.size ≤ p := hP6.p0
          have hkz : Keeps (only p) w6 ((w6.setCell ⟨p, 0, none⟩ (.slice Au Nu cu)).setCell ⟨p, 1, none⟩ (.slice Ag Ng cg)) := ((Keeps.refl (only p) w6).setCell (p := ⟨p, 0, none⟩) (fun _ => rfl) _).setCell (p := ⟨p, 1, none⟩) (fun _ => rfl) _
          have hru : RU ((w6.setCell ⟨p, 0, none⟩ (.slice Au Nu cu)).setCell ⟨p, 1, none⟩ (.slice Ag Ng cg)) (.slice Au Nu cu) (.slice Ag Ng cg) us gs :=
            ⟨_, _, xs, hP6.us_.rd.keep hkz (fun b e e2 => rowR_ne hP6.us_ hP6.res (by decide) (by rw [e]; exact congrArg some e2)), hP6.gs_.rd.keep hkz (fun b e e2 => rowR_ne hP6.gs_ hP6.res (by decide) (by rw [e]; exact congrArg some e2)),
              hP6.mem.imp fun _ _ hh => (hh.keep hkz (fun b cs _ hb e => hb.ne_ hP6.res (by decide) e)).rd⟩
          have hfin : RParseP s w (.returned (.tuple #[.agg #[.slice Au Nu cu, .slice Ag Ng cg], .int .i64 (newE us gs)])) ((w6.setCell ⟨p, 0, none⟩ (.slice Au Nu cu)).setCell ⟨p, 1, none⟩ (.slice Ag Ng cg)) :=
            ⟨_, _, _, _, _, _, by rw [Hpe.out], fun _ => ⟨us, gs, Hpr3.out, hru⟩, y1⟩
          obtain ⟨ne, hne⟩ : ∃ ne, ne = newE us gs := ⟨_, rfl⟩
          rw [← hne] at hfin ⊢
          clear hkz hru hpz y1
          have Hk6 := Lib.hid hk6
          have HP6 := Lib.hid hP6
          have Hfin := Lib.hid hfin
          have Hne := Lib.hid hne
          clear hk6 hP6 hfin hne
          go_wp2_with fail
          refine HK.out _ _ (fun _ => Hk6.out) ?_
          clear HK K
          refine wpS_es rfl fun K hK => ?_
          have HK := Lib.hid hK
          clear hK
          simp only [List.map_cons, List.map_nil, Option.getD_some, List.getElem?_toArray, List.getElem?_cons_zero, List.getElem?_cons_succ]
          go_wp2_with fail
          go_wp2_with fail
          refine HK.out _ _ (fun h => by cases h) ?_
          clear HK K
          refine wpS_nil ?_
          go_wp2_with fail
          (try simp only [Exit.inBlock, Exit.then])
          refine bodyPost_ret (v := .tuple #[.agg #[.slice Au Nu cu, .slice Ag Ng cg], .int .i64 ne]) ?_ rfl ?_
          · rw [results_cell_tmp rfl]
            go_simp
          · exact Hfin.out
    · have hb10 : ((byteN s z : Int) != 10) = true := by
        rw [hbc]; simp; intro h; apply hnl; exact UInt8.toNat_inj.1 (by show c.toNat = 10; omega)
      have hpr : parseR s = none := by unfold parseR; rw [if_pos ⟨h0, by rw [hlast]; simpa using hnl⟩]
      have hpe := parseE_none hpr
      obtain ⟨y1, y2, y3⟩ := hps.lay (.slice none 0 0) (.slice none 0 0)
      have hfin : RParseP s w (.returned (.tuple #[.agg #[.slice none 0 0, .slice none 0 0], .int .i64 2])) ((w2.setCell ⟨p, 0, none⟩ (.slice none 0 0)).setCell ⟨p, 1, none⟩ (.slice none 0 0)) := RParseP.bad hpe (by decide) y1
      clear y1 h0
      have Hps := Lib.hid hps
      have Hfin := Lib.hid hfin
      have Hpe := Lib.hid hpe
      have Hpr := Lib.hid hpr
      have Hn := Lib.hid hn
      have Hp := Lib.hid hp
      have Hq := Lib.hid hq
      have Hw1 := Lib.hid hw1
      have Hw2 := Lib.hid hw2
      have Hk1 := Lib.hid hk1
      have Hk12 := Lib.hid hk12
      have Hb1 := Lib.hid hb1
      have Hb2 := Lib.hid hb2
      have Hz := Lib.hid hz
      have Hc := Lib.hid hc
      have Hbc := Lib.hid hbc
      have Hlast := Lib.hid hlast
      have Hnl := Lib.hid hnl
      clear hps hfin hpe hpr hn hp hq hw1 hw2 hk1 hk12 hb1 hb2 hz hc hbc hlast hnl
      go_enter Tryd.func22, Tryd.ntmps22
      go_upto_region 1 with fail
      rw [← Hw1.out]
      simp only [← Hp.out]
      go_upto_region 2 with fail
      rw [← Hw2.out]
      simp only [← Hq.out]
      go_wp2_with fail
      (try simp only [Exit.inBlock, Exit.then])
      refine bodyPost_ret (v := .tuple #[.agg #[.slice none 0 0, .slice none 0 0], .int .i64 2]) ?_ rfl Hfin.out
      rw [results_cell_tmp rfl]
      go_simp
end Go.Proofs.YtnlmdfbjmhcilaaDoor
/-
  law 15: UsersTexts.
-/
namespace Go.Proofs.YtnlmdfbjmhcilaaDoor
open Go.RowKit Go.Proofs Go.Shelf
attribute [local go_sem] strOf_size strOf_get strOf_toList

set_option maxRecDepth 20000 in
set_option maxHeartbeats 8000000 in
theorem usersTexts_any (s : List UInt8) (w : World) : Calls Tryd.prog 8 #[.string (strOf s)] w (YesU w) := by
  have hkn := known15 w
  obtain ⟨n, hn⟩ : ∃ n, n = s.length := ⟨_, rfl⟩
  have hsz : (strOf s).size = n := by rw [strOf_size, hn]
  have hsl : s.length = n := hn.symm
  unfold YesU at hkn
  by_cases hl : 1000 < n
  · have hlI : (1000 : Int) < n := by omega
    have Hkn := Lib.hid hkn
    have Hn := Lib.hid hn
    clear hkn hn
    go_enter Tryd.func8, Tryd.ntmps8
    go_wp2_with fail
    refine Hkn.out.mono ?_
    rintro e w1 ⟨rfl, hk1⟩
    have Hk1 := Lib.hid hk1
    clear hk1
    go_wp2_with fail
    go_ret
    exact ⟨rfl, Hk1.out⟩
  · have hlI : ¬ (1000 : Int) < n := by omega
    have hp1 := fun w => uparse_any w s (by omega)
    have hp2 := fun w => parse_any s (by omega) w
    have Hkn := Lib.hid hkn
    have Hn := Lib.hid hn
    have Hp1 := Lib.hid hp1
    have Hp2 := Lib.hid hp2
    clear hkn hn hp1 hp2
    go_enter Tryd.func8, Tryd.ntmps8
    go_wp2_with fail
    refine Hkn.out.mono ?_
    rintro e w1 ⟨rfl, hk1⟩
    have Hk1 := Lib.hid hk1
    clear hk1
    go_wp2_with fail
    refine (Hp1.out w1).mono ?_
    rintro e w2 ⟨hk2, ⟨us, gs, p, hpr, hbd, hcnt, hne, rfl, hU⟩ | ⟨hbad, rfl⟩⟩
    · have hpe : parseE s = 0 := by unfold parseE; rw [hpr]; exact hne
      have hk02 := Hk1.out.more hk2
      have htx : textU us gs = s := parseR_text hpr
      clear hk2
      have Hpr := Lib.hid hpr
      have Hbd := Lib.hid hbd
      have Hcnt := Lib.hid hcnt
      have Hne := Lib.hid hne
      have HU := Lib.hid hU
      have Hpe := Lib.hid hpe
      have Hk02 := Lib.hid hk02
      have Htx := Lib.hid htx
      clear hpr hbd hcnt hne hU hpe hk02 htx
      go_wp2_with fail
      refine (Hp2.out w2).mono ?_
      rintro e w3 ⟨A, N, c, A', N', c', rfl, hok, hk3⟩
      rw [Hpe.out]
      obtain ⟨us2, gs2, hpr2, hru⟩ := hok Hpe.out
      obtain ⟨rfl, rfl⟩ : us2 = us ∧ gs2 = gs := by
        have := Hpr.out
        rw [hpr2] at this
        injection this with this
        injection this with h1 h2
        exact ⟨h1, h2⟩
      have hk03 := Hk02.out.more hk3
      have hU3 := HU.out.same hk3
      clear hk3 hok hpr2
      obtain ⟨q, hq⟩ : ∃ q, q = w3.heap.size := ⟨_, rfl⟩
      obtain ⟨w4, hw4⟩ : ∃ w4, w4 = w3.alloc (.cells #[.slice A N c, .slice A' N' c'] 54) := ⟨_, rfl⟩
      have hk34 : Keeps nowhere w3 w4 := by rw [hw4]; exact (Keeps.refl nowhere w3).alloc _
      have hb4 : Blk w4 q 54 #[.slice A N c, .slice A' N' c'] := by rw [hw4, hq]; exact Blk.new _ _ _
      have hk04 := hk03.more hk34
      have hU4 := hU3.same hk34
      have hru4 := hru.same hk34
      have q0 : ∀ w', Keeps nowhere w4.drew w' → w'.cell? ⟨q, 0, none⟩ = some (.slice A N c) := fun w' e => by simpa using (hb4.keep ((Keeps.refl _ w4).drew.more e) (fun h => h)).cell 0
      have q1 : ∀ w', Keeps nowhere w4.drew w' → w'.cell? ⟨q, 1, none⟩ = some (.slice A' N' c') := fun w' e => by simpa using (hb4.keep ((Keeps.refl _ w4).drew.more e) (fun h => h)).cell 1
      have hb1 : us2.length ≤ 1000000 ∧ gs2.length ≤ 1000000 := by have := Hcnt.out; omega
      have hb2 : ∀ g ∈ gs2, g.ms.length ≤ 900000 := fun g hg => by have := (Hbd.out.2 g hg).2; omega
      have hlen : (textU us2 gs2).length ≤ 1000000 := by rw [Htx.out]; omega
      have hT := fun W hW => utext_any _ W p us2 gs2 (hU4.same hW) hb1.1 hb1.2 hb2 hlen
      have ht := fun W hW => text_any _ _ us2 gs2 W (hru4.same hW) hb1.1 hb1.2 (fun g hg => by have := hb2 g hg; omega) hlen
      unfold UTextP at hT
      unfold TextP at ht
      rw [Htx.out] at hT ht
      clear hk03 hU3 hru hk34 hb1 hb2 hlen
      have Hq := Lib.hid hq
      have Hw4 := Lib.hid hw4
      have Hb4 := Lib.hid hb4
      have Hk04 := Lib.hid hk04
      have HU4 := Lib.hid hU4
      have Hru4 := Lib.hid hru4
      have HT := Lib.hid hT
      have Ht := Lib.hid ht
      clear hq hw4 hb4 hk04 hU4 hru4 hT ht
      go_upto_region 7 with fail
      rw [← Hw4.out]
      simp only [← Hq.out]
      go_wp2_with fail
      refine wp_region_script [3, 5, 9, 11] [5, 9] [.es [0, 1, 2] false, .ps [3], .fs [5], .es [4] true, .es [6, 7, 8] false, .fs [9], .ps [11], .es [10, 12, 13, 14, 15] false] (Keeps nowhere w4.drew) rfl (by kernel_rfl) ?_
      refine wpS_es rfl fun K hK => ?_
      have HK := Lib.hid hK
      clear hK
      simp only [List.map_cons, List.map_nil, Option.getD_some, List.getElem?_toArray, List.getElem?_cons_zero, List.getElem?_cons_succ]
      go_wp2_with fail
      go_wp2_with fail
      refine HK.out _ _ (fun h => by cases h) ?_
      clear HK K
      refine wpS_ps rfl fun K hK => ?_
      simp only [List.map_cons, List.map_nil, Option.getD_some, List.getElem?_toArray, List.getElem?_cons_zero, List.getElem?_cons_succ]
      iterate 1 (first | (apply quietO_cons _ rfl; (intro w' _; go_simp; rfl)) | apply quietO_skip rfl)
      refine hK _ ?_
      clear hK K
      simp only [Act.put, List.setIfInBounds_toArray, List.set_cons_zero, List.set_cons_succ]
      refine wpS_fs rfl (Keeps.refl _ _) fun K hK => ?_
      simp only [List.map_cons, List.map_nil, Option.getD_some, List.getElem?_toArray, List.getElem?_cons_zero, List.getElem?_cons_succ]
      iterate 1 (first | (apply quietO_cons _ rfl; (intro w' hs; have c_0 := q0 w' hs; have c_1 := q1 w' hs; go_simp; rfl)) | apply quietO_skip rfl)
      refine hK _ ?_
      clear hK K
      simp only [Act.put, List.setIfInBounds_toArray, List.set_cons_zero, List.set_cons_succ]
      refine wpS_es rfl fun K hK => ?_
      have HK := Lib.hid hK
      clear hK
      simp only [List.map_cons, List.map_nil, Option.getD_some, List.getElem?_toArray, List.getElem?_cons_zero, List.getElem?_cons_succ]
      go_wp2_with fail
      refine (HT.out _ (Keeps.refl _ w4).drew).mono ?_
      rintro e w5 ⟨rfl, hk5⟩
      have Hk5 := Lib.hid hk5
      clear hk5
      go_wp2_with fail
      refine HK.out _ _ (fun _ => Hk5.out) ?_
      clear HK K
      refine wpS_es rfl fun K hK => ?_
      have HK := Lib.hid hK
      clear hK
      simp only [List.map_cons, List.map_nil, Option.getD_some, List.getElem?_toArray, List.getElem?_cons_zero, List.getElem?_cons_succ]
      go_wp2_with fail
      refine (Ht.out _ ((Keeps.refl _ w4).drew.more Hk5.out)).mono ?_
      rintro e w6 ⟨rfl, hk6⟩
      have hk46 := Hk5.out.more hk6
      clear hk6
      have Hk46 := Lib.hid hk46
      clear hk46
      go_wp2_with fail
      refine HK.out _ _ (fun h => by cases h) ?_
      clear HK K
      refine wpS_fs rfl (Hk46.out) fun K hK => ?_
      simp only [List.map_cons, List.map_nil, Option.getD_some, List.getElem?_toArray, List.getElem?_cons_zero, List.getElem?_cons_succ]
      iterate 1 (first | (apply quietO_cons _ rfl; (intro w' hs; have c_0 := q0 w' hs; have c_1 := q1 w' hs; go_simp; rfl)) | apply quietO_skip rfl)
      refine hK _ ?_
      clear hK K
      simp only [Act.put, List.setIfInBounds_toArray, List.set_cons_zero, List.set_cons_succ]
      refine wpS_ps rfl fun K hK => ?_
      simp only [List.map_cons, List.map_nil, Option.getD_some, List.getElem?_toArray, List.getElem?_cons_zero, List.getElem?_cons_succ]
      iterate 1 (first | (apply quietO_cons _ rfl; (intro w' _; go_simp; rfl)) | apply quietO_skip rfl)
      refine hK _ ?_
      clear hK K
      simp only [Act.put, List.setIfInBounds_toArray, List.set_cons_zero, List.set_cons_succ]
      clear q0 q1
      refine wpS_es rfl fun K hK => ?_
      have HK := Lib.hid hK
      clear hK
      simp only [List.map_cons, List.map_nil, Option.getD_some, List.getElem?_toArray, List.getElem?_cons_zero, List.getElem?_cons_succ]
      go_wp2_with fail
      refine (Ht.out _ ((Keeps.refl _ w4).drew.more Hk46.out)).mono ?_
      rintro e w7 ⟨rfl, hk7⟩
      have hk07 := (Hk04.out.more ((Keeps.refl _ w4).drew.more Hk46.out)).more hk7
      clear hk7
      have Hk07 := Lib.hid hk07
      clear hk07
      go_wp2_with fail
      refine HK.out _ _ (fun h => by cases h) ?_
      clear HK K
      refine wpS_nil ?_
      go_wp2_with fail
      go_ret
      exact ⟨by simp, Hk07.out⟩
    · have hk02 := Hk1.out.more hk2
      obtain ⟨x, hx⟩ : ∃ x, x = parseE s := ⟨_, rfl⟩
      rw [← hx] at hbad ⊢
      have hx0 : (x == 0) = false := by simpa using hbad
      have hx1 : (x != 0) = true := by simpa using hbad
      clear hk2
      have Hk02 := Lib.hid hk02
      have Hx := Lib.hid hx
      clear hk02 hx
      go_wp2_with fail
      refine (Hp2.out w2).mono ?_
      rintro e w3 ⟨A, N, c, A', N', c', rfl, -, hk3⟩
      rw [← Hx.out]
      have hk03 := Hk02.out.more hk3
      clear hk3
      obtain ⟨w4, hw4⟩ : ∃ w4, w4 = w3.alloc (.cells #[.slice A N c, .slice A' N' c'] 54) := ⟨_, rfl⟩
      have hk34 : Keeps nowhere w3 w4 := by rw [hw4]; exact (Keeps.refl nowhere w3).alloc _
      have hk04 := hk03.more hk34
      clear hk34 hk03
      have Hk04 := Lib.hid hk04
      have Hw4 := Lib.hid hw4
      clear hk04 hw4
      go_upto_region 7 with fail
      rw [← Hw4.out]
      go_wp2_with fail
      refine wp_region_script [3, 5, 9, 11] [5, 9] [.es [0, 1, 2] false, .ps [3], .fs [5], .es [4] true, .es [6, 7, 8] false, .fs [9], .ps [11], .es [10, 12, 13, 14, 15] false] (Keeps nowhere w4.drew) rfl (by kernel_rfl) ?_
      refine wpS_es rfl fun K hK => ?_
      have HK := Lib.hid hK
      clear hK
      simp only [List.map_cons, List.map_nil, Option.getD_some, List.getElem?_toArray, List.getElem?_cons_zero, List.getElem?_cons_succ]
      go_wp2_with fail
      go_wp2_with fail
      refine HK.out _ _ (fun h => by cases h) ?_
      clear HK K
      refine wpS_ps rfl fun K hK => ?_
      simp only [List.map_cons, List.map_nil, Option.getD_some, List.getElem?_toArray, List.getElem?_cons_zero, List.getElem?_cons_succ]
      iterate 1 (first | (apply quietO_cons _ rfl; (intro w' _; go_simp; rfl)) | apply quietO_skip rfl)
      refine hK _ ?_
      clear hK K
      simp only [Act.put, List.setIfInBounds_toArray, List.set_cons_zero, List.set_cons_succ]
      refine wpS_fs rfl (Keeps.refl _ _) fun K hK => ?_
      simp only [List.map_cons, List.map_nil, Option.getD_some, List.getElem?_toArray, List.getElem?_cons_zero, List.getElem?_cons_succ]
      iterate 1 (first | (apply quietO_cons _ rfl; (intro w' hs; go_simp; rfl)) | apply quietO_skip rfl)
      refine hK _ ?_
      clear hK K
      simp only [Act.put, List.setIfInBounds_toArray, List.set_cons_zero, List.set_cons_succ]
      refine wpS_es rfl fun K hK => ?_
      have HK := Lib.hid hK
      clear hK
      simp only [List.map_cons, List.map_nil, Option.getD_some, List.getElem?_toArray, List.getElem?_cons_zero, List.getElem?_cons_succ]
      go_wp2_with fail
      go_wp2_with fail
      refine HK.out _ _ (fun _ => Keeps.refl _ _) ?_
      clear HK K
      refine wpS_es rfl fun K hK => ?_
      have HK := Lib.hid hK
      clear hK
      simp only [List.map_cons, List.map_nil, Option.getD_some, List.getElem?_toArray, List.getElem?_cons_zero, List.getElem?_cons_succ]
      go_wp2_with fail
      go_wp2_with fail
      refine HK.out _ _ (fun h => by cases h) ?_
      clear HK K
      refine wpS_fs rfl (Keeps.refl _ _) fun K hK => ?_
      simp only [List.map_cons, List.map_nil, Option.getD_some, List.getElem?_toArray, List.getElem?_cons_zero, List.getElem?_cons_succ]
      iterate 1 (first | (apply quietO_cons _ rfl; (intro w' hs; go_simp; rfl)) | apply quietO_skip rfl)
      refine hK _ ?_
      clear hK K
      simp only [Act.put, List.setIfInBounds_toArray, List.set_cons_zero, List.set_cons_succ]
      refine wpS_ps rfl fun K hK => ?_
      simp only [List.map_cons, List.map_nil, Option.getD_some, List.getElem?_toArray, List.getElem?_cons_zero, List.getElem?_cons_succ]
      iterate 1 (first | (apply quietO_cons _ rfl; (intro w' _; go_simp; rfl)) | apply quietO_skip rfl)
      refine hK _ ?_
      clear hK K
      simp only [Act.put, List.setIfInBounds_toArray, List.set_cons_zero, List.set_cons_succ]
      refine wpS_es rfl fun K hK => ?_
      have HK := Lib.hid hK
      clear hK
      simp only [List.map_cons, List.map_nil, Option.getD_some, List.getElem?_toArray, List.getElem?_cons_zero, List.getElem?_cons_succ]
      go_wp2_with fail
      go_wp2_with fail
      refine HK.out _ _ (fun h => by cases h) ?_
      clear HK K
      refine wpS_nil ?_
      go_wp2_with fail
      go_ret
      exact ⟨by simp, Hk04.out.drew⟩
end Go.Proofs.YtnlmdfbjmhcilaaDoor
