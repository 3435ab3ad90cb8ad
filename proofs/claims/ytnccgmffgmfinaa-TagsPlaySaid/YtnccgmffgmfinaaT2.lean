/-
  tag: the table: New, Has, Ask, Done, Flush, Reset, All.
-/
import Derived.Test.YtnccgmffgmfinaaT1
import Derived.Test.YtnccgmffgmfinaaTree
namespace Go.Proofs.Ytnccgmffgmfinaa
open Go.RowKit Go.Shelf

def only3 (p : Nat) (g h : Option Nat) : Nat → Prop := fun k => k = p ∨ some k = g ∨ some k = h
/-- The table at `p` holds the tags `ts` and the waits `ws`; `g`, `h`: the blocks of its slices, if any. -/
def TabAt (w : World) (p : Nat) (g h : Option Nat) (ts : List Nat) (ws : List (Nat × Nat)) : Prop :=
  ∃ va vw, Blk w p 92 #[va, vw] ∧ recU.Row w va ts ∧ recW.Row w vw ws ∧ g = va.ownBlock ∧ h = vw.ownBlock
theorem TabAt.ne {w : World} {p : Nat} {g h : Option Nat} {ts : List Nat} {ws : List (Nat × Nat)} (t : TabAt w p g h ts ws) : g ≠ some p ∧ h ≠ some p ∧ ∀ b, g = some b → h ≠ some b := by
  obtain ⟨va, vw, hb, hu, hw, rfl, rfl⟩ := t
  refine ⟨own_blk_ne hu hb (by decide), own_blk_ne hw hb (by decide), fun b e1 e2 => ?_⟩
  rcases hu.blk with ⟨rfl, -⟩ | ⟨b1, c1, r1, rfl, k1, -⟩
  · simp [Value.ownBlock] at e1
  · rcases hw.blk with ⟨rfl, -⟩ | ⟨b2, c2, r2, rfl, k2, -⟩
    · simp [Value.ownBlock] at e2
    · simp only [Value.ownBlock, Option.some.injEq] at e1 e2
      subst e1 e2
      exact Blk.ne_ k1 k2 (by decide) rfl
theorem TabAt.keep {S : Nat → Prop} {w w' : World} {p : Nat} {g h : Option Nat} {ts : List Nat} {ws : List (Nat × Nat)} (t : TabAt w p g h ts ws) (hk : Keeps S w w') (hp : ¬ S p) (hg : ∀ b, g = some b → ¬ S b) (hh : ∀ b, h = some b → ¬ S b) : TabAt w' p g h ts ws := by
  obtain ⟨va, vw, hb, hu, hw, rfl, rfl⟩ := t
  exact ⟨va, vw, hb.keep hk hp, hu.keep hk hg, hw.keep hk hh, rfl, rfl⟩
theorem TabAt.same {w w' : World} {p : Nat} {g h : Option Nat} {ts : List Nat} {ws : List (Nat × Nat)} (t : TabAt w p g h ts ws) (hk : Keeps nowhere w w') : TabAt w' p g h ts ws := t.keep hk (fun h => h) (fun _ _ h => h) (fun _ _ h => h)
theorem TabAt.lt {w : World} {p : Nat} {g h : Option Nat} {ts : List Nat} {ws : List (Nat × Nat)} (t : TabAt w p g h ts ws) : p < w.heap.size ∧ Under w.heap.size g ∧ Under w.heap.size h := by
  obtain ⟨va, vw, hb, hu, hw, rfl, rfl⟩ := t
  exact ⟨hb.lt, hu.lt, hw.lt⟩
/-- the tags' slice is changed and stored back -/
theorem tab_setA {w w1 : World} {p : Nat} {va vw va' : Value} {ts' : List Nat} {ws : List (Nat × Nat)} {ts : List Nat} (hb : Blk w p 92 #[va, vw]) (hu : recU.Row w va ts) (hw : recW.Row w vw ws)
    (hu' : recU.Row w1 va' ts') (hk : Keeps (fun b => va.ownBlock = some b) w w1) (hf : From va.ownBlock w.heap.size va'.ownBlock) :
    Blk w1 p 92 #[va, vw] ∧ TabAt (w1.setCell ⟨p, 0, none⟩ va') p va'.ownBlock vw.ownBlock ts' ws ∧ Keeps (only2 p va.ownBlock) w (w1.setCell ⟨p, 0, none⟩ va') := by
  have t : TabAt w p va.ownBlock vw.ownBlock ts ws := ⟨va, vw, hb, hu, hw, rfl, rfl⟩
  obtain ⟨n1, n2, n3⟩ := t.ne
  have hb1 := hb.keep hk n1
  have hw1 := hw.keep hk (fun b h1 h2 => n3 b h2 h1)
  have hb2 := hb1.set_ 0 va'
  have hne : va'.ownBlock ≠ some p := own_blk_ne hu' hb1 (by decide)
  have hks : Keeps (only p) w1 (w1.setCell ⟨p, 0, none⟩ va') := (Keeps.refl (only p) w1).setCell (p := ⟨p, 0, none⟩) (fun _ => rfl) va'
  refine ⟨hb1, ⟨va', vw, by simpa using hb2, hu'.keep hks (fun b h1 h2 => hne (by rw [h1]; exact congrArg some h2)), hw1.keep hks (fun b h1 h2 => n2 (by rw [h1]; exact congrArg some h2)), rfl, rfl⟩, ?_⟩
  exact (hk.mono (fun b _ h => Or.inr h.symm)).trans hks (fun b _ h => Or.inl h)
theorem tab_setW {w w1 : World} {p : Nat} {va vw vw' : Value} {ws' : List (Nat × Nat)} {ws : List (Nat × Nat)} {ts : List Nat} (hb : Blk w p 92 #[va, vw]) (hu : recU.Row w va ts) (hw : recW.Row w vw ws)
    (hw' : recW.Row w1 vw' ws') (hk : Keeps (fun b => vw.ownBlock = some b) w w1) :
    Blk w1 p 92 #[va, vw] ∧ TabAt (w1.setCell ⟨p, 1, none⟩ vw') p va.ownBlock vw'.ownBlock ts ws' ∧ Keeps (only2 p vw.ownBlock) w (w1.setCell ⟨p, 1, none⟩ vw') := by
  have t : TabAt w p va.ownBlock vw.ownBlock ts ws := ⟨va, vw, hb, hu, hw, rfl, rfl⟩
  obtain ⟨n1, n2, n3⟩ := t.ne
  have hb1 := hb.keep hk n2
  have hu1 := hu.keep hk (fun b h1 h2 => n3 b h1 h2)
  have hb2 := hb1.set_ 1 vw'
  have hne : vw'.ownBlock ≠ some p := own_blk_ne hw' hb1 (by decide)
  have hks : Keeps (only p) w1 (w1.setCell ⟨p, 1, none⟩ vw') := (Keeps.refl (only p) w1).setCell (p := ⟨p, 1, none⟩) (fun _ => rfl) vw'
  refine ⟨hb1, ⟨va, vw', by simpa using hb2, hu1.keep hks (fun b h1 h2 => n1 (by rw [h1]; exact congrArg some h2)), hw'.keep hks (fun b h1 h2 => hne (by rw [h1]; exact congrArg some h2)), rfl, rfl⟩, ?_⟩
  exact (hk.mono (fun b _ h => Or.inr h.symm)).trans hks (fun b _ h => Or.inl h)
def tp (p : Nat) : Value := .pointer (some ⟨p, 0, none⟩)

theorem tnew_any (w : World) : Calls Try.prog 32 #[] w fun e w' => ∃ p, e = .returned (tp p) ∧ w.heap.size ≤ p ∧ TabAt w' p none none [] [] ∧ Keeps nowhere w w' := by
  go_enter Try.func32, Try.ntmps32
  go_wp2_with fail
  go_ret
  exact ⟨w.heap.size, rfl, Nat.le_refl _, ⟨_, _, Blk.new _ _ _, RecT.Row.nil _ _, RecT.Row.nil _ _, rfl, rfl⟩, (Keeps.refl _ _).alloc _⟩

theorem thas_any (w : World) (p : Nat) (g h : Option Nat) (ts : List Nat) (ws : List (Nat × Nat)) (x : Nat) (t : TabAt w p g h ts ws) (hl : ts.length ≤ 100000) :
    Calls Try.prog 40 #[tp p, .int .u16 x] w (RetBool (ts.contains x) w) := by
  obtain ⟨va, vw, hb, hu, hw, rfl, rfl⟩ := t
  obtain ⟨A, c, rfl, -⟩ := hu.form
  have c0 : w.cell? ⟨p, 0, none⟩ = some (.slice A ts.length c) := hb.cell 0
  have hcon := ucontains_any _ _ ts x w hu.rd (by omega)
  clear hb hu hw
  unfold tp
  obtain ⟨C, hC⟩ : ∃ C, C = ts.contains x := ⟨_, rfl⟩
  rw [← hC] at hcon ⊢
  have Hcon := Lib.hid hcon
  have HC := Lib.hid hC
  clear hcon hC
  go_enter Try.func40, Try.ntmps40
  go_wp2_with fail
  refine Hcon.out.mono ?_
  rintro e w1 ⟨rfl, hk1⟩
  have Hk1 := Lib.hid hk1
  clear hk1
  go_wp2_with fail
  go_ret
  exact ⟨rfl, Hk1.out⟩

/-- what Ask answers, what the table holds behind it -/
def askE (ts : List Nat) (x : Nat) : Int := if ts.contains x then 16 else if 32 ≤ ts.length then 14 else 0
def askL (ts : List Nat) (x : Nat) : List Nat := if askE ts x = 0 then ts ++ [x] else ts
theorem oneU (w : World) (x : Nat) : recU.Rd (w.alloc (.cells #[.int .u16 x] 43)) (.slice (some ⟨w.heap.size, 0, none⟩) 1 1) (some w.heap.size) [x] := RecT.Rd.one recU w x
theorem oneW (w : World) (x : Nat × Nat) : recW.Rd (w.alloc (.cells #[.int .u16 x.1, .int .u16 x.2] 96)) (.slice (some ⟨w.heap.size, 0, none⟩) 1 1) (some w.heap.size) [x] := RecT.Rd.one recW w x

set_option maxRecDepth 8000 in
set_option maxHeartbeats 2000000 in
theorem task_any (w : World) (p : Nat) (g h : Option Nat) (ts : List Nat) (ws : List (Nat × Nat)) (x : Nat) (t : TabAt w p g h ts ws) (hl : ts.length ≤ 100000) :
    Calls Try.prog 34 #[tp p, .int .u16 x] w fun e w' => e = .returned (.int .i64 (askE ts x)) ∧ ∃ g', TabAt w' p g' h (askL ts x) ws ∧ Keeps (only2 p g) w w' ∧ From g w.heap.size g' := by
  have hhas := thas_any w p g h ts ws x t hl
  unfold tp at hhas ⊢
  by_cases hc : ts.contains x = true
  · rw [hc] at hhas
    have hE : askE ts x = 16 := by rw [askE, if_pos hc]
    have Hhas := Lib.hid hhas
    have T := Lib.hid t
    have Hc := Lib.hid hc
    have HE := Lib.hid hE
    clear hhas t hc hE
    go_enter Try.func34, Try.ntmps34
    go_wp2_with fail
    refine Hhas.out.mono ?_
    rintro e w1 ⟨rfl, hk1⟩
    have Hk1 := Lib.hid hk1
    clear hk1
    go_wp2_with fail
    go_ret
    exact ⟨by rw [HE.out]; rfl, g, by rw [askL, if_neg (by rw [HE.out]; decide)]; exact T.out.same Hk1.out, Hk1.out.mono (fun _ _ h => h.elim), From.refl _ _⟩
  · have hc' : ts.contains x = false := by simpa using hc
    rw [hc'] at hhas
    obtain ⟨L, hL⟩ : ∃ L, L = ts.length := ⟨_, rfl⟩
    by_cases h32 : 32 ≤ ts.length
    · have hE : askE ts x = 14 := by rw [askE, if_neg hc, if_pos h32]
      have h32I : (32 : Int) ≤ L := by omega
      have Hhas := Lib.hid hhas
      have Hc := Lib.hid hc
      have HE := Lib.hid hE
      have H32 := Lib.hid h32
      have Hc' := Lib.hid hc'
      clear hhas hc hE h32 hc'
      go_enter Try.func34, Try.ntmps34
      go_wp2_with fail
      refine Hhas.out.mono ?_
      rintro e w1 ⟨rfl, hk1⟩
      have t1 := t.same hk1
      obtain ⟨va, vw, hb, hu, hw, e1, e2⟩ := id t1
      obtain ⟨A, c, rfl, -⟩ := hu.form
      have c0 : w1.cell? ⟨p, 0, none⟩ = some (.slice A ts.length c) := hb.cell 0
      rw [← hL] at c0
      clear hb hu hw e1 e2
      have Hk1 := Lib.hid hk1
      have T := Lib.hid t
      have T1 := Lib.hid t1
      have HL := Lib.hid hL
      clear hk1 t t1 hL
      go_wp2_with fail
      go_ret
      exact ⟨by rw [HE.out]; rfl, g, by rw [askL, if_neg (by rw [HE.out]; decide)]; exact T1.out, Hk1.out.mono (fun _ _ h => h.elim), From.refl _ _⟩
    · have hE : askE ts x = 0 := by rw [askE, if_neg hc, if_neg h32]
      have h32I : ¬ (32 : Int) ≤ L := by omega
      have Hhas := Lib.hid hhas
      have Hc := Lib.hid hc
      have HE := Lib.hid hE
      have H32 := Lib.hid h32
      have Hc' := Lib.hid hc'
      clear hhas hc hE h32 hc'
      go_enter Try.func34, Try.ntmps34
      go_wp2_with fail
      refine Hhas.out.mono ?_
      rintro e w1 ⟨rfl, hk1⟩
      have t1 := t.same hk1
      obtain ⟨va, vw, hb, hu, hw, rfl, rfl⟩ := id t1
      obtain ⟨A, c, rfl, -⟩ := hu.form
      have c0 : w1.cell? ⟨p, 0, none⟩ = some (.slice A ts.length c) := hb.cell 0
      have hka := (Keeps.refl nowhere w1).alloc (.cells #[.int .u16 x] 43)
      have hua := hu.same hka
      have hx1 := oneU w1 x
      have hlb : ts.length + ([x] : List Nat).length ≤ 100000000 := by simp; omega
      rw [← hL] at c0
      have hua' := hua
      rw [← hL] at hua'
      have Hk1 := Lib.hid hk1
      have T := Lib.hid t
      have T1 := Lib.hid t1
      have Hb := Lib.hid hb
      have Hu := Lib.hid hu
      have Hw := Lib.hid hw
      have Hka := Lib.hid hka
      have Hua := Lib.hid hua
      have Hx1 := Lib.hid hx1
      have Hlb := Lib.hid hlb
      have HL := Lib.hid hL
      have Hua' := Lib.hid hua'
      clear hk1 t t1 hb hu hw hka hua hx1 hlb hL hua'
      go_wp2_with (at_builtin; go_must (refine RecT.wpList_append Try.underlying66 infoU16 rfl (by decide) rfl (.tmp 20) (.tmp 22) rfl _ ts rfl Hua'.out _ _ [x] rfl Hx1.out Hlb.out ?_))
      intro v7 w7 hrow7 hk7 hf7
      have hk8 : Keeps (fun b => (Value.slice A ts.length c).ownBlock = some b) w1 w7 := (Hka.out.mono (fun _ _ h => h.elim)).trans hk7 (fun _ _ h => by rw [HL.out] at h; exact h)
      have hf8 : From (Value.slice A ts.length c).ownBlock w1.heap.size v7.ownBlock := fun b hb => (hf7 b hb).imp (fun h => by rw [HL.out] at h; exact h) (fun h => by have := Hka.out.size; (try simp at this); (try simp at h); omega)
      obtain ⟨hb7, ht7, hk9⟩ := tab_setA Hb.out Hu.out Hw.out hrow7 hk8 hf8
      have c7 : w7.cell? ⟨p, 0, none⟩ = some (.slice A ts.length c) := hb7.cell 0
      have z7 := hb7.frozen 0
      have hkA := (Hk1.out.mono (fun _ _ h => h.elim)).trans hk9 (fun _ _ h => h)
      have hfA : From (Value.slice A ts.length c).ownBlock w.heap.size v7.ownBlock := hf8.mono Hk1.out.size
      clear hk7 hf7 hk8 hf8 hk9 c0
      obtain ⟨A7, c7', rfl, -⟩ := hrow7.form
      obtain ⟨N7, hN7⟩ : ∃ N7, N7 = (ts ++ [x]).length := ⟨_, rfl⟩
      rw [← hN7] at ht7 hkA hfA ⊢
      have HN7 := Lib.hid hN7
      clear hN7
      have Hrow7 := Lib.hid hrow7
      have Hb7 := Lib.hid hb7
      have Ht7 := Lib.hid ht7
      have HkA := Lib.hid hkA
      have HfA := Lib.hid hfA
      clear hrow7 hb7 ht7 hkA hfA
      go_wp2_with fail
      go_ret
      exact ⟨by rw [HE.out]; rfl, _, by rw [askL, if_pos HE.out]; exact Ht7.out, HkA.out, HfA.out⟩
end Go.Proofs.Ytnccgmffgmfinaa
