/-
  geom: read.
-/
import Derived.Test.YtblmbchjafffbaaG3
import Derived.Test.YtblmbchjafffbaaI4
import Derived.Test.YtblmbchjafffbaaNumRawIn
namespace Go.Proofs.Ytblmbchjafffbaa
open Go.RowKit

def stG (L : List UInt8) (k : Nat) : List UInt8 × Int := (([4, 4, 4] : List Int).take k).foldl stepS (rawLeft L 0 8, rawErr L 0 8)
def gvN (L : List UInt8) (k : Nat) : Nat := takeVal (stG L k).1 (stG L k).2 4
def rdG (L : List UInt8) : Geo := ⟨gvN L 0, gvN L 1, gvN L 2⟩
theorem gv32 (L : List UInt8) (k : Nat) : gvN L k < 4294967296 := take32 _ _
def goodG (L : List UInt8) : Prop := chkG (rdG L) = 0 ∧ encGB (rdG L) = L
instance (L : List UInt8) : Decidable (goodG L) := by unfold goodG; infer_instance

def panicNoneG : Ending := .panicked [{ v := .iface 95 (.agg #[]), recovered := false }]
def RetReadG (w : World) (L : List UInt8) : Ending → World → Prop := fun e w' =>
  e = (if goodG L then .returned (rdG L).val else panicNoneG) ∧ Keeps nowhere w w'

def InG (w : World) (p : Nat) (g : Option Nat) (L : List UInt8) (k : Nat) : Prop := InAt w p g (stG L k).1 (stG L k).2
theorem ing_take {w : World} {p : Nat} {g : Option Nat} {L : List UInt8} {k : Nat} (hk : k < 3) (h : InG w p g L k) :
    Calls Try.prog 59 #[.pointer (some ⟨p, 0, none⟩), .int .i64 4] w fun e w' => e = .returned (.int .u64 (gvN L k : Nat)) ∧ InG w' p g L (k + 1) ∧ Keeps (only p) w w' :=
  (take_any p g _ _ 4 w h).mono fun e w' ⟨he, hi, hk'⟩ => by
    refine ⟨he, ?_, hk'⟩
    have e1 : stG L (k + 1) = stepS (stG L k) 4 := by
      match k, hk with
      | 0, _ => rfl
      | 1, _ => rfl
      | 2, _ => rfl
    unfold InG
    rw [e1]
    exact hi

def fillG (w : World) (b : Nat) (g : Geo) : World := ((w.setCell ⟨b, 0, none⟩ (.int .i64 g.b)).setCell ⟨b, 1, none⟩ (.int .i64 g.n)).setCell ⟨b, 2, none⟩ (.int .i64 g.m)
theorem fillG_blk {w : World} {b t : Nat} {a0 a1 a2 : Value} {g : Geo} (h : Blk w b t #[a0, a1, a2]) : Blk (fillG w b g) b t #[.int .i64 g.b, .int .i64 g.n, .int .i64 g.m] := by
  have h2 := ((h.set_ 0 (.int .i64 g.b)).set_ 1 (.int .i64 g.n)).set_ 2 (.int .i64 g.m)
  unfold fillG
  simpa using h2
theorem fillG_keeps {S : Nat → Prop} {w0 w : World} {b : Nat} {g : Geo} (hk : Keeps S w0 w) (hb : b < w0.heap.size → S b) : Keeps S w0 (fillG w b g) :=
  ((hk.setCell (p := ⟨b, 0, none⟩) hb (.int .i64 g.b)).setCell (p := ⟨b, 1, none⟩) hb (.int .i64 g.n)).setCell (p := ⟨b, 2, none⟩) hb (.int .i64 g.m)

set_option maxHeartbeats 3200000 in
set_option maxRecDepth 20000 in
theorem gread (v0 : Value) (g0 : Option Nat) (L : List UInt8) (w : World) (hr : Rd w v0 g0 (L.map bv)) (hb : L.length ≤ 1099511627776) :
    Calls Try.prog 54 #[v0] w (RetReadG w L) := by
  have hka := (Keeps.refl nowhere w).alloc (.cells #[.int .i64 0, .int .i64 0, .int .i64 0] 60)
  have hba := Blk.new w 60 #[.int .i64 0, .int .i64 0, .int .i64 0]
  obtain ⟨A0, c0, rfl, -⟩ := hr.form
  rw [List.length_map] at *
  have hra := hr.keep hka (fun _ _ h => h)
  have hv0 : IntKind.i64.wrap (gvN L 0 : Int) = gvN L 0 := IntWalk.i64_in _ (by have := gv32 L 0; omega)
  have hv1 : IntKind.i64.wrap (gvN L 1 : Int) = gvN L 1 := IntWalk.i64_in _ (by have := gv32 L 1; omega)
  have hv2 : IntKind.i64.wrap (gvN L 2 : Int) = gvN L 2 := IntWalk.i64_in _ (by have := gv32 L 2; omega)
  have Hr := Lib.hid hr
  have Hka := Lib.hid hka
  have Hra := Lib.hid hra
  have Hba := Lib.hid hba
  clear hr hka hra hba
  go_enter Try.func54, Try.ntmps54
  go_wp2_with fail
  refine (in_of _ _ L _ Hra.out (by omega)).mono ?_
  rintro e w1 ⟨q, gq, rfl, hin, hq, hgq, hk1⟩
  have hkw1 := Hka.out.more hk1
  have hsza := Hka.out.size
  have hszq : w.heap.size + 1 ≤ q := by simpa using hq
  have hql := hin.lt.1
  have Hin := Lib.hid hin
  have Hq := Lib.hid hq
  have Hgq := Lib.hid hgq
  have Hk1 := Lib.hid hk1
  have Hkw1 := Lib.hid hkw1
  have Hsza := Lib.hid hsza
  clear hin hq hgq hk1 hkw1 hsza
  go_wp2_with fail
  refine (raw_any q gq L 0 8 _ Hin.out hb).mono ?_
  rintro e wt ⟨v2, g2, rfl, hr2, hab2, hi0, hkt⟩
  replace hi0 : InG wt q gq L 0 := hi0
  have Hi := Lib.hid hi0
  have Hkq := Lib.hid hkt
  clear hi0 hkt hr2 hab2
  go_wp2_with fail
  refine (ing_take (k := 0) (by omega) Hi.out).mono ?_
  rintro e wt ⟨rfl, hi', hkt⟩
  replace hkt := Hkq.out.trans hkt fun _ _ h => h
  clear Hi Hkq
  have Hi := Lib.hid hi'
  have Hkq := Lib.hid hkt
  clear hi' hkt
  go_wp2_with fail
  refine (ing_take (k := 1) (by omega) Hi.out).mono ?_
  rintro e wt ⟨rfl, hi', hkt⟩
  replace hkt := Hkq.out.trans hkt fun _ _ h => h
  clear Hi Hkq
  have Hi := Lib.hid hi'
  have Hkq := Lib.hid hkt
  clear hi' hkt
  go_wp2_with fail
  refine (ing_take (k := 2) (by omega) Hi.out).mono ?_
  rintro e wt ⟨rfl, hi', hkt⟩
  replace hkt := Hkq.out.trans hkt fun _ _ h => h
  clear Hi Hkq
  have Hkq := Lib.hid hkt
  clear hi' hkt
  obtain ⟨g, hg⟩ : ∃ g, g = rdG L := ⟨_, rfl⟩
  have hgb : ((gvN L 0 : Nat) : Int) = g.b := by rw [hg]; rfl
  have hgn : ((gvN L 1 : Nat) : Int) = g.n := by rw [hg]; rfl
  have hgm : ((gvN L 2 : Nat) : Int) = g.m := by rw [hg]; rfl
  rw [hgb] at hv0 ⊢
  rw [hgn] at hv1 ⊢
  rw [hgm] at hv2 ⊢
  obtain ⟨wf, hwf⟩ : ∃ wf, wf = wt.alloc (.cells #[.int .i64 g.b, .int .i64 g.n, .int .i64 g.m] 60) := ⟨_, rfl⟩
  have hbf : Blk wf wt.heap.size 60 #[.int .i64 g.b, .int .i64 g.n, .int .i64 g.m] := by rw [hwf]; exact Blk.new _ _ _
  have hkf : Keeps (only q) w1 wf := by rw [hwf]; exact Hkq.out.alloc _
  have hkwf := Hkw1.out.fresh hkf (by omega)
  have hrf := Hr.out.keep hkwf (fun _ _ h => h)
  have hzf := (Hba.out.keep Hk1.out (fun h => h)).keep hkf (fun e => by unfold only at e; omega)
  have c0 := hbf.cell 0
  have c1 := hbf.cell 1
  have c2 := hbf.cell 2
  simp at c0 c1 c2
  have hen := gencode g wf
  unfold Geo.val at hen
  have hwf' := hwf
  have Hwf := Lib.hid hwf
  have Hbf := Lib.hid hbf
  have Hkf := Lib.hid hkf
  have Hkwf := Lib.hid hkwf
  have Hrf := Lib.hid hrf
  have Hzf := Lib.hid hzf
  have Hg := Lib.hid hg
  have Hgb := Lib.hid hgb
  have Hgn := Lib.hid hgn
  have Hgm := Lib.hid hgm
  have Hen := Lib.hid hen
  clear hwf hbf hkf hkwf hrf hzf hg hgb hgn hgm hen
  rw [hwf'] at c0 c1 c2
  go_wp2_with fail
  rw [← hwf']
  clear hwf' c0 c1 c2
  refine Hen.out.mono ?_
  rintro e w9 ⟨v9, g9, rfl, hr9, hab9, hk9⟩
  have hr0 := Hrf.out.keep hk9 (fun _ _ h => h)
  have hkw9 := Hkwf.out.more hk9
  have hcv0 := conv_str _ _ _ _ hr0
  have hcv9 := conv_str _ _ _ _ hr9
  obtain ⟨C, hC⟩ : ∃ C, C = chkG g := ⟨_, rfl⟩
  rw [← hC]
  obtain ⟨E, hE⟩ : ∃ E, E = encG g := ⟨_, rfl⟩
  rw [← hE] at hr9 hcv9
  obtain ⟨A9, cc9, rfl, -⟩ := hr9.form
  have hmi : ∀ w, (Instr.makeInterface 95 (.agg #[])).run Try.prog w = .ok (.iface 95 (.agg #[])) w := fun _ => by kernel_rfl
  have hbf9 := Hbf.out.keep hk9 (fun h => h)
  have hzf9 := Hzf.out.keep hk9 (fun h => h)
  rw [List.length_map] at *
  have hi_out := Hg.out
  by_cases hc0 : C = 0
  · have hc0' : (C != 0) = false := by simp [hc0]
    have hEB : E = encGB g := by rw [hE, encG, if_pos (by rw [← hC]; exact hc0)]
    by_cases heq : E = L
    · have hq := strOf_beq heq
      have hgood : goodG L := ⟨by rw [← hi_out, ← hC]; exact hc0, by rw [← hi_out, ← hEB]; exact heq⟩
      have hval : (rdG L).val = g.val := by rw [hi_out]
      have c0 := hbf9.cell 0
      have c1 := hbf9.cell 1
      have c2 := hbf9.cell 2
      simp at c0 c1 c2
      have z0 : w9.cell? ⟨w.heap.size, 0, none⟩ = some (.int .i64 0) := hzf9.cell 0
      have z1 : w9.cell? ⟨w.heap.size, 1, none⟩ = some (.int .i64 0) := hzf9.cell 1
      have z2 : w9.cell? ⟨w.heap.size, 2, none⟩ = some (.int .i64 0) := hzf9.cell 2
      have fz : ∀ k, w9.frozen? ⟨w.heap.size, k, none⟩ = false := fun k => hzf9.frozen k
      have hbz := fillG_blk (g := g) hzf9
      have hkz := fillG_keeps (g := g) (b := w.heap.size) hkw9 (fun h => absurd h (Nat.lt_irrefl _))
      clear hi_out
      have Hr9 := Lib.hid hr9
      have Hab9 := Lib.hid hab9
      have Hk9 := Lib.hid hk9
      have Hr0 := Lib.hid hr0
      have Hkw9 := Lib.hid hkw9
      have HC := Lib.hid hC
      have HE := Lib.hid hE
      have Hbf9 := Lib.hid hbf9
      have Hzf9 := Lib.hid hzf9
      have Hc0 := Lib.hid hc0
      have HEB := Lib.hid hEB
      have Heq := Lib.hid heq
      have Hgood := Lib.hid hgood
      have Hval := Lib.hid hval
      have Hbz := Lib.hid hbz
      have Hkz := Lib.hid hkz
      clear hr9 hab9 hk9 hr0 hkw9 hC hE hbf9 hzf9 hc0 hEB heq hgood hval hbz hkz
      go_wp2_with fail
      obtain ⟨wz, hwz⟩ : ∃ wz, wz = fillG w9 w.heap.size g := ⟨_, rfl⟩
      have hwz' := hwz
      unfold fillG at hwz'
      rw [← hwz']
      have hbz := Hbz.out
      have hkz := Hkz.out
      rw [← hwz] at hbz hkz
      clear hwz hwz' z0 z1 z2 c0 c1 c2 Hbz Hkz
      have c0 := hbz.cell 0
      have c1 := hbz.cell 1
      have c2 := hbz.cell 2
      simp at c0 c1 c2
      refine bodyPost_ret (v := g.val) (by unfold Geo.val; simp [results, Try.results54, go_sem, c0, c1, c2]) rfl ?_
      exact ⟨by rw [if_pos Hgood.out, Hval.out], hkz⟩
    · have hq := strOf_ne' heq
      have hgood : ¬ goodG L := fun h => heq (by rw [hEB, hi_out]; exact h.2)
      have hfin : RetReadG w L panicNoneG w9 := ⟨by rw [if_neg hgood], hkw9⟩
      clear hi_out
      have Hr9 := Lib.hid hr9
      have Hab9 := Lib.hid hab9
      have Hk9 := Lib.hid hk9
      have Hr0 := Lib.hid hr0
      have Hkw9 := Lib.hid hkw9
      have HC := Lib.hid hC
      have HE := Lib.hid hE
      have Hbf9 := Lib.hid hbf9
      have Hzf9 := Lib.hid hzf9
      have Hc0 := Lib.hid hc0
      have Hgood := Lib.hid hgood
      have Hfin := Lib.hid hfin
      have HEB := Lib.hid hEB
      have Heq := Lib.hid heq
      clear hr9 hab9 hk9 hr0 hkw9 hC hE hbf9 hzf9 hc0 hgood hfin hEB heq
      go_wp2_with fail
      exact ⟨rfl, Hfin.out⟩
  · have hc0' : (C != 0) = true := by simp [hc0]
    have hgood : ¬ goodG L := fun h => hc0 (by rw [hC, hi_out]; exact h.1)
    have hfin : RetReadG w L panicNoneG w9 := ⟨by rw [if_neg hgood], hkw9⟩
    clear hi_out
    have Hr9 := Lib.hid hr9
    have Hab9 := Lib.hid hab9
    have Hk9 := Lib.hid hk9
    have Hr0 := Lib.hid hr0
    have Hkw9 := Lib.hid hkw9
    have HC := Lib.hid hC
    have HE := Lib.hid hE
    have Hbf9 := Lib.hid hbf9
    have Hzf9 := Lib.hid hzf9
    have Hc0 := Lib.hid hc0
    have Hgood := Lib.hid hgood
    have Hfin := Lib.hid hfin
    clear hr9 hab9 hk9 hr0 hkw9 hC hE hbf9 hzf9 hc0 hgood hfin
    go_wp2_with fail
    exact ⟨rfl, Hfin.out⟩
end Go.Proofs.Ytblmbchjafffbaa
