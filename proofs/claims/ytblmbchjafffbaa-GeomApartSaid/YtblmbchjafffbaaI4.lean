/-
  inode: read.
-/
import Derived.Test.YtblmbchjafffbaaI3
import Derived.Test.YtblmbchjafffbaaStr
import Derived.Deep.CutBlock
namespace Go.Proofs.Ytblmbchjafffbaa
open Go.RowKit

theorem strOf_ne' {L M : List UInt8} (h : L ≠ M) : ((strOf L).toList == (strOf M).toList) = false := by
  rw [strOf_toList, strOf_toList]; simpa using h

/-- the widths that read takes, one after another -/
def wds : List Int := [4, 4, 4, 2, 2, 4, 4, 4, 4, 4, 4, 4, 4, 4, 4]
def stepS (s : List UInt8 × Int) (n : Int) : List UInt8 × Int := (takeLeft s.1 s.2 n, takeErr s.1 s.2 n)
def stAt (L : List UInt8) (k : Nat) : List UInt8 × Int := (wds.take k).foldl stepS (L, 0)
def valAt (L : List UInt8) (k : Nat) : Nat := takeVal (stAt L k).1 (stAt L k).2 (wds.getD k 0)
theorem take32 (L : List UInt8) (err : Int) : takeVal L err 4 < 4294967296 := by
  unfold takeVal
  split
  · rename_i h
    have h2 := le_lt (L.take (4 : Int).toNat)
    have h3 : (L.take (4 : Int).toNat).length = 4 := by rw [List.length_take]; omega
    rw [h3] at h2
    exact h2
  · omega
theorem take16 (L : List UInt8) (err : Int) : takeVal L err 2 < 65536 := by
  unfold takeVal
  split
  · rename_i h
    have h2 := le_lt (L.take (2 : Int).toNat)
    have h3 : (L.take (2 : Int).toNat).length = 2 := by rw [List.length_take]; omega
    rw [h3] at h2
    exact h2
  · omega
theorem vl32 (L : List UInt8) (k : Nat) (h : wds.getD k 0 = 4) : valAt L k < 4294967296 := by unfold valAt; rw [h]; exact take32 _ _
theorem vl16 (L : List UInt8) (k : Nat) (h : wds.getD k 0 = 2 := by rfl) : valAt L k < 65536 := by unfold valAt; rw [h]; exact take16 _ _
def rdI (L : List UInt8) : Ino := ⟨valAt L 0, valAt L 1, valAt L 2, valAt L 3, valAt L 5, valAt L 6, valAt L 7, valAt L 8, valAt L 9, valAt L 10, valAt L 11, valAt L 12, valAt L 13, valAt L 14⟩
theorem rdI_ok (L : List UInt8) : (rdI L).ok := ⟨vl32 L 0 rfl, vl32 L 1 rfl, vl32 L 2 rfl, vl16 L 3, vl32 L 5 rfl, vl32 L 6 rfl, vl32 L 7 rfl, vl32 L 8 rfl, vl32 L 9 rfl, vl32 L 10 rfl, vl32 L 11 rfl, vl32 L 12 rfl, vl32 L 13 rfl, vl32 L 14 rfl⟩
def dv (L : List UInt8) (j k : Nat) : Value := .int .u32 ((if j < k then valAt L (5 + j) else 0 : Nat) : Int)
def partI (L : List UInt8) (k : Nat) : Array Value := #[.int .u32 (valAt L 0 : Nat), .int .u32 (valAt L 1 : Nat), .int .u32 (valAt L 2 : Nat), .int .u16 (valAt L 3 : Nat), dv L 0 k, dv L 1 k, dv L 2 k, dv L 3 k, dv L 4 k, dv L 5 k, dv L 6 k, dv L 7 k, .int .u32 0, .int .u32 0]
theorem part_get (L : List UInt8) (k : Nat) (hk : k < 8) : (partI L k)[4 + k]? = some (.int .u32 0) := by
  match k, hk with
  | 0, _ => simp [partI, dv]
  | 1, _ => simp [partI, dv]
  | 2, _ => simp [partI, dv]
  | 3, _ => simp [partI, dv]
  | 4, _ => simp [partI, dv]
  | 5, _ => simp [partI, dv]
  | 6, _ => simp [partI, dv]
  | 7, _ => simp [partI, dv]
theorem part_set (L : List UInt8) (k : Nat) (hk : k < 8) : (partI L k).setIfInBounds (4 + k) (.int .u32 (valAt L (5 + k) : Nat)) = partI L (k + 1) := by
  match k, hk with
  | 0, _ => simp [partI, dv]
  | 1, _ => simp [partI, dv]
  | 2, _ => simp [partI, dv]
  | 3, _ => simp [partI, dv]
  | 4, _ => simp [partI, dv]
  | 5, _ => simp [partI, dv]
  | 6, _ => simp [partI, dv]
  | 7, _ => simp [partI, dv]
theorem part_end (L : List UInt8) : ((partI L 8).setIfInBounds 12 (.int .u32 (valAt L 13 : Nat))).setIfInBounds 13 (.int .u32 (valAt L 14 : Nat)) = (rdI L).cells := by simp [partI, dv, rdI, Ino.cells]
def goodI (L : List UInt8) : Prop := chkI (rdI L) = 0 ∧ encB (rdI L) = L
instance (L : List UInt8) : Decidable (goodI L) := by unfold goodI; infer_instance

def panicNone : Ending := .panicked [{ v := .iface 93 (.agg #[]), recovered := false }]
def RetRead (w : World) (L : List UInt8) : Ending → World → Prop := fun e w' =>
  e = (if goodI L then .returned (rdI L).val else panicNone) ∧ Keeps nowhere w w'

/-- the reader after `k` takes -/
def InK (w : World) (p : Nat) (g : Option Nat) (L : List UInt8) (k : Nat) : Prop := InAt w p g (stAt L k).1 (stAt L k).2
theorem ink_take {w : World} {p : Nat} {g : Option Nat} {L : List UInt8} {k : Nat} (n : Int) (hn : wds.getD k 0 = n) (hk : k < wds.length) (h : InK w p g L k) :
    Calls Try.prog 59 #[.pointer (some ⟨p, 0, none⟩), .int .i64 n] w fun e w' => e = .returned (.int .u64 (valAt L k : Nat)) ∧ InK w' p g L (k + 1) ∧ Keeps (only p) w w' :=
  (take_any p g _ _ n w h).mono fun e w' ⟨he, hi, hk'⟩ => by
    subst hn
    refine ⟨he, ?_, hk'⟩
    have e1 : stAt L (k + 1) = stepS (stAt L k) (wds.getD k 0) := by
      unfold stAt
      rw [List.take_add_one, List.foldl_append, List.getElem?_eq_getElem hk]
      simp [List.getD, hk]
    unfold InK
    rw [e1]
    exact hi

def fillW (w : World) (b : Nat) (i : Ino) : World := ((((((((((((((w.setCell ⟨b, 0, none⟩ (.int .u32 (i.m : Int))).setCell ⟨b, 1, none⟩ (.int .u32 (i.v : Int))).setCell ⟨b, 2, none⟩ (.int .u32 (i.s : Int))).setCell ⟨b, 3, none⟩ (.int .u16 (i.l : Int))).setCell ⟨b, 4, none⟩ (.int .u32 (i.d0 : Int))).setCell ⟨b, 5, none⟩ (.int .u32 (i.d1 : Int))).setCell ⟨b, 6, none⟩ (.int .u32 (i.d2 : Int))).setCell ⟨b, 7, none⟩ (.int .u32 (i.d3 : Int))).setCell ⟨b, 8, none⟩ (.int .u32 (i.d4 : Int))).setCell ⟨b, 9, none⟩ (.int .u32 (i.d5 : Int))).setCell ⟨b, 10, none⟩ (.int .u32 (i.d6 : Int))).setCell ⟨b, 11, none⟩ (.int .u32 (i.d7 : Int))).setCell ⟨b, 12, none⟩ (.int .u32 (i.a : Int))).setCell ⟨b, 13, none⟩ (.int .u32 (i.b : Int)))
theorem fill_blk {w : World} {b : Nat} {i : Ino} (h : Blk w b 48 #[.int .u32 0, .int .u32 0, .int .u32 0, .int .u16 0, .int .u32 0, .int .u32 0, .int .u32 0, .int .u32 0, .int .u32 0, .int .u32 0, .int .u32 0, .int .u32 0, .int .u32 0, .int .u32 0]) : Blk (fillW w b i) b 48 i.cells := by
  have h2 := ((((((((((((((h.set_ 0 (.int .u32 (i.m : Int))).set_ 1 (.int .u32 (i.v : Int))).set_ 2 (.int .u32 (i.s : Int))).set_ 3 (.int .u16 (i.l : Int))).set_ 4 (.int .u32 (i.d0 : Int))).set_ 5 (.int .u32 (i.d1 : Int))).set_ 6 (.int .u32 (i.d2 : Int))).set_ 7 (.int .u32 (i.d3 : Int))).set_ 8 (.int .u32 (i.d4 : Int))).set_ 9 (.int .u32 (i.d5 : Int))).set_ 10 (.int .u32 (i.d6 : Int))).set_ 11 (.int .u32 (i.d7 : Int))).set_ 12 (.int .u32 (i.a : Int))).set_ 13 (.int .u32 (i.b : Int)))
  unfold fillW
  simpa [Ino.cells] using h2
theorem fill_keeps {S : Nat → Prop} {w0 w : World} {b : Nat} {i : Ino} (hk : Keeps S w0 w) (hb : b < w0.heap.size → S b) : Keeps S w0 (fillW w b i) :=
  ((((((((((((((hk.setCell (p := ⟨b, 0, none⟩) hb (.int .u32 (i.m : Int))).setCell (p := ⟨b, 1, none⟩) hb (.int .u32 (i.v : Int))).setCell (p := ⟨b, 2, none⟩) hb (.int .u32 (i.s : Int))).setCell (p := ⟨b, 3, none⟩) hb (.int .u16 (i.l : Int))).setCell (p := ⟨b, 4, none⟩) hb (.int .u32 (i.d0 : Int))).setCell (p := ⟨b, 5, none⟩) hb (.int .u32 (i.d1 : Int))).setCell (p := ⟨b, 6, none⟩) hb (.int .u32 (i.d2 : Int))).setCell (p := ⟨b, 7, none⟩) hb (.int .u32 (i.d3 : Int))).setCell (p := ⟨b, 8, none⟩) hb (.int .u32 (i.d4 : Int))).setCell (p := ⟨b, 9, none⟩) hb (.int .u32 (i.d5 : Int))).setCell (p := ⟨b, 10, none⟩) hb (.int .u32 (i.d6 : Int))).setCell (p := ⟨b, 11, none⟩) hb (.int .u32 (i.d7 : Int))).setCell (p := ⟨b, 12, none⟩) hb (.int .u32 (i.a : Int))).setCell (p := ⟨b, 13, none⟩) hb (.int .u32 (i.b : Int)))

set_option maxHeartbeats 6400000 in
set_option maxRecDepth 20000 in
theorem iread (v0 : Value) (g0 : Option Nat) (L : List UInt8) (w : World) (hr : Rd w v0 g0 (L.map bv)) (hb : L.length ≤ 140737488351232) :
    Calls Try.prog 51 #[v0] w (RetRead w L) := by
  have hka := (Keeps.refl nowhere w).alloc (.cells #[.int .u32 0, .int .u32 0, .int .u32 0, .int .u16 0, .int .u32 0, .int .u32 0, .int .u32 0, .int .u32 0, .int .u32 0, .int .u32 0, .int .u32 0, .int .u32 0, .int .u32 0, .int .u32 0] 48)
  have hba := Blk.new w 48 #[.int .u32 0, .int .u32 0, .int .u32 0, .int .u16 0, .int .u32 0, .int .u32 0, .int .u32 0, .int .u32 0, .int .u32 0, .int .u32 0, .int .u32 0, .int .u32 0, .int .u32 0, .int .u32 0]
  obtain ⟨A0, c0, rfl, -⟩ := hr.form
  rw [List.length_map] at *
  have hra := hr.keep hka (fun _ _ h => h)
  have hv0 : IntKind.u32.wrap (valAt L 0 : Int) = valAt L 0 := IntWalk.u32_in _ (by have := vl32 L 0 rfl; omega)
  have hv1 : IntKind.u32.wrap (valAt L 1 : Int) = valAt L 1 := IntWalk.u32_in _ (by have := vl32 L 1 rfl; omega)
  have hv2 : IntKind.u32.wrap (valAt L 2 : Int) = valAt L 2 := IntWalk.u32_in _ (by have := vl32 L 2 rfl; omega)
  have hv3 : IntKind.u16.wrap (valAt L 3 : Int) = valAt L 3 := IntWalk.u16_in _ (by have := vl16 L 3; omega)
  have hv13 : IntKind.u32.wrap (valAt L 13 : Int) = valAt L 13 := IntWalk.u32_in _ (by have := vl32 L 13 rfl; omega)
  have hv14 : IntKind.u32.wrap (valAt L 14 : Int) = valAt L 14 := IntWalk.u32_in _ (by have := vl32 L 14 rfl; omega)
  have Hr := Lib.hid hr
  have Hka := Lib.hid hka
  have Hra := Lib.hid hra
  have Hba := Lib.hid hba
  clear hr hka hra hba
  go_enter Try.func51, Try.ntmps51
  go_wp2_with fail
  refine (in_of _ _ L _ Hra.out hb).mono ?_
  rintro e w1 ⟨q, gq, rfl, hin, hq, hgq, hk1⟩
  have hkw1 := Hka.out.more hk1
  have hi0 : InK w1 q gq L 0 := hin
  have hql := hin.lt.1
  clear hin
  have hsza := Hka.out.size
  have hszq : w.heap.size + 1 ≤ q := by simpa using hq
  have Hi := Lib.hid hi0
  have Hkq := Lib.hid (Keeps.refl (only q) w1)
  clear hi0
  have Hq := Lib.hid hq
  have Hgq := Lib.hid hgq
  have Hk1 := Lib.hid hk1
  have Hkw1 := Lib.hid hkw1
  have Hsza := Lib.hid hsza
  clear hq hgq hk1 hkw1 hsza
  go_wp2_with fail
  refine (ink_take (k := 0) 4 rfl (by decide) Hi.out).mono ?_
  rintro e wt ⟨rfl, hi', hkt⟩
  replace hkt := Hkq.out.trans hkt fun _ _ h => h
  clear Hi Hkq
  have Hi := Lib.hid hi'
  have Hkq := Lib.hid hkt
  clear hi' hkt
  go_wp2_with fail
  refine (ink_take (k := 1) 4 rfl (by decide) Hi.out).mono ?_
  rintro e wt ⟨rfl, hi', hkt⟩
  replace hkt := Hkq.out.trans hkt fun _ _ h => h
  clear Hi Hkq
  have Hi := Lib.hid hi'
  have Hkq := Lib.hid hkt
  clear hi' hkt
  go_wp2_with fail
  refine (ink_take (k := 2) 4 rfl (by decide) Hi.out).mono ?_
  rintro e wt ⟨rfl, hi', hkt⟩
  replace hkt := Hkq.out.trans hkt fun _ _ h => h
  clear Hi Hkq
  have Hi := Lib.hid hi'
  have Hkq := Lib.hid hkt
  clear hi' hkt
  go_wp2_with fail
  refine (ink_take (k := 3) 2 rfl (by decide) Hi.out).mono ?_
  rintro e wt ⟨rfl, hi', hkt⟩
  replace hkt := Hkq.out.trans hkt fun _ _ h => h
  clear Hi Hkq
  have Hi := Lib.hid hi'
  have Hkq := Lib.hid hkt
  clear hi' hkt
  obtain ⟨wI, hwI⟩ : ∃ wI, wI = wt.alloc (.cells (partI L 0) 48) := ⟨_, rfl⟩
  have hbI : Blk wI wt.heap.size 48 (partI L 0) := by rw [hwI]; exact Blk.new _ _ _
  have hkI : Keeps nowhere wt wI := by rw [hwI]; exact (Keeps.refl _ _).alloc _
  have hiI : InK wI q gq L 4 := InAt.keep Hi.out hkI (fun h => h) (fun _ _ h => h)
  have hqI := Hkq.out.trans hkI fun _ _ h => h.elim
  have hwI' : wt.alloc (.cells #[.int .u32 (valAt L 0 : Nat), .int .u32 (valAt L 1 : Nat), .int .u32 (valAt L 2 : Nat), .int .u16 (valAt L 3 : Nat), .int .u32 0, .int .u32 0, .int .u32 0, .int .u32 0, .int .u32 0, .int .u32 0, .int .u32 0, .int .u32 0, .int .u32 0, .int .u32 0] 48) = wI := by
    rw [hwI]; rfl
  have hpl : ∀ b, gq = some b → b < wt.heap.size := fun b hb => InAt.lt Hi.out |>.2 b hb
  have hszt : w1.heap.size ≤ wt.heap.size := Hkq.out.size
  have Hpl := Lib.hid hpl
  have Hszt := Lib.hid hszt
  clear hpl hszt
  have hplt : q < wt.heap.size := Nat.lt_of_lt_of_le hql Hkq.out.size
  clear Hi Hkq
  have Hi := Lib.hid hiI
  have Hkq := Lib.hid hqI
  clear hiI hqI
  have HwI := Lib.hid hwI
  have HbI := Lib.hid hbI
  have HkI := Lib.hid hkI
  have HwI' := Lib.hid hwI'
  clear hwI hbI hkI hwI'
  go_wp2_with fail
  rw [HwI'.out]
  clear hv0 hv1 hv2 hv3
  refine (ink_take (k := 4) 2 rfl (by decide) Hi.out).mono ?_
  rintro e wt2 ⟨rfl, hi', hkt⟩
  have hbt := HbI.out.keep hkt (fun e => by unfold only at e; omega)
  replace hkt := Hkq.out.trans hkt fun _ _ h => h
  clear Hi Hkq HbI
  have Hi := Lib.hid hi'
  have Hkq := Lib.hid hkt
  have HbI := Lib.hid hbt
  clear hi' hkt hbt
  go_wp2_with fail
  go_loopw [25] (fun iv wr => ∃ k : Nat, k ≤ 8 ∧ iv = .int .i64 k ∧ InK wr q gq L (5 + k) ∧ Blk wr wt.heap.size 48 (partI L k) ∧ Keeps (only q) w1 wr) (fun iv _ => 8 - (intOf iv).toNat)
  case atStart => exact ⟨0, Nat.zero_le _, rfl, Hi.out, HbI.out, Hkq.out⟩
  case round =>
    obtain ⟨k, hk, rfl, hik, hbk, hkk⟩ := hrel
    by_cases hlt : k < 8
    · have hw5 : wds.getD (5 + k) 0 = 4 := by
        match k, hlt with
        | 0, _ => rfl
        | 1, _ => rfl
        | 2, _ => rfl
        | 3, _ => rfl
        | 4, _ => rfl
        | 5, _ => rfl
        | 6, _ => rfl
        | 7, _ => rfl
      have hv : IntKind.u32.wrap (valAt L (5 + k) : Int) = valAt L (5 + k) := IntWalk.u32_in _ (by have := vl32 L (5 + k) hw5; omega)
      have hset := part_set L k hlt
      have hget := part_get L k hlt
      obtain ⟨y, hy⟩ : ∃ y, y = valAt L (5 + k) := ⟨_, rfl⟩
      have htk := ink_take (k := 5 + k) 4 hw5 (by simp [wds]; omega) hik
      rw [← hy] at hv hset htk
      have hk0 : (0 : Int) ≤ k ∧ (k : Int) < 8 := by omega
      clear hw5
      have Hik := Lib.hid hik
      have Hbk := Lib.hid hbk
      have Hkk := Lib.hid hkk
      have Hset := Lib.hid hset
      have Hget := Lib.hid hget
      have Hy := Lib.hid hy
      have Htk := Lib.hid htk
      clear hik hbk hkk hset hget hy htk
      go_wp2_with fail
      refine Htk.out.mono ?_
      rintro e wt2 ⟨rfl, hi', hkt⟩
      have hbt := Hbk.out.keep hkt (fun e => by unfold only at e; omega)
      have hc := (hbt.cell (4 + k)).trans Hget.out
      have hf := hbt.frozen (4 + k)
      have hb' := hbt.set_ (4 + k) (.int .u32 (y : Nat))
      rw [Hset.out] at hb'
      have hkt2 := Hkk.out.trans hkt fun _ _ h => h
      have hks := (Keeps.refl (only wt.heap.size) wt2).setCell (p := ⟨wt.heap.size, 4 + k, none⟩) (fun _ => rfl) (.int .u32 (y : Nat))
      have hi'2 : InK (wt2.setCell ⟨wt.heap.size, 4 + k, none⟩ (.int .u32 (y : Nat))) q gq L (5 + k + 1) := InAt.keep hi' hks (fun e => by unfold only at e; omega) (fun b hb e => by have := Hgq.out b hb; have := Hpl.out b hb; unfold only at e; omega)
      have hkk2 : Keeps (only q) w1 (wt2.setCell ⟨wt.heap.size, 4 + k, none⟩ (.int .u32 (y : Nat))) := hkt2.setCell (fun h => by have := Hszt.out; simp only at h; omega) _
      have Hi' := Lib.hid hi'
      have Hkt := Lib.hid hkt
      have Hbt := Lib.hid hbt
      have Hb' := Lib.hid hb'
      have Hkt2 := Lib.hid hkt2
      have Hks := Lib.hid hks
      have Hi'2 := Lib.hid hi'2
      have Hkk2 := Lib.hid hkk2
      clear hi' hkt hbt hb' hkt2 hks hi'2 hkk2
      go_wp2_with fail
      go_roundw
      case rel => exact ⟨k + 1, by omega, by go_num, Hi'2.out, Hb'.out, Hkk2.out⟩
      case measure => simp [intOf]; omega
    · obtain rfl : k = 8 := by omega
      have Hi := Lib.hid hik
      have HbI := Lib.hid hbk
      have Hkq := Lib.hid hkk
      clear hik hbk hkk
      go_wp2_with fail
      refine (ink_take (k := 13) 4 rfl (by decide) Hi.out).mono ?_
      rintro e wt2 ⟨rfl, hi', hkt⟩
      have hbt := HbI.out.keep hkt (fun e => by unfold only at e; omega)
      replace hkt := Hkq.out.trans hkt fun _ _ h => h
      clear Hi Hkq HbI
      have Hi := Lib.hid hi'
      have Hkq := Lib.hid hkt
      have HbI := Lib.hid hbt
      clear hi' hkt hbt
      go_wp2_with fail
      refine (ink_take (k := 14) 4 rfl (by decide) Hi.out).mono ?_
      rintro e wt2 ⟨rfl, hi', hkt⟩
      have hbt := HbI.out.keep hkt (fun e => by unfold only at e; omega)
      replace hkt := Hkq.out.trans hkt fun _ _ h => h
      clear Hi Hkq HbI
      have Hi := Lib.hid hi'
      have Hkq := Lib.hid hkt
      have HbI := Lib.hid hbt
      clear hi' hkt hbt
      have c12 := HbI.out.cell 12
      have c13 := HbI.out.cell 13
      have f12 := HbI.out.frozen 12
      have f13 := HbI.out.frozen 13
      rw [show (partI L 8)[12]? = some (.int .u32 0) from rfl] at c12
      rw [show (partI L 8)[13]? = some (.int .u32 0) from rfl] at c13
      go_upto_region 10 with fail
      clear c12 c13 f12 f13 hv13 hv14
      obtain ⟨wf, hwf⟩ : ∃ wf, wf = (wt2.setCell ⟨wt.heap.size, 12, none⟩ (.int .u32 (valAt L 13 : Nat))).setCell ⟨wt.heap.size, 13, none⟩ (.int .u32 (valAt L 14 : Nat)) := ⟨_, rfl⟩
      have hbf : Blk wf wt.heap.size 48 (rdI L).cells := by
        rw [hwf, ← part_end]
        exact (HbI.out.set_ 12 _).set_ 13 _
      have hkf : Keeps (only q) w1 wf := by
        rw [hwf]
        exact (Hkq.out.setCell (p := ⟨wt.heap.size, 12, none⟩) (fun h => by have := Hszt.out; simp only at h; omega) _).setCell (p := ⟨wt.heap.size, 13, none⟩) (fun h => by have := Hszt.out; simp only at h; omega) _
      rw [← hwf]
      have hkwf := Hkw1.out.fresh hkf (by omega)
      have hrf := Hr.out.keep hkwf (fun _ _ h => h)
      have hzf := (Hba.out.keep Hk1.out (fun h => h)).keep hkf (fun e => by unfold only at e; omega)
      obtain ⟨i, hi⟩ : ∃ i, i = rdI L := ⟨_, rfl⟩
      have hok := rdI_ok L
      rw [← hi] at hbf hok
      obtain ⟨c0, c1, c2, c3, c4, c5, c6, c7, c8, c9, c10, c11, c12, c13⟩ := ino_cells hbf
      have hen := iencode i hok wf
      unfold Ino.val Ino.cells at hen
      have Hwf := Lib.hid hwf
      have Hbf := Lib.hid hbf
      have Hkf := Lib.hid hkf
      have Hkwf := Lib.hid hkwf
      have Hrf := Lib.hid hrf
      have Hzf := Lib.hid hzf
      have Hi := Lib.hid hi
      have Hok := Lib.hid hok
      have Hen := Lib.hid hen
      clear hwf hbf hkf hkwf hrf hzf hi hok hen
      go_wp2_with fail
      refine Hen.out.mono ?_
      rintro e w9 ⟨v9, g9, rfl, hr9, hab9, hk9⟩
      have hr0 := Hrf.out.keep hk9 (fun _ _ h => h)
      have hkw9 := Hkwf.out.more hk9
      have hcv0 := conv_str _ _ _ _ hr0
      have hcv9 := conv_str _ _ _ _ hr9
      obtain ⟨C, hC⟩ : ∃ C, C = chkI i := ⟨_, rfl⟩
      rw [← hC]
      obtain ⟨E, hE⟩ : ∃ E, E = encE i := ⟨_, rfl⟩
      rw [← hE] at hr9 hcv9
      obtain ⟨A9, cc9, rfl, -⟩ := hr9.form
      have hmi : ∀ w, (Instr.makeInterface 93 (.agg #[])).run Try.prog w = .ok (.iface 93 (.agg #[])) w := fun _ => by kernel_rfl
      have hbf9 := Hbf.out.keep hk9 (fun h => h)
      have hzf9 := Hzf.out.keep hk9 (fun h => h)
      clear c0 c1 c2 c3 c4 c5 c6 c7 c8 c9 c10 c11 c12 c13
      rw [List.length_map] at *
      have hi_out := Hi.out
      by_cases hc0 : C = 0
      · have hc0' : (C != 0) = false := by simp [hc0]
        have hEB : E = encB i := by rw [hE, encE, if_pos (by rw [← hC]; exact hc0)]
        by_cases heq : E = L
        · have hq := strOf_beq heq
          have hgood : goodI L := ⟨by rw [← hi_out, ← hC]; exact hc0, by rw [← hi_out, ← hEB]; exact heq⟩
          have hval : (rdI L).val = i.val := by rw [hi_out]
          obtain ⟨c0, c1, c2, c3, c4, c5, c6, c7, c8, c9, c10, c11, c12, c13⟩ := ino_cells hbf9
          have z0 : w9.cell? ⟨w.heap.size, 0, none⟩ = some (.int .u32 0) := hzf9.cell 0
          have z1 : w9.cell? ⟨w.heap.size, 1, none⟩ = some (.int .u32 0) := hzf9.cell 1
          have z2 : w9.cell? ⟨w.heap.size, 2, none⟩ = some (.int .u32 0) := hzf9.cell 2
          have z3 : w9.cell? ⟨w.heap.size, 3, none⟩ = some (.int .u16 0) := hzf9.cell 3
          have z4 : w9.cell? ⟨w.heap.size, 4, none⟩ = some (.int .u32 0) := hzf9.cell 4
          have z5 : w9.cell? ⟨w.heap.size, 5, none⟩ = some (.int .u32 0) := hzf9.cell 5
          have z6 : w9.cell? ⟨w.heap.size, 6, none⟩ = some (.int .u32 0) := hzf9.cell 6
          have z7 : w9.cell? ⟨w.heap.size, 7, none⟩ = some (.int .u32 0) := hzf9.cell 7
          have z8 : w9.cell? ⟨w.heap.size, 8, none⟩ = some (.int .u32 0) := hzf9.cell 8
          have z9 : w9.cell? ⟨w.heap.size, 9, none⟩ = some (.int .u32 0) := hzf9.cell 9
          have z10 : w9.cell? ⟨w.heap.size, 10, none⟩ = some (.int .u32 0) := hzf9.cell 10
          have z11 : w9.cell? ⟨w.heap.size, 11, none⟩ = some (.int .u32 0) := hzf9.cell 11
          have z12 : w9.cell? ⟨w.heap.size, 12, none⟩ = some (.int .u32 0) := hzf9.cell 12
          have z13 : w9.cell? ⟨w.heap.size, 13, none⟩ = some (.int .u32 0) := hzf9.cell 13
          have fz : ∀ k, w9.frozen? ⟨w.heap.size, k, none⟩ = false := fun k => hzf9.frozen k
          have hbz := fill_blk (i := i) hzf9
          have hkz := fill_keeps (i := i) (b := w.heap.size) hkw9 (fun h => absurd h (Nat.lt_irrefl _))
          clear hi_out
          have Hr9 := Lib.hid hr9
          have Hab9 := Lib.hid hab9
          have Hk9 := Lib.hid hk9
          have Hr0 := Lib.hid hr0
          have Hkw9 := Lib.hid hkw9
          have HC := Lib.hid hC
          have HE := Lib.hid hE
          have Hbf9 := Lib.hid hbf9
          have Hzf9 := Lib.hid hzf9
          have Hc0 := Lib.hid hc0
          have HEB := Lib.hid hEB
          have Heq := Lib.hid heq
          have Hgood := Lib.hid hgood
          have Hval := Lib.hid hval
          have Hbz := Lib.hid hbz
          have Hkz := Lib.hid hkz
          clear hr9 hab9 hk9 hr0 hkw9 hC hE hbf9 hzf9 hc0 hEB heq hgood hval hbz hkz
          go_wp2_with fail
          obtain ⟨wz, hwz⟩ : ∃ wz, wz = fillW w9 w.heap.size i := ⟨_, rfl⟩
          have hwz' := hwz
          unfold fillW at hwz'
          rw [← hwz']
          have hbz := Hbz.out
          have hkz := Hkz.out
          rw [← hwz] at hbz hkz
          clear hwz hwz' z0 z1 z2 z3 z4 z5 z6 z7 z8 z9 z10 z11 z12 z13 c0 c1 c2 c3 c4 c5 c6 c7 c8 c9 c10 c11 c12 c13 Hbz Hkz
          obtain ⟨c0, c1, c2, c3, c4, c5, c6, c7, c8, c9, c10, c11, c12, c13⟩ := ino_cells hbz
          refine bodyPost_ret (v := i.val) (by unfold Ino.val Ino.cells; simp [results, Try.results51, go_sem, c0, c1, c2, c3, c4, c5, c6, c7, c8, c9, c10, c11, c12, c13]) rfl ?_
          exact ⟨by rw [if_pos Hgood.out, Hval.out], hkz⟩
        · have hq := strOf_ne' heq
          have hgood : ¬ goodI L := fun h => heq (by rw [hEB, hi_out]; exact h.2)
          have hfin : RetRead w L panicNone w9 := ⟨by rw [if_neg hgood], hkw9⟩
          clear hi_out
          have Hr9 := Lib.hid hr9
          have Hab9 := Lib.hid hab9
          have Hk9 := Lib.hid hk9
          have Hr0 := Lib.hid hr0
          have Hkw9 := Lib.hid hkw9
          have HC := Lib.hid hC
          have HE := Lib.hid hE
          have Hbf9 := Lib.hid hbf9
          have Hzf9 := Lib.hid hzf9
          have Hc0 := Lib.hid hc0
          have Hgood := Lib.hid hgood
          have Hfin := Lib.hid hfin
          have HEB := Lib.hid hEB
          have Heq := Lib.hid heq
          clear hr9 hab9 hk9 hr0 hkw9 hC hE hbf9 hzf9 hc0 hgood hfin hEB heq
          go_wp2_with fail
          exact ⟨rfl, Hfin.out⟩
      · have hc0' : (C != 0) = true := by simp [hc0]
        have hgood : ¬ goodI L := fun h => hc0 (by rw [hC, hi_out]; exact h.1)
        have hfin : RetRead w L panicNone w9 := ⟨by rw [if_neg hgood], hkw9⟩
        clear hi_out
        have Hr9 := Lib.hid hr9
        have Hab9 := Lib.hid hab9
        have Hk9 := Lib.hid hk9
        have Hr0 := Lib.hid hr0
        have Hkw9 := Lib.hid hkw9
        have HC := Lib.hid hC
        have HE := Lib.hid hE
        have Hbf9 := Lib.hid hbf9
        have Hzf9 := Lib.hid hzf9
        have Hc0 := Lib.hid hc0
        have Hgood := Lib.hid hgood
        have Hfin := Lib.hid hfin
        clear hr9 hab9 hk9 hr0 hkw9 hC hE hbf9 hzf9 hc0 hgood hfin
        go_wp2_with fail
        exact ⟨rfl, Hfin.out⟩
end Go.Proofs.Ytblmbchjafffbaa
