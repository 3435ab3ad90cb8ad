/-
  loggialaw21: at, without; the calls of a play.
-/
import Derived.Test.YtnccgmffgmfinaaT5
import Derived.Test.YtnccgmffgmfinaaOpenS
import Derived.Lib.SmallJoins
namespace Go.Proofs.Ytnccgmffgmfinaa
open Go.RowKit Go.Shelf

def recL : RecT (Nat × Nat) := ⟨76, 2, fun x => [.int .u16 x.1, .int .u16 x.2], fun _ => rfl, fun _ u hu => by simp at hu; rcases hu with rfl | rfl <;> rfl, by decide⟩
theorem infoLw : (Try.prog.info? 76).map (fun i => (i.zero, i.size, i.bytes)) = some (some (.agg #[.int .u16 0, .int .u16 0]), 2, 4) := by kernel_rfl
theorem atL {w : World} {b a : Nat} {x : Nat × Nat} (h : recL.At w b a x) : w.cell? ⟨b, a, none⟩ = some (.int .u16 x.1) ∧ w.cell? ⟨b, a + 1, none⟩ = some (.int .u16 x.2) := ⟨h 0 (by decide), h 1 (by decide)⟩
theorem oneL (w : World) (x : Nat × Nat) : recL.Rd (w.alloc (.cells #[.int .u16 x.1, .int .u16 x.2] 76)) (.slice (some ⟨w.heap.size, 0, none⟩) 1 1) (some w.heap.size) [x] := RecT.Rd.one recL w x

set_option maxHeartbeats 1000000 in
theorem lat_any (v : Value) (gb : Option Nat) (l : List Nat) (x : Nat) (w : World) (hr : recU.Rd w v gb l) (hl : l.length ≤ 9223372036854775807) :
    Calls Try.prog 33 #[v, .int .u16 x] w (RetInt (idxR (fun y => y == x) l) w) := by
  obtain ⟨A, cap, rfl, h1, h2, hu, h3, -⟩ := hr
  obtain ⟨L, hL⟩ : ∃ L, L = l.length := ⟨_, rfl⟩
  rw [← hL] at hl ⊢
  have H3 := Lib.hid h3
  have Hu := Lib.hid hu
  have HL := Lib.hid hL
  clear h3 hu hL
  go_enter Try.func33, Try.ntmps33
  go_wp2_with fail
  go_loopw [5] (fun iv wr => ∃ i : Nat, iv = .int .i64 i ∧ i ≤ L ∧ Keeps nowhere w wr ∧ ∀ j t, j < i → l[j]? = some t → (t == x) = false) (fun iv _ => L - (intOf iv).toNat)
  case atStart => exact ⟨0, rfl, Nat.zero_le _, Keeps.refl _ _, fun j t hj => absurd hj (by omega)⟩
  case round =>
    obtain ⟨i, rfl, hi, hk, hno⟩ := hrel
    by_cases hlt : i < L
    · have hltI : (i : Int) < L := by omega
      have hi0 : (0 : Int) ≤ (i : Int) := by omega
      have hi1 : IntKind.i64.wrap ((i : Int) + 1) = i + 1 := IntWalk.i64_in _ (by omega)
      obtain ⟨b, off, rfl, hg, hc⟩ := H3.out (by rw [← HL.out]; omega)
      have hil : i < l.length := by rw [← HL.out]; exact hlt
      obtain ⟨t, ht⟩ : ∃ t, l[i]? = some t := ⟨_, List.getElem?_eq_getElem hil⟩
      have hj := atU ((hc i _ ht).keep hk (Hu.out b hg) (fun h => h))
      rw [show i * recU.n = i from Nat.mul_one i] at hj
      clear hc
      by_cases hx : t = x
      · have hxe : ((t : Int) == (x : Int)) = true := by simp [hx]
        have hidx : idxR (fun y => y == x) l = i := idxR_some hil (by rw [(List.getElem?_eq_some_iff.1 ht).2]; simpa using hx) (fun j hj => hno j _ hj (List.getElem?_eq_getElem (by omega)))
        have Hk := Lib.hid hk
        have Hno := Lib.hid hno
        have Hidx := Lib.hid hidx
        have Ht := Lib.hid ht
        have Hg := Lib.hid hg
        have Hil := Lib.hid hil
        have Hx := Lib.hid hx
        clear hk hno hidx ht hg hil hx
        go_wp2_with fail
        go_ret
        exact ⟨by rw [Hidx.out]; rfl, Hk.out⟩
      · have hxe : ((t : Int) == (x : Int)) = false := by simp; omega
        have Hk := Lib.hid hk
        have Hno := Lib.hid hno
        have Ht := Lib.hid ht
        have Hg := Lib.hid hg
        have Hil := Lib.hid hil
        have Hx := Lib.hid hx
        clear hk hno ht hg hil hx
        go_wp2_with fail
        go_roundw
        case rel => exact ⟨i + 1, by simp, by omega, Hk.out, fun j t' hj htj => by
          by_cases e : j = i
          · subst e; rw [Ht.out] at htj; injection htj with htj; rw [← htj]; simpa using Hx.out
          · exact Hno.out j t' (by omega) htj⟩
        case measure => simp [intOf]; omega
    · obtain rfl : i = L := by omega
      have hidx : idxR (fun y => y == x) l = -1 := idxR_none (fun t ht => by
        obtain ⟨j, hj, rfl⟩ := List.getElem_of_mem ht
        exact hno j _ (by rw [HL.out]; exact hj) (List.getElem?_eq_getElem hj))
      have Hk := Lib.hid hk
      have Hno := Lib.hid hno
      have Hidx := Lib.hid hidx
      clear hk hno hidx
      go_wp2_with fail
      go_ret
      exact ⟨by rw [Hidx.out]; rfl, Hk.out⟩

/-- which waits stay -/
def stays (x : Nat) (o : Bool) (t : Nat × Nat) : Bool := !(t.1 == x || (o && t.2 == x))
def RetRowL (l : List (Nat × Nat)) (w : World) : Ending → World → Prop := fun e w' => ∃ v, e = .returned v ∧ recL.Row w' v l ∧ Above w.heap.size v.ownBlock ∧ Keeps nowhere w w'

set_option maxRecDepth 8000 in
set_option maxHeartbeats 4000000 in
theorem lwithout21 (v : Value) (gb : Option Nat) (l : List (Nat × Nat)) (x : Nat) (o : Bool) (w : World) (hr : recL.Rd w v gb l) (hl : l.length ≤ 100000) :
    Calls Try.prog 36 #[v, .int .u16 x, .bool o] w (RetRowL (l.filter (stays x o)) w) := by
  obtain ⟨A, cap, rfl, h1, h2, hu, h3, -⟩ := hr
  obtain ⟨L, hL⟩ : ∃ L, L = l.length := ⟨_, rfl⟩
  rw [← hL] at hl ⊢
  have H3 := Lib.hid h3
  have Hu := Lib.hid hu
  have HL := Lib.hid hL
  clear h3 hu hL
  go_enter Try.func36, Try.ntmps36
  go_wp2_with fail
  go_loopw [7, 8] (fun sv iv wr => ∃ (i n0 c0 : Nat) (A0 : Option Addr), iv = .int .i64 i ∧ sv = .slice A0 n0 c0 ∧ i ≤ L ∧ n0 = ((l.take i).filter (stays x o)).length ∧ recL.Row wr sv ((l.take i).filter (stays x o)) ∧ Above w.heap.size sv.ownBlock ∧ Keeps nowhere w wr) (fun _ iv _ => L - (intOf iv).toNat)
  case atStart => exact ⟨0, 0, 0, none, rfl, rfl, Nat.zero_le _, by simp, by simpa using RecT.Row.nil recL _, fun b hb => by simp [Value.ownBlock] at hb, Keeps.refl _ _⟩
  case round =>
    obtain ⟨i, n0, c0, A0, rfl, rfl, hi, hn0, hrow, hab, hk⟩ := hrel
    by_cases hlt : i < L
    · have hltI : (i : Int) < L := by omega
      have hi0 : (0 : Int) ≤ (i : Int) := by omega
      have hi1 : IntKind.i64.wrap ((i : Int) + 1) = i + 1 := IntWalk.i64_in _ (by omega)
      obtain ⟨b, off, rfl, hg, hc⟩ := H3.out (by rw [← HL.out]; omega)
      have hil : i < l.length := by rw [← HL.out]; exact hlt
      obtain ⟨t, ht⟩ : ∃ t, l[i]? = some t := ⟨_, List.getElem?_eq_getElem hil⟩
      obtain ⟨d0, d1⟩ := atL ((hc i _ ht).keep hk (Hu.out b hg) (fun h => h))
      rw [show i * recL.n = i * 2 from rfl] at d0 d1
      have hsucc := filter_take_succ ht (stays x o)
      have hle : ((l.take i).filter (stays x o)).length ≤ 100000 := by
        have h1 := List.length_filter_le (stays x o) (l.take i)
        rw [List.length_take] at h1
        omega
      obtain ⟨t1, t2⟩ := t
      simp only at d0 d1
      clear hc
      have hj1 := oneL wr (t1, t2)
      have hrow1 := hrow.same ((Keeps.refl nowhere wr).alloc (.cells #[.int .u16 t1, .int .u16 t2] 76))
      have hkx1 : Keeps nowhere w (wr.alloc (.cells #[.int .u16 t1, .int .u16 t2] 76)) := hk.alloc _
      have hlb : ((l.take i).filter (stays x o)).length + ([(t1, t2)] : List (Nat × Nat)).length ≤ 100000000 := by simp; omega
      have hb1 : ((t1 : Int) != (x : Int)) = !(t1 == x) := by rw [bne, beqU]
      have hb2 : ((t2 : Int) != (x : Int)) = !(t2 == x) := by rw [bne, beqU]
      have Hn0 := Lib.hid hn0
      have Hrow := Lib.hid hrow
      have Hab := Lib.hid hab
      have Hk := Lib.hid hk
      have Ht := Lib.hid ht
      have Hsucc := Lib.hid hsucc
      have Hle := Lib.hid hle
      have Hg := Lib.hid hg
      have Hil := Lib.hid hil
      have Hj1 := Lib.hid hj1
      have Hrow1 := Lib.hid hrow1
      have Hkx1 := Lib.hid hkx1
      have Hlb := Lib.hid hlb
      clear hn0 hrow hab hk ht hsucc hle hg hil hj1 hrow1 hkx1 hlb
      cases hA : (t1 == x) with
      | true =>
        rw [hA] at hb1
        have hs : stays x o (t1, t2) = false := by simp only [stays, hA]; rfl
        have hres : (l.take (i + 1)).filter (stays x o) = (l.take i).filter (stays x o) := by rw [Hsucc.out, hs]; simp
        simp only [Bool.not_true] at hb1
        have HA := Lib.hid hA
        have Hs := Lib.hid hs
        have Hres := Lib.hid hres
        clear hA hs hres
        go_wp2_with fail
        go_roundw
        case rel => exact ⟨i + 1, n0, c0, A0, by simp, rfl, by omega, by rw [Hres.out]; exact Hn0.out, by rw [Hres.out]; exact Hrow.out, Hab.out, Hk.out⟩
        case measure => simp [intOf]; omega
      | false =>
        rw [hA] at hb1
        simp only [Bool.not_false] at hb1
        cases o with
        | false =>
          have hs : stays x false (t1, t2) = true := by simp only [stays, hA]; rfl
          have hres : (l.take (i + 1)).filter (stays x false) = (l.take i).filter (stays x false) ++ [(t1, t2)] := by rw [Hsucc.out, hs]; simp
          have HA := Lib.hid hA
          have Hs := Lib.hid hs
          have Hres := Lib.hid hres
          clear hA hs hres
          go_wp2_with (at_builtin; go_must (refine RecT.wpList_append Try.underlying67 infoLw rfl (by decide) rfl (.tmp 35) (.tmp 40) rfl _ _ rfl Hrow1.out _ _ [(t1, t2)] rfl Hj1.out Hlb.out ?_))
          intro v7 w7 hrow7 hk7 hf7
          rw [← Hres.out] at hrow7
          have hk8 : Keeps nowhere w w7 := Hkx1.out.trans hk7 (fun b hb e => absurd (Hab.out b e) (by omega))
          have hab7 : Above w.heap.size v7.ownBlock := fun b hb => by
            rcases hf7 b hb with h | h
            · exact Hab.out b h
            · have := Hkx1.out.size; (try simp at this); (try simp at h); omega
          obtain ⟨A7, c7, rfl, -⟩ := hrow7.form
          clear hk7 hf7
          have Hrow7 := Lib.hid hrow7
          have Hk8 := Lib.hid hk8
          have Hab7 := Lib.hid hab7
          clear hrow7 hk8 hab7
          go_wp2_with fail
          go_roundw
          case rel => exact ⟨i + 1, _, c7, A7, by simp, rfl, by omega, rfl, Hrow7.out, Hab7.out, Hk8.out⟩
          case measure => simp [intOf]; omega
        | true =>
          cases hB : (t2 == x) with
          | true =>
            rw [hB] at hb2
            simp only [Bool.not_true] at hb2
            have hs : stays x true (t1, t2) = false := by simp only [stays, hA, hB]; rfl
            have hres : (l.take (i + 1)).filter (stays x true) = (l.take i).filter (stays x true) := by rw [Hsucc.out, hs]; simp
            have HA := Lib.hid hA
            have Hs := Lib.hid hs
            have Hres := Lib.hid hres
            have HB := Lib.hid hB
            clear hA hs hres hB
            go_wp2_with fail
            go_roundw
            case rel => exact ⟨i + 1, n0, c0, A0, by simp, rfl, by omega, by rw [Hres.out]; exact Hn0.out, by rw [Hres.out]; exact Hrow.out, Hab.out, Hk.out⟩
            case measure => simp [intOf]; omega
          | false =>
            rw [hB] at hb2
            simp only [Bool.not_false] at hb2
            have hs : stays x true (t1, t2) = true := by simp only [stays, hA, hB]; rfl
            have hres : (l.take (i + 1)).filter (stays x true) = (l.take i).filter (stays x true) ++ [(t1, t2)] := by rw [Hsucc.out, hs]; simp
            have HA := Lib.hid hA
            have Hs := Lib.hid hs
            have Hres := Lib.hid hres
            have HB := Lib.hid hB
            clear hA hs hres hB
            go_wp2_with (at_builtin; go_must (refine RecT.wpList_append Try.underlying67 infoLw rfl (by decide) rfl (.tmp 35) (.tmp 40) rfl _ _ rfl Hrow1.out _ _ [(t1, t2)] rfl Hj1.out Hlb.out ?_))
            intro v7 w7 hrow7 hk7 hf7
            rw [← Hres.out] at hrow7
            have hk8 : Keeps nowhere w w7 := Hkx1.out.trans hk7 (fun b hb e => absurd (Hab.out b e) (by omega))
            have hab7 : Above w.heap.size v7.ownBlock := fun b hb => by
              rcases hf7 b hb with h | h
              · exact Hab.out b h
              · have := Hkx1.out.size; (try simp at this); (try simp at h); omega
            obtain ⟨A7, c7, rfl, -⟩ := hrow7.form
            clear hk7 hf7
            have Hrow7 := Lib.hid hrow7
            have Hk8 := Lib.hid hk8
            have Hab7 := Lib.hid hab7
            clear hrow7 hk8 hab7
            go_wp2_with fail
            go_roundw
            case rel => exact ⟨i + 1, _, c7, A7, by simp, rfl, by omega, rfl, Hrow7.out, Hab7.out, Hk8.out⟩
            case measure => simp [intOf]; omega
    · obtain rfl : i = L := by omega
      rw [HL.out, List.take_length] at hn0 hrow
      have hiI : ¬ (i : Int) < i := by omega
      have Hn0 := Lib.hid hn0
      have Hrow := Lib.hid hrow
      have Hab := Lib.hid hab
      have Hk := Lib.hid hk
      clear hn0 hrow hab hk
      go_wp2_with fail
      go_ret
      exact ⟨_, rfl, Hrow.out, Hab.out, Hk.out⟩
end Go.Proofs.Ytnccgmffgmfinaa
