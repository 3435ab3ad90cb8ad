/-
  loggialaw9.MapPlays: the walk.
-/
import Derived.Test.YtbckbnmpeedodaaPut9
import Derived.Test.YtbckbnmpeedodaaOpenAct9
namespace Go.Proofs.Ytbckbnmpeedodaa
open Go.RowKit

theorem least_unique {f : Nat → Bool} {n k i i' : Nat} (h : Least f n k i) (h' : Least f n k i') : i = i' := by
  rcases Nat.lt_trichotomy i i' with e | e | e
  · exact absurd h.1 (h'.2 i e)
  · exact e
  · exact absurd h'.1 (h.2 i' e)
theorem made_rows (n : Nat) : (madeCells #[Value.bool false] n).toList = rowV n fun _ => false := by
  apply List.ext_getElem?
  intro j
  by_cases hj : j < n
  · rw [rowV_get n _ hj]
    simp [madeCells, hj, Nat.mod_one]
  · rw [List.getElem?_eq_none (by simp [madeCells]; omega), List.getElem?_eq_none (by simp [rowV_len]; omega)]

set_option maxRecDepth 10000 in
theorem mplays_long (B : Option Addr) (l c : Nat) (n : Int) (w : World) (hm : l ≤ 9223372036854775807) (hC : 80 < l ∨ (¬ 80 < l ∧ n > 300 ∧ n ≤ 65536)) : Calls Try.prog 11 #[.int .i64 n, .slice B l c] w (YesM w) := by
  rcases hC with h | ⟨h, h1, h2⟩
  · have h2' : (80 : Int) < l := by omega
    go_enter Try.func11, Try.ntmps11
    go_wp2_with fail
    refine (known9 _).mono ?_
    rintro e w0 ⟨rfl, hk0⟩
    have Hk0 := Lib.hid hk0
    clear hk0
    go_wp2_with fail
    go_ret
    exact ⟨rfl, Hk0.out⟩
  · have h2' : ¬ (80 : Int) < l := by omega
    go_enter Try.func11, Try.ntmps11
    go_wp2_with fail
    refine (known9 _).mono ?_
    rintro e w0 ⟨rfl, hk0⟩
    have Hk0 := Lib.hid hk0
    clear hk0
    go_wp2_with fail
    go_ret
    exact ⟨rfl, Hk0.out⟩

set_option maxRecDepth 10000 in
theorem mplays_bad (B : Option Addr) (l c : Nat) (n : Int) (w : World) (hl : ¬ 80 < l) (hC : n < 1 ∨ (¬ n < 1 ∧ n > 65536)) : Calls Try.prog 11 #[.int .i64 n, .slice B l c] w (YesM w) := by
  have h2' : ¬ (80 : Int) < l := by omega
  have hN := new_bad n
  have hN := fun w => hN w hC
  have HN := Lib.hid hN
  clear hN
  have hC : n < 1 ∨ (¬ n < 1 ∧ decide (n ≤ 65536) = false ∧ 300 < n) := by
    rcases hC with h | h
    · exact .inl h
    · exact .inr ⟨h.1, decide_eq_false (by omega), by omega⟩
  rcases hC with h | ⟨h, h1, h3⟩
  all_goals
    go_enter Try.func11, Try.ntmps11
    go_wp2_with fail
    refine (known9 _).mono ?_
    rintro e w0 ⟨rfl, hk0⟩
    have Hk0 := Lib.hid hk0
    clear hk0
    go_wp2_with fail
    refine (HN.out _).mono ?_
    rintro e w1 ⟨rfl, rfl⟩
    go_wp2_with fail
    go_ret
    exact ⟨rfl, Hk0.out⟩

/-- where the play stands: the map, the row of marks, both of the call's own -/
structure Stand (w wr : World) (p g n : Nat) (f : Nat → Bool) (rv : Value) (rb : Nat) : Prop where
  m : MapAt wr p g n f
  r : RowAt wr rv rb n f
  hp : w.heap.size ≤ p
  hg : w.heap.size ≤ g
  k : Keeps nowhere w wr
theorem stand_ne {w : World} {p g n : Nat} {f f' : Nat → Bool} {rv : Value} {rb : Nat} (hm : MapAt w p g n f) (hr : RowAt w rv rb n f') : ¬ only2 p (some g) rb := by
  obtain ⟨cap, rest, h1, h2, _⟩ := hm.own
  obtain ⟨cap', rest', _, h3, _⟩ := hr
  rintro (e | e)
  · exact (h1.ne_ h3 (by decide)) e.symm
  · injection e with e
    exact (h2.ne_ h3 (by decide)) e.symm
theorem Stand.alloc {w wr : World} {p g n : Nat} {f : Nat → Bool} {rv : Value} {rb : Nat} (h : Stand w wr p g n f rv rb) (o : Obj) : Stand w (wr.alloc o) p g n f rv rb :=
  have hk : Keeps nowhere wr (wr.alloc o) := (Keeps.refl _ _).alloc o
  ⟨h.m.keep hk (fun h => h) (fun h => h), h.r.keep hk (fun h => h), h.hp, h.hg, h.k.more hk⟩
/-- the map has gone on, the row is to follow -/
structure Ahead (w wr : World) (p g n : Nat) (f f' : Nat → Bool) (rv : Value) (rb : Nat) : Prop where
  m : MapAt wr p g n f'
  r : RowAt wr rv rb n f
  hp : w.heap.size ≤ p
  hg : w.heap.size ≤ g
  k : Keeps nowhere w wr
theorem Stand.ahead {w wr w2 : World} {p g n : Nat} {f f' : Nat → Bool} {rv : Value} {rb : Nat} (h : Stand w wr p g n f rv rb) (hm : MapAt w2 p g n f') (hk : Keeps (only2 p (some g)) wr w2) : Ahead w w2 p g n f f' rv rb :=
  ⟨hm, h.r.keep hk (stand_ne h.m h.r), h.hp, h.hg, keep2 h.k h.hp h.hg hk⟩
theorem Ahead.same {w wr : World} {p g n : Nat} {f : Nat → Bool} {rv : Value} {rb : Nat} (h : Ahead w wr p g n f f rv rb) : Stand w wr p g n f rv rb := ⟨h.m, h.r, h.hp, h.hg, h.k⟩
theorem Ahead.put {w wr w2 : World} {p g n : Nat} {f f' : Nat → Bool} {rv rv' : Value} {rb rb' : Nat} (h : Ahead w wr p g n f f' rv rb) (hr : RowAt w2 rv' rb' n f') (hk : Keeps nowhere wr w2) : Stand w w2 p g n f' rv' rb' :=
  ⟨h.m.keep hk (fun h => h) (fun h => h), hr, h.hp, h.hg, h.k.more hk⟩
theorem Stand.keep {w wr w2 : World} {p g n : Nat} {f : Nat → Bool} {rv : Value} {rb : Nat} (h : Stand w wr p g n f rv rb) (hk : Keeps nowhere wr w2) : Stand w w2 p g n f rv rb :=
  ⟨h.m.keep hk (fun h => h) (fun h => h), h.r.keep hk (fun h => h), h.hp, h.hg, h.k.more hk⟩
/-- a call's two cells in the block `q` -/
def ActBox (w : World) (q : Nat) (o N : Int) : Prop := Blk w q 76 #[.int .i64 o, .int .i64 N]
theorem ActBox.c0 {w : World} {q : Nat} {o N : Int} (h : ActBox w q o N) : w.cell? ⟨q, 0, none⟩ = some (.int .i64 o) := by simpa using Blk.cell h 0
theorem ActBox.c1 {w : World} {q : Nat} {o N : Int} (h : ActBox w q o N) : w.cell? ⟨q, 1, none⟩ = some (.int .i64 N) := by simpa using Blk.cell h 1
theorem ActBox.keep2 {w w2 : World} {q p g n : Nat} {o N : Int} {f : Nat → Bool} (h : ActBox w q o N) (hm : MapAt w p g n f) (hk : Keeps (only2 p (some g)) w w2) : ActBox w2 q o N := by
  refine Blk.keep h hk ?_
  obtain ⟨cap, rest, h1, h2, _⟩ := hm.own
  rintro (e | e)
  · exact (h1.ne_ h (by decide)) e.symm
  · injection e with e
    exact (h2.ne_ h (by decide)) e.symm

set_option maxRecDepth 10000 in
set_option maxHeartbeats 8000000 in
theorem mplays_ok (A : Option Addr) (l : List Act9) (c n : Nat) (w : World) (hA : ActArr w A l) (hl : ¬ 80 < l.length) (h1 : 1 ≤ n) (h2 : n ≤ 300) :
    Calls Try.prog 11 #[.int .i64 n, .slice A l.length c] w (YesM w) := by
  obtain ⟨L, hL⟩ : ∃ L, L = l.length := ⟨_, rfl⟩
  have h2' : ¬ (80 : Int) < L := by omega
  obtain ⟨i0, hi, hz0, hz1, hz2⟩ := info_parts infoBool
  rw [← hL]
  have HA := Lib.hid hA
  have HL := Lib.hid hL
  clear hA hL
  go_enter Try.func11, Try.ntmps11
  go_wp2_with fail
  refine (known9 _).mono ?_
  rintro e w0 ⟨rfl, hk0⟩
  have Hk0 := Lib.hid hk0
  clear hk0
  go_wp2_with fail
  refine (new_ok n _ h1 (by omega)).mono ?_
  rintro e w1 ⟨p, g, rfl, hp, hg, hm, hk1⟩
  have hk2 := Hk0.out.more hk1
  have hp0 := Nat.le_trans Hk0.out.size hp
  have hg0 := Nat.le_trans Hk0.out.size hg
  clear hk1 hp hg
  unfold mp
  have Hm := Lib.hid hm
  have Hk2 := Lib.hid hk2
  have Hp0 := Lib.hid hp0
  have Hg0 := Lib.hid hg0
  clear hm hk2 hp0 hg0
  go_wp2_with (at_make; refine wpList_make_full _ rfl _ _ 74 rfl w1.heap.size 4 i0 (.bool false) 1 Try.underlying74 hi hz0 hz1 .i64 .i64 _ _ n rfl rfl rfl rfl (by rw [hz2]; omega) (by unfold maxLen; omega) (Nat.le_refl _) ?_)
  intro w2 hown hgrow
  rw [made_rows] at hown
  obtain ⟨rest, hb, h3, h4, h5⟩ := own_blk hown
  have hk3 : Keeps nowhere w1 w2 := (Keeps.refl _ w1).grown hgrow (fun _ h => by cases h)
  have hst : Stand w w2 p g n (fun _ => false) (.slice (some ⟨w1.heap.size, 0, none⟩) n n) w1.heap.size :=
    ⟨Hm.out.keep hk3 (fun h => h) (fun h => h), ⟨_, rest, rfl, hb, h3, h4⟩, Hp0.out, Hg0.out, Hk2.out.more hk3⟩
  clear hown hgrow hb h3 h4 h5 hk3 hi hz0 hz1 hz2
  clear Hm Hk2 Hp0 Hg0 Hk0
  have Hst := Lib.hid hst
  clear hst
  go_wp2_with fail
  go_loopw [5, 8, 9] (fun mv rv iv wr => ∃ (i p g rb : Nat) (f : Nat → Bool), iv = .int .i64 i ∧ i ≤ L ∧ mv = mp p ∧ Stand w wr p g n f rv rb) (fun _ _ iv _ => L - (intOf iv).toNat)
  case atStart => exact ⟨0, p, g, _, _, rfl, Nat.zero_le _, rfl, Hst.out⟩
  case round =>
    clear Hst
    obtain ⟨i, p, g, rb, f, rfl, hi, rfl, hst⟩ := hrel
    unfold mp
    by_cases hlt : i < L
    · have hltI : (i : Int) < L := by omega
      have hi1 : IntKind.i64.wrap ((i : Int) + 1) = i + 1 := IntWalk.i64_in _ (by omega)
      obtain ⟨b, off, rfl, hbw, hcells⟩ := HA.out (by rw [← HL.out]; omega)
      obtain ⟨⟨o, N⟩, ht⟩ : ∃ t, l[i]? = some t := ⟨l[i]'(by rw [← HL.out]; exact hlt), List.getElem?_eq_getElem _⟩
      obtain ⟨hok, d0, d1⟩ := hcells i _ ht
      have d0 := (hst.k.cell (p := ⟨b, off + i * 2, none⟩) hbw (fun h => h)).trans d0
      have d1 := (hst.k.cell (p := ⟨b, off + i * 2 + 1, none⟩) hbw (fun h => h)).trans d1
      have hi0 : (0 : Int) ≤ (i : Int) := by omega
      have hst1 := hst.alloc (.cells #[.int .i64 o, .int .i64 N] 76)
      have hbx : ActBox (wr.alloc (.cells #[.int .i64 o, .int .i64 N] 76)) wr.heap.size o N := Blk.new _ _ _
      obtain ⟨cap, rfl, hrlt, hrc⟩ := hst.r.cells
      have hok1 : -9223372036854775808 ≤ N ∧ N ≤ 9223372036854775807 := hok
      clear hcells ht hok
      have Hst := Lib.hid hst
      have Hst1 := Lib.hid hst1
      have Hbx := Lib.hid hbx
      have Hrc := Lib.hid hrc
      clear hst hst1 hbx hrc
      have hsg : N < 0 ∨ 0 ≤ N := by omega
      by_cases o1 : o = 1
      · as_aux_lemma =>
          rcases hsg with hs | hs
          · subst o1
            go_wp2_with fail
            refine (take_any _ p g n f Hst1.out.m).mono ?_
            rintro e w3 ⟨f1, hr, hm3, hk3⟩
            have hah := Hst1.out.ahead hm3 hk3
            clear hm3 hk3
            have Hah := Lib.hid hah
            clear hah
            rcases hr with ⟨x, hx, rfl, rfl⟩ | ⟨hno, rfl, he⟩
            · have hxn := hx.1.1
              obtain ⟨cap3, hcap3, -, hrc3⟩ := Hah.out.r.cells
              have hrc3' : ∀ j, j < n → w3.cell? ⟨rb, 0 + j, none⟩ = some (.bool (f j)) := fun j hj => by rw [Nat.zero_add]; exact hrc3 j hj
              clear hrc3 hcap3
              have Hrc3' := Lib.hid hrc3'
              clear hrc3'
              have Hx := Lib.hid hx
              clear hx
              go_wp2_with fail
              refine (lfree_any rb 0 n cap 1 f _ (by omega) (by omega) Hrc3'.out).mono ?_
              rintro e w4 ⟨hf, rfl⟩
              rcases hf with ⟨y, hy, rfl⟩ | ⟨hno, _⟩
              case inr => exact absurd Hx.out.1 (hno x)
              obtain rfl := least_unique Hx.out hy
              clear hy
              go_wp2_with fail
              refine (put9_any _ rb n x 1 true f _ Hah.out.r h1 (by omega) (by omega)).mono ?_
              rintro e w5 ⟨v5, rb5, rfl, hr5, hrb5, hk5⟩
              rw [fillV_true] at hr5
              have hst5 := Hah.out.put hr5 hk5
              clear hr5 hk5 hrb5
              have Hst5 := Lib.hid hst5
              clear hst5
              go_wp2_with fail
              go_roundw
              case rel => exact ⟨i + 1, p, g, rb5, _, by simp, by omega, rfl, Hst5.out⟩
              case measure => simp [intOf]; omega
            · obtain rfl := he.symm
              obtain ⟨cap3, hcap3, -, hrc3⟩ := Hah.out.r.cells
              have hrc3' : ∀ j, j < n → w3.cell? ⟨rb, 0 + j, none⟩ = some (.bool (f j)) := fun j hj => by rw [Nat.zero_add]; exact hrc3 j hj
              clear hrc3 hcap3
              have Hrc3' := Lib.hid hrc3'
              clear hrc3'
              have Hno := Lib.hid hno
              clear hno
              go_wp2_with fail
              refine (lfree_any rb 0 n cap 1 f _ (by omega) (by omega) Hrc3'.out).mono ?_
              rintro e w4 ⟨hf, rfl⟩
              rcases hf with ⟨y, hy, _⟩ | ⟨_, rfl⟩
              case inl => exact absurd hy.1 (Hno.out y)
              go_wp2_with fail
              go_roundw
              case rel => exact ⟨i + 1, p, g, rb, _, by simp, by omega, rfl, Hah.out.same⟩
              case measure => simp [intOf]; omega
          · subst o1
            go_wp2_with fail
            refine (take_any _ p g n f Hst1.out.m).mono ?_
            rintro e w3 ⟨f1, hr, hm3, hk3⟩
            have hah := Hst1.out.ahead hm3 hk3
            clear hm3 hk3
            have Hah := Lib.hid hah
            clear hah
            rcases hr with ⟨x, hx, rfl, rfl⟩ | ⟨hno, rfl, he⟩
            · have hxn := hx.1.1
              obtain ⟨cap3, hcap3, -, hrc3⟩ := Hah.out.r.cells
              have hrc3' : ∀ j, j < n → w3.cell? ⟨rb, 0 + j, none⟩ = some (.bool (f j)) := fun j hj => by rw [Nat.zero_add]; exact hrc3 j hj
              clear hrc3 hcap3
              have Hrc3' := Lib.hid hrc3'
              clear hrc3'
              have Hx := Lib.hid hx
              clear hx
              go_wp2_with fail
              refine (lfree_any rb 0 n cap 1 f _ (by omega) (by omega) Hrc3'.out).mono ?_
              rintro e w4 ⟨hf, rfl⟩
              rcases hf with ⟨y, hy, rfl⟩ | ⟨hno, _⟩
              case inr => exact absurd Hx.out.1 (hno x)
              obtain rfl := least_unique Hx.out hy
              clear hy
              go_wp2_with fail
              refine (put9_any _ rb n x 1 true f _ Hah.out.r h1 (by omega) (by omega)).mono ?_
              rintro e w5 ⟨v5, rb5, rfl, hr5, hrb5, hk5⟩
              rw [fillV_true] at hr5
              have hst5 := Hah.out.put hr5 hk5
              clear hr5 hk5 hrb5
              have Hst5 := Lib.hid hst5
              clear hst5
              go_wp2_with fail
              go_roundw
              case rel => exact ⟨i + 1, p, g, rb5, _, by simp, by omega, rfl, Hst5.out⟩
              case measure => simp [intOf]; omega
            · obtain rfl := he.symm
              obtain ⟨cap3, hcap3, -, hrc3⟩ := Hah.out.r.cells
              have hrc3' : ∀ j, j < n → w3.cell? ⟨rb, 0 + j, none⟩ = some (.bool (f j)) := fun j hj => by rw [Nat.zero_add]; exact hrc3 j hj
              clear hrc3 hcap3
              have Hrc3' := Lib.hid hrc3'
              clear hrc3'
              have Hno := Lib.hid hno
              clear hno
              go_wp2_with fail
              refine (lfree_any rb 0 n cap 1 f _ (by omega) (by omega) Hrc3'.out).mono ?_
              rintro e w4 ⟨hf, rfl⟩
              rcases hf with ⟨y, hy, _⟩ | ⟨_, rfl⟩
              case inl => exact absurd hy.1 (Hno.out y)
              go_wp2_with fail
              go_roundw
              case rel => exact ⟨i + 1, p, g, rb, _, by simp, by omega, rfl, Hah.out.same⟩
              case measure => simp [intOf]; omega
      by_cases o2 : o = 2
      · as_aux_lemma =>
          subst o2
          by_cases hN : N < 1
          · rcases hsg with hs | hs
            · go_wp2_with fail
              refine (run_bad _ p N hN).mono ?_
              rintro e w3 ⟨rfl, rfl⟩
              go_wp2_with fail
              go_roundw
              case rel => exact ⟨i + 1, p, g, rb, _, by simp, by omega, rfl, Hst1.out⟩
              case measure => simp [intOf]; omega
            · go_wp2_with fail
              refine (run_bad _ p N hN).mono ?_
              rintro e w3 ⟨rfl, rfl⟩
              go_wp2_with fail
              go_roundw
              case rel => exact ⟨i + 1, p, g, rb, _, by simp, by omega, rfl, Hst1.out⟩
              case measure => simp [intOf]; omega
          · obtain ⟨K, rfl⟩ := Int.eq_ofNat_of_zero_le (show 0 ≤ N by omega)
            have hK1 : 1 ≤ K := by omega
            have hN1 : (1 : Int) ≤ K := by omega
            go_wp2_with fail
            refine (run_any _ p g n K f Hst1.out.m hK1 (by omega)).mono ?_
            rintro e w3 ⟨f1, hr, hm3, hk3⟩
            have c1 := (Hbx.out.keep2 Hst1.out.m hk3).c1
            have hah := Hst1.out.ahead hm3 hk3
            clear hm3 hk3
            have Hah := Lib.hid hah
            clear hah
            by_cases hKn : K ≤ n
            · have hKI : (K : Int) ≤ n := by omega
              rcases hr with ⟨x, hx, rfl, rfl⟩ | ⟨hno, rfl, he⟩
              · have hxn := hx.1.1
                obtain ⟨cap3, hcap3, -, hrc3⟩ := Hah.out.r.cells
                have hrc3' : ∀ j, j < n → w3.cell? ⟨rb, 0 + j, none⟩ = some (.bool (f j)) := fun j hj => by rw [Nat.zero_add]; exact hrc3 j hj
                clear hrc3 hcap3
                have Hrc3' := Lib.hid hrc3'
                clear hrc3'
                have Hx := Lib.hid hx
                clear hx
                go_wp2_with fail
                refine (lfree_any rb 0 n cap K f _ (by omega) (by omega) Hrc3'.out).mono ?_
                rintro e w4 ⟨hf, rfl⟩
                rcases hf with ⟨y, hy, rfl⟩ | ⟨hno, _⟩
                case inr => exact absurd Hx.out.1 (hno x)
                obtain rfl := least_unique Hx.out hy
                clear hy
                go_wp2_with fail
                refine (put9_any _ rb n x K true f _ Hah.out.r h1 (by omega) (by omega)).mono ?_
                rintro e w5 ⟨v5, rb5, rfl, hr5, hrb5, hk5⟩
                rw [fillV_true] at hr5
                have hst5 := Hah.out.put hr5 hk5
                clear hr5 hk5 hrb5
                have Hst5 := Lib.hid hst5
                clear hst5
                go_wp2_with fail
                go_roundw
                case rel => exact ⟨i + 1, p, g, rb5, _, by simp, by omega, rfl, Hst5.out⟩
                case measure => simp [intOf]; omega
              · obtain rfl := he.symm
                obtain ⟨cap3, hcap3, -, hrc3⟩ := Hah.out.r.cells
                have hrc3' : ∀ j, j < n → w3.cell? ⟨rb, 0 + j, none⟩ = some (.bool (f j)) := fun j hj => by rw [Nat.zero_add]; exact hrc3 j hj
                clear hrc3 hcap3
                have Hrc3' := Lib.hid hrc3'
                clear hrc3'
                have Hno := Lib.hid hno
                clear hno
                go_wp2_with fail
                refine (lfree_any rb 0 n cap K f _ (by omega) (by omega) Hrc3'.out).mono ?_
                rintro e w4 ⟨hf, rfl⟩
                rcases hf with ⟨y, hy, _⟩ | ⟨_, rfl⟩
                case inl => exact absurd hy.1 (Hno.out y)
                go_wp2_with fail
                go_roundw
                case rel => exact ⟨i + 1, p, g, rb, _, by simp, by omega, rfl, Hah.out.same⟩
                case measure => simp [intOf]; omega
            · have hKI : ¬ (K : Int) ≤ n := by omega
              obtain ⟨rfl, rfl⟩ := run_none hr (fun i hr => by have := hr.1; omega)
              go_wp2_with fail
              go_roundw
              case rel => exact ⟨i + 1, p, g, rb, _, by simp, by omega, rfl, Hah.out.same⟩
              case measure => simp [intOf]; omega
      by_cases o3 : o = 3
      · as_aux_lemma =>
          subst o3
          by_cases hin : 0 ≤ N ∧ N < n
          · obtain ⟨j, rfl⟩ := Int.eq_ofNat_of_zero_le hin.1
            have hjn : j < n := by omega
            have hj0 : (0 : Int) ≤ j := hin.1
            have hj1 : (j : Int) < n := hin.2
            clear hin
            go_wp2_with fail
            refine (set_any _ p g n f j Hst1.out.m).mono ?_
            rintro e w3 ⟨rfl, hm3, hk3⟩
            rw [setM_in _ hjn] at hm3
            rw [show (inM n (j : Int) && !hasM f (j : Int)) = !f j by rw [hasM_nat, show inM n (j : Int) = true from decide_eq_true ⟨hj0, hj1⟩]; rfl]
            have c1 := (Hbx.out.keep2 Hst1.out.m hk3).c1
            have hah := Hst1.out.ahead hm3 hk3
            clear hm3 hk3
            have Hah := Lib.hid hah
            clear hah
            obtain ⟨cap3, hcap3, -, hrc3⟩ := Hah.out.r.cells
            have cj := hrc3 j hjn
            clear hrc3 hcap3
            cases hfj : f j
            all_goals
              rw [hfj] at cj
              go_wp2_with fail
              refine (put9_any _ rb n j 1 true f _ Hah.out.r h1 (by omega) (by omega)).mono ?_
              rintro e w5 ⟨v5, rb5, rfl, hr5, hrb5, hk5⟩
              rw [fillV_one] at hr5
              have Hst5 := Lib.hid (Hah.out.put hr5 hk5)
              clear hr5 hk5 hrb5
              go_wp2_with fail
              go_roundw
              case rel => exact ⟨i + 1, p, g, rb5, _, by simp, by omega, rfl, Hst5.out⟩
              case measure => simp [intOf]; omega
          · have hin2 : N < 0 ∨ (0 ≤ N ∧ ¬ N < n) := by omega
            rcases hin2 with hs | ⟨hs, hs2⟩
            all_goals
              go_wp2_with fail
              refine (set_any _ p g n f N Hst1.out.m).mono ?_
              rintro e w3 ⟨rfl, hm3, hk3⟩
              have hin3 : inM n N = false := decide_eq_false hin
              rw [show setM n f N true = f by rw [setM, hin3]; rfl] at hm3
              rw [hin3, Bool.false_and]
              have c1 := (Hbx.out.keep2 Hst1.out.m hk3).c1
              have Hah := Lib.hid (Hst1.out.ahead hm3 hk3)
              clear hm3 hk3
              go_wp2_with fail
              go_roundw
              case rel => exact ⟨i + 1, p, g, rb, _, by simp, by omega, rfl, Hah.out.same⟩
              case measure => simp [intOf]; omega
      by_cases o4 : o = 4
      · as_aux_lemma =>
          subst o4
          by_cases hin : 0 ≤ N ∧ N < n
          · obtain ⟨j, rfl⟩ := Int.eq_ofNat_of_zero_le hin.1
            have hjn : j < n := by omega
            have hj0 : (0 : Int) ≤ j := hin.1
            have hj1 : (j : Int) < n := hin.2
            clear hin
            go_wp2_with fail
            refine (clear_any _ p g n f j Hst1.out.m).mono ?_
            rintro e w3 ⟨rfl, hm3, hk3⟩
            replace hm3 : MapAt w3 p g n (upd f j false) := by
              rw [hasM_nat] at hm3
              by_cases hfj : f j = true
              · rw [if_pos hfj, setM_in _ hjn] at hm3; exact hm3
              · rw [if_neg hfj] at hm3; rw [upd_eq f (by simpa using hfj)]; exact hm3
            rw [hasM_nat]
            have c1 := (Hbx.out.keep2 Hst1.out.m hk3).c1
            have hah := Hst1.out.ahead hm3 hk3
            clear hm3 hk3
            have Hah := Lib.hid hah
            clear hah
            obtain ⟨cap3, hcap3, -, hrc3⟩ := Hah.out.r.cells
            have cj := hrc3 j hjn
            clear hrc3 hcap3
            cases hfj : f j
            all_goals
              rw [hfj] at cj
              go_wp2_with fail
              refine (put9_any _ rb n j 1 false f _ Hah.out.r h1 (by omega) (by omega)).mono ?_
              rintro e w5 ⟨v5, rb5, rfl, hr5, hrb5, hk5⟩
              rw [fillV_one] at hr5
              have Hst5 := Lib.hid (Hah.out.put hr5 hk5)
              clear hr5 hk5 hrb5
              go_wp2_with fail
              go_roundw
              case rel => exact ⟨i + 1, p, g, rb5, _, by simp, by omega, rfl, Hst5.out⟩
              case measure => simp [intOf]; omega
          · have hin2 : N < 0 ∨ (0 ≤ N ∧ ¬ N < n) := by omega
            rcases hin2 with hs | ⟨hs, hs2⟩
            all_goals
              go_wp2_with fail
              refine (clear_any _ p g n f N Hst1.out.m).mono ?_
              rintro e w3 ⟨rfl, hm3, hk3⟩
              have hF : hasM f N = false := by
                unfold hasM
                by_cases h0 : 0 ≤ N
                · rw [Hst1.out.m.off N.toNat (by omega)]; simp
                · simp [h0]
              rw [hF] at hm3 ⊢
              rw [if_neg (by simp)] at hm3
              clear hF
              have c1 := (Hbx.out.keep2 Hst1.out.m hk3).c1
              have Hah := Lib.hid (Hst1.out.ahead hm3 hk3)
              clear hm3 hk3
              go_wp2_with fail
              go_roundw
              case rel => exact ⟨i + 1, p, g, rb, _, by simp, by omega, rfl, Hah.out.same⟩
              case measure => simp [intOf]; omega
      by_cases o5 : o = 5
      · as_aux_lemma =>
          rcases hsg with hs | hs
          · subst o5
            go_wp2_with fail
            refine (twin_any _ p g n f Hst1.out.m).mono ?_
            rintro e w3 ⟨p2, g2, rfl, hp2, hg2, hm3, hk3⟩
            have hst3 := Hst1.out.keep hk3
            have hpg := Hst1.out.m.lt
            have hp2' := Nat.le_trans Hst1.out.k.size hp2
            have hg2' := Nat.le_trans Hst1.out.k.size hg2
            clear hk3
            unfold mp
            have Hst3 := Lib.hid hst3
            have Hm3 := Lib.hid hm3
            clear hst3 hm3
            go_wp2_with fail
            refine (run_any _ p g n 1 f Hst3.out.m (by omega) (by omega)).mono ?_
            rintro e w4 ⟨f4, hr4, hm4, hk4⟩
            have hr4' : ∃ v, e = .returned v := by
              rcases hr4 with ⟨x, _, rfl, _⟩ | ⟨_, rfl, _⟩ <;> exact ⟨_, rfl⟩
            obtain ⟨v4, rfl⟩ := hr4'
            clear hr4
            have hah := Hst3.out.ahead hm4 hk4
            have hm5 := Hm3.out.keep hk4 (by rintro (e | e) <;> first | omega | (injection e with e; omega)) (by rintro (e | e) <;> first | omega | (injection e with e; omega))
            clear hm4 hk4
            have Hah := Lib.hid hah
            have Hm5 := Lib.hid hm5
            clear hah hm5
            go_wp2_with fail
            refine (set_any _ p g n f4 0 Hah.out.m).mono ?_
            rintro e w5 ⟨rfl, hm6, hk6⟩
            have hst6 : Stand w w5 p2 g2 n f _ rb := ⟨Hm5.out.keep hk6 (by rintro (e | e) <;> first | omega | (injection e with e; omega)) (by rintro (e | e) <;> first | omega | (injection e with e; omega)),
              Hah.out.r.keep hk6 (stand_ne Hah.out.m Hah.out.r), hp2', hg2', keep2 Hah.out.k Hah.out.hp Hah.out.hg hk6⟩
            clear hm6 hk6
            have Hst6 := Lib.hid hst6
            clear hst6

            go_wp2_with fail
            go_roundw
            case rel => exact ⟨i + 1, p2, g2, rb, _, by simp, by omega, rfl, Hst6.out⟩
            case measure => simp [intOf]; omega
          · subst o5
            go_wp2_with fail
            refine (twin_any _ p g n f Hst1.out.m).mono ?_
            rintro e w3 ⟨p2, g2, rfl, hp2, hg2, hm3, hk3⟩
            have hst3 := Hst1.out.keep hk3
            have hpg := Hst1.out.m.lt
            have hp2' := Nat.le_trans Hst1.out.k.size hp2
            have hg2' := Nat.le_trans Hst1.out.k.size hg2
            clear hk3
            unfold mp
            have Hst3 := Lib.hid hst3
            have Hm3 := Lib.hid hm3
            clear hst3 hm3
            go_wp2_with fail
            refine (run_any _ p g n 1 f Hst3.out.m (by omega) (by omega)).mono ?_
            rintro e w4 ⟨f4, hr4, hm4, hk4⟩
            have hr4' : ∃ v, e = .returned v := by
              rcases hr4 with ⟨x, _, rfl, _⟩ | ⟨_, rfl, _⟩ <;> exact ⟨_, rfl⟩
            obtain ⟨v4, rfl⟩ := hr4'
            clear hr4
            have hah := Hst3.out.ahead hm4 hk4
            have hm5 := Hm3.out.keep hk4 (by rintro (e | e) <;> first | omega | (injection e with e; omega)) (by rintro (e | e) <;> first | omega | (injection e with e; omega))
            clear hm4 hk4
            have Hah := Lib.hid hah
            have Hm5 := Lib.hid hm5
            clear hah hm5
            go_wp2_with fail
            refine (set_any _ p g n f4 0 Hah.out.m).mono ?_
            rintro e w5 ⟨rfl, hm6, hk6⟩
            have hst6 : Stand w w5 p2 g2 n f _ rb := ⟨Hm5.out.keep hk6 (by rintro (e | e) <;> first | omega | (injection e with e; omega)) (by rintro (e | e) <;> first | omega | (injection e with e; omega)),
              Hah.out.r.keep hk6 (stand_ne Hah.out.m Hah.out.r), hp2', hg2', keep2 Hah.out.k Hah.out.hp Hah.out.hg hk6⟩
            clear hm6 hk6
            have Hst6 := Lib.hid hst6
            clear hst6

            go_wp2_with fail
            go_roundw
            case rel => exact ⟨i + 1, p2, g2, rb, _, by simp, by omega, rfl, Hst6.out⟩
            case measure => simp [intOf]; omega
      by_cases o6 : o = 6
      · as_aux_lemma =>
          rcases hsg with hs | hs
          · subst o6
            go_wp2_with fail
            refine (bytes_any _ p g n f Hst1.out.m).mono ?_
            rintro e w3 ⟨vb, gb, rfl, hrb, hgb, hk3⟩
            have hst3 := Hst1.out.keep hk3
            clear hgb hk3
            have Hst3 := Lib.hid hst3
            have Hrb := Lib.hid hrb
            clear hst3 hrb
            go_wp2_with fail
            refine (load_any _ _ _ n _ Hrb.out h1 (by omega)).mono ?_
            rintro e w4 hl4
            rcases hl4 with ⟨_, q, h, rfl, hq, hh, hx, hk8⟩ | ⟨hno, _⟩
            case inr => exact absurd (form_bytes Hst3.out.m.off) hno
            rw [bitF_bytes Hst3.out.m.off] at hx
            have hst6 : Stand w w4 q h n f _ rb := ⟨hx, Hst3.out.r.keep hk8 (fun h => h), Nat.le_trans Hst3.out.k.size hq, Nat.le_trans Hst3.out.k.size hh, Hst3.out.k.more hk8⟩
            clear hx hk8 hq hh
            unfold mp
            have Hst6 := Lib.hid hst6
            clear hst6

            go_wp2_with fail
            go_roundw
            case rel => exact ⟨i + 1, q, h, rb, _, by simp, by omega, rfl, Hst6.out⟩
            case measure => simp [intOf]; omega
          · subst o6
            go_wp2_with fail
            refine (bytes_any _ p g n f Hst1.out.m).mono ?_
            rintro e w3 ⟨vb, gb, rfl, hrb, hgb, hk3⟩
            have hst3 := Hst1.out.keep hk3
            clear hgb hk3
            have Hst3 := Lib.hid hst3
            have Hrb := Lib.hid hrb
            clear hst3 hrb
            go_wp2_with fail
            refine (load_any _ _ _ n _ Hrb.out h1 (by omega)).mono ?_
            rintro e w4 hl4
            rcases hl4 with ⟨_, q, h, rfl, hq, hh, hx, hk8⟩ | ⟨hno, _⟩
            case inr => exact absurd (form_bytes Hst3.out.m.off) hno
            rw [bitF_bytes Hst3.out.m.off] at hx
            have hst6 : Stand w w4 q h n f _ rb := ⟨hx, Hst3.out.r.keep hk8 (fun h => h), Nat.le_trans Hst3.out.k.size hq, Nat.le_trans Hst3.out.k.size hh, Hst3.out.k.more hk8⟩
            clear hx hk8 hq hh
            unfold mp
            have Hst6 := Lib.hid hst6
            clear hst6

            go_wp2_with fail
            go_roundw
            case rel => exact ⟨i + 1, q, h, rb, _, by simp, by omega, rfl, Hst6.out⟩
            case measure => simp [intOf]; omega
      have e1 : (o == 1) = false := by simpa using o1
      have e2 : (o == 2) = false := by simpa using o2
      have e3 : (o == 3) = false := by simpa using o3
      have e4 : (o == 4) = false := by simpa using o4
      have e5 : (o == 5) = false := by simpa using o5
      have e6 : (o == 6) = false := by simpa using o6
      rcases hsg with hs | hs
      · go_wp2_with fail
        go_roundw
        case rel => exact ⟨i + 1, p, g, rb, _, by simp, by omega, rfl, Hst1.out⟩
        case measure => simp [intOf]; omega
      · go_wp2_with fail
        go_roundw
        case rel => exact ⟨i + 1, p, g, rb, _, by simp, by omega, rfl, Hst1.out⟩
        case measure => simp [intOf]; omega
    · as_aux_lemma =>
        obtain rfl : i = L := by omega
        have hr := hst.r.rd
        obtain ⟨cap, rfl, hrlt, hrc⟩ := hst.r.cells
        clear hr
        have Hst := Lib.hid hst
        have Hrc := Lib.hid hrc
        clear hst hrc
        go_wp2_with fail
        go_loopw [21, 22] (fun cv xv w2 => ∃ x : Nat, xv = .int .i64 x ∧ x ≤ n ∧ cv = .int .i64 (cntF f x) ∧ Keeps nowhere wr w2) (fun _ xv _ => n - (intOf xv).toNat)
        case atStart => exact ⟨0, rfl, Nat.zero_le _, rfl, Keeps.refl _ _⟩
        case round =>
          obtain ⟨x, rfl, hx, rfl, hkx⟩ := hrel
          by_cases hxn : x < n
          · have hxI : (x : Int) < n := by omega
            have hx0 : (0 : Int) ≤ x := by omega
            have hx1 : IntKind.i64.wrap ((x : Int) + 1) = x + 1 := IntWalk.i64_in _ (by omega)
            have hcl := cntF_le f x
            have hcw : IntKind.i64.wrap ((cntF f x : Int) + 1) = (cntF f x : Int) + 1 := IntWalk.i64_in _ (by omega)
            have hcx : ∀ w', w' = wr.drew → w'.cell? ⟨rb, x, none⟩ = some (.bool (f x)) := fun w' e => by
              rw [e]; exact (hkx.cell (p := ⟨rb, x, none⟩) hrlt (fun h => h)).trans (Hrc.out x hxn)
            have hcx2 : wr.cell? ⟨rb, x, none⟩ = some (.bool (f x)) := hcx wr.drew rfl
            have hm := Hst.out.m.keep hkx (fun h => h) (fun h => h)
            have hH := has_any wr.drew p g n f x hm.drew
            rw [hasM_nat] at hH
            unfold mp at hH
            have hcs : cntF f (x + 1) = cntF f x + (if f x then 0 else 1) := rfl
            have Hm := Lib.hid hm
            have Hkx := Lib.hid hkx
            have Hcs := Lib.hid hcs
            clear hm hkx hcs
            generalize cntF f x = C at *
            cases hf : f x
            all_goals
              rw [hf] at hcx hcx2 hH
              go_wp2_with fail
              refine wp_region_script [0, 1, 3, 4, 5, 6, 7] [6] [.ps [0, 1, 3, 4, 5], .fs [6], .es [2] true, .ps [7]] (fun w' => w' = wr.drew) rfl (by kernel_rfl) ?_
              refine wpS_ps rfl fun K hK => ?_
              simp only [List.map_cons, List.map_nil, Option.getD_some, List.getElem?_toArray, List.getElem?_cons_zero, List.getElem?_cons_succ]
              iterate 5 (first | (apply quietO_cons _ rfl; (intro w' _; go_simp; rfl)) | apply quietO_skip rfl)
              refine hK _ ?_
              clear hK K
              simp only [Act.put, List.setIfInBounds_toArray, List.set_cons_zero, List.set_cons_succ]
              refine wpS_fs rfl (rfl) fun K hK => ?_
              simp only [List.map_cons, List.map_nil, Option.getD_some, List.getElem?_toArray, List.getElem?_cons_zero, List.getElem?_cons_succ]
              iterate 1 (first | (apply quietO_cons _ rfl; (intro w' hs; have c_0 := hcx w' hs; go_simp; rfl)) | apply quietO_skip rfl)
              refine hK _ ?_
              clear hK K
              simp only [Act.put, List.setIfInBounds_toArray, List.set_cons_zero, List.set_cons_succ]
              clear hcx
              refine wpS_es rfl fun K hK => ?_
              have HK := Lib.hid hK
              clear hK
              simp only [List.map_cons, List.map_nil, Option.getD_some, List.getElem?_toArray, List.getElem?_cons_zero, List.getElem?_cons_succ]
              go_wp2_with fail
              refine hH.mono ?_
              rintro e w3 ⟨rfl, rfl⟩
              go_wp2_with fail
              refine HK.out _ _ (fun _ => rfl) ?_
              clear HK K
              refine wpS_ps rfl fun K hK => ?_
              simp only [List.map_cons, List.map_nil, Option.getD_some, List.getElem?_toArray, List.getElem?_cons_zero, List.getElem?_cons_succ]
              iterate 1 (first | (apply quietO_cons _ rfl; (intro w' _; go_simp; rfl)) | apply quietO_skip rfl)
              refine hK _ ?_
              clear hK K
              simp only [Act.put, List.setIfInBounds_toArray, List.set_cons_zero, List.set_cons_succ]
              refine wpS_nil ?_
              go_wp2_with fail
              go_roundw
              case rel => exact ⟨x + 1, by simp, by omega, by rw [Hcs.out, hf]; simp, Hkx.out.drew⟩
              case measure => simp [intOf]; omega
          · obtain rfl : x = n := by omega
            have hm := Hst.out.m.keep hkx (fun h => h) (fun h => h)
            have hkw := Hst.out.k.more hkx
            have hF := free_any wr p g x f hm
            have hH1 := has_any wr p g x f (-1) hm
            have hH2 := has_any wr p g x f x hm
            rw [hasM_nat, hm.off x (Nat.le_refl _)] at hH2
            rw [show hasM f (-1) = false from rfl] at hH1
            unfold mp at hF hH1 hH2
            generalize cntF f x = C at *
            have Hm := Lib.hid hm
            have Hkx := Lib.hid hkx
            have Hkw := Lib.hid hkw
            clear hm hkx hkw
            go_wp2_with fail
            refine hF.mono ?_
            rintro e w3 ⟨rfl, rfl⟩
            go_wp2_with fail
            refine hH1.mono ?_
            rintro e w3 ⟨rfl, rfl⟩
            go_wp2_with fail
            refine hH2.mono ?_
            rintro e w3 ⟨rfl, rfl⟩
            go_wp2_with fail
            go_ret
            exact ⟨rfl, Hkw.out⟩

theorem mplays_any (A : Option Addr) (l : List Act9) (c : Nat) (n : Int) (w : World) (hA : ActArr w A l) (hm : l.length ≤ 9223372036854775807) :
    Calls Try.prog 11 #[.int .i64 n, .slice A l.length c] w (YesM w) := by
  by_cases hl : 80 < l.length
  · exact mplays_long A _ c n w hm (.inl hl)
  · by_cases hn : n < 1 ∨ (¬ n < 1 ∧ n > 65536)
    · exact mplays_bad A _ c n w hl hn
    · by_cases h3 : n > 300
      · exact mplays_long A _ c n w hm (.inr ⟨hl, h3, by omega⟩)
      · obtain ⟨k, rfl⟩ := Int.eq_ofNat_of_zero_le (show 0 ≤ n by omega)
        exact mplays_ok A l c k w hA hl (by omega) (by omega)
end Go.Proofs.Ytbckbnmpeedodaa
