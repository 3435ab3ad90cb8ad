/-
  tag: ready, Waits: a channel that is filled, then emptied. (wip/gen_t4.py wrote it.)
-/
import Derived.Test.YtnccgmffgmfinaaT3
import Derived.Test.YtnccgmffgmfinaaComm2
namespace Go.Proofs.Ytnccgmffgmfinaa
open Go.RowKit Go.Shelf Go.Conc

theorem chanKeeps {S : Nat → Prop} {w w' : World} (h : Keeps S w w') {c : Nat} (hc : c < w.heap.size → S c) (cap : Nat) (buf : Array Value) (cl : Bool) (s r : Nat) (tm : Bool) : Keeps S w (w'.setChan c cap buf cl s r tm) :=
  ⟨h.os, h.tape, h.output, by rw [size_setChan]; exact h.size, fun b hb hs => by
    have hne : b ≠ c := fun e => hs (by subst e; exact hc hb)
    rw [← h.block b hb hs]
    simp only [World.setChan]
    rw [Array.getElem?_setIfInBounds_ne (fun e => hne e.symm)]⟩
theorem chanKeep {S : Nat → Prop} {w w' : World} {c : Nat} {o : Obj} (h : w.heap[c]? = some o) (hk : Keeps S w w') (hs : ¬ S c) : w'.heap[c]? = some o :=
  (hk.block c (Array.getElem?_eq_some_iff.1 h).1 hs).trans h
theorem mkU (n : Nat) (hn : n ≤ 1000000) (w : World) : (Instr.makeChan 100 (.int .i64 n)).run Try.prog w = .ok (.chan (some w.heap.size)) (w.alloc (.chan n #[] false 0 0 false)) := by
  obtain ⟨i0, hi, _, _, hz2⟩ := info_parts infoU16
  exact run_makeChan (P := Try.prog) (w := w) Try.underlying100 hi .i64 n (by omega) (by rw [hz2]; omega)

/-- those that wait for one -/
def outsL (ws : List (Nat × Nat)) (old : Nat) : List Nat := (ws.filter fun t => t.2 == old).map (·.1)
theorem outs_succ {ws : List (Nat × Nat)} {i : Nat} {t : Nat × Nat} (h : ws[i]? = some t) (old : Nat) : outsL (ws.take (i + 1)) old = outsL (ws.take i) old ++ (if (t.2 == old) = true then [t.1] else []) := by
  unfold outsL
  rw [filter_take_succ h (fun t => t.2 == old), List.map_append]
  congr 1
  split <;> rfl
theorem outs_len (ws : List (Nat × Nat)) (old : Nat) : (outsL ws old).length ≤ ws.length := by
  unfold outsL
  rw [List.length_map]
  exact List.length_filter_le _ _
def chBuf (l : List Nat) : Array Value := (l.map uU).toArray
theorem chBuf_push (l : List Nat) (x : Nat) : (chBuf l).push (.int .u16 x) = chBuf (l ++ [x]) := by simp [chBuf, uU]
theorem chBuf_tail (x : Nat) (l : List Nat) : (chBuf (x :: l)).extract 1 (chBuf (x :: l)).size = chBuf l := by
  apply Array.ext'
  simp [chBuf]
  rw [List.take_of_length_le (by simp)]
def RetReady (w : World) (ws : List (Nat × Nat)) (old : Nat) : Ending → World → Prop := fun e w' => ∃ c s, e = .returned (.chan (some c)) ∧ w.heap.size ≤ c ∧ w'.heap[c]? = some (.chan ws.length (chBuf (outsL ws old)) false s 0 false) ∧ Keeps nowhere w w'
def RetWaits (w : World) (ws : List (Nat × Nat)) (old : Nat) : Ending → World → Prop := fun e w' => ∃ v gb, e = .returned v ∧ recU.Rd w' v gb (outsL ws old) ∧ Above w.heap.size gb ∧ Keeps nowhere w w'
theorem chBuf_size (l : List Nat) : (chBuf l).size = l.length := by simp [chBuf]

set_option maxRecDepth 8000 in
set_option maxHeartbeats 4000000 in
theorem tready_any (w : World) (p : Nat) (g h : Option Nat) (ts : List Nat) (ws : List (Nat × Nat)) (old : Nat) (t : TabAt w p g h ts ws) (hlw : ws.length ≤ 100000) :
    Calls Try.prog 59 #[tp p, .int .u16 old] w (RetReady w ws old) := by
  obtain ⟨va, vw, hb, hu, hw, rfl, rfl⟩ := t
  obtain ⟨B, cb, rfl, -⟩ := hw.form
  have c1 : w.cell? ⟨p, 1, none⟩ = some (.slice B ws.length cb) := hb.cell 1
  have hrd := hw.rd
  have hbc := hb.lt
  have hmk := mkU ws.length (by omega)
  have hka := (Keeps.refl nowhere w).alloc (.chan ws.length #[] false 0 0 false)
  have c1a : (w.alloc (.chan ws.length #[] false 0 0 false)).cell? ⟨p, 1, none⟩ = some (.slice B ws.length cb) := (hka.cell (p := ⟨p, 1, none⟩) hbc (fun h => h)).trans c1
  have hch0 := heap_alloc_new w (.chan ws.length #[] false 0 0 false)
  obtain ⟨L, hL⟩ : ∃ L, L = ws.length := ⟨_, rfl⟩
  rw [← hL] at c1 c1a hmk hka hch0 hlw
  unfold tp
  clear hu hb hbc
  have Hka := Lib.hid hka
  have Hch0 := Lib.hid hch0
  have Hrd := Lib.hid hrd
  have HL := Lib.hid hL
  have Hw := Lib.hid hw
  clear hka hch0 hrd hL hw
  refine calls_of_wpN Try.func59 rfl ?_
  simp only [Try.ntmps59]
  simp only [List.size_toArray, List.length_cons, List.length_nil, Nat.reduceAdd, Nat.reduceSub, Array.replicate_succ, Array.replicate_zero, List.push_toArray, List.append_toArray, List.nil_append, List.cons_append]
  refine wpN_then fun K hK => ?_
  have HK := Lib.hid hK
  clear hK
  go_wp2_with fail
  refine HK.out _ _ ?_
  clear HK K
  refine wpN_then fun K hK => ?_
  have HK := Lib.hid hK
  clear hK
  go_wp2_with fail
  refine HK.out _ _ ?_
  clear HK K
  refine wpN_seq2 ?_
  refine wpN_then fun K hK => ?_
  have HK := Lib.hid hK
  clear hK
  go_wp2_with fail
  refine HK.out _ _ ?_
  clear HK K c1 c1a hmk
  refine wpN_block ?_
  refine wpN_loop_n (fun n a w1 => ∃ (i s : Nat) (u2 u3 u6 u7 u8 u9 u10 u11 u12 u13 u14 u15 u16 u20 u21 u22 u23 u24 u25 u26 u27 u28 u29 u30 u31 : Value), i + n = L ∧ a = { tmps := #[.pointer (some ⟨p, 0, none⟩), .int .u16 old, u2, u3, .chan none, .chan (some w.heap.size), u6, u7, u8, u9, u10, u11, u12, u13, u14, u15, u16, .slice B L cb, .int .i64 L, .int .i64 i, u20, u21, u22, u23, u24, u25, u26, u27, u28, u29, u30, u31], defers := [] } ∧ w1.heap[w.heap.size]? = some (.chan L (chBuf (outsL (ws.take i) old)) false s 0 false) ∧ Keeps nowhere w w1) L ⟨0, 0, _, _, _, _, _, _, _, _, _, _, _, _, _, _, _, _, _, _, _, _, _, _, _, _, _, by omega, rfl, by simpa [chBuf, outsL] using Hch0.out, Hka.out⟩ ?_
  rintro n a w1 ⟨i, s, u2, u3, u6, u7, u8, u9, u10, u11, u12, u13, u14, u15, u16, u20, u21, u22, u23, u24, u25, u26, u27, u28, u29, u30, u31, hin, rfl, hch, hk⟩
  by_cases hlt : i < L
  · have hltI : (i : Int) < L := by omega
    have hi0 : (0 : Int) ≤ (i : Int) := by omega
    have hi1 : IntKind.i64.wrap ((i : Int) + 1) = i + 1 := IntWalk.i64_in _ (by omega)
    obtain ⟨m, rfl⟩ : ∃ m, n = m + 1 := ⟨n - 1, by omega⟩
    obtain ⟨A', c', hv, h1, h2, hu, h3, -⟩ := Hrd.out
    injection hv with hA hn hc
    clear hn hc
    subst hA
    obtain ⟨b, off, rfl, hg, hc⟩ := h3 (by rw [← HL.out]; omega)
    obtain ⟨y, hy⟩ : ∃ y, ws[i]? = some y := ⟨_, List.getElem?_eq_getElem (by rw [← HL.out]; exact hlt)⟩
    obtain ⟨d0, d1⟩ := atW ((hc i y hy).keep hk (hu b hg) (fun h => h))
    rw [show i * recW.n = i * 2 from rfl] at d0 d1
    have hsucc := outs_succ hy old
    have hol := outs_len (ws.take i) old
    rw [List.length_take] at hol
    obtain ⟨y1, y2⟩ := y
    simp only at d0 d1 hsucc
    clear hc h3 hu h1 h2
    have hk2 := hk.alloc (.cells #[.int .u16 y1, .int .u16 y2] 96)
    have hch2 := chanKeep hch ((Keeps.refl nowhere w1).alloc (.cells #[.int .u16 y1, .int .u16 y2] 96)) (fun h => h)
    have hx := Blk.new w1 96 #[.int .u16 y1, .int .u16 y2]
    have e0 : (w1.alloc (.cells #[.int .u16 y1, .int .u16 y2] 96)).cell? ⟨w1.heap.size, 0, none⟩ = some (.int .u16 y1) := hx.cell 0
    have e1 : (w1.alloc (.cells #[.int .u16 y1, .int .u16 y2] 96)).cell? ⟨w1.heap.size, 1, none⟩ = some (.int .u16 y2) := hx.cell 1
    have hw1s := hk.size
    have Hch := Lib.hid hch
    have Hk := Lib.hid hk
    have Hy := Lib.hid hy
    have Hsucc := Lib.hid hsucc
    have Hol := Lib.hid hol
    have Hg := Lib.hid hg
    have Hk2 := Lib.hid hk2
    have Hch2 := Lib.hid hch2
    have Hx := Lib.hid hx
    have Hw1s := Lib.hid hw1s
    clear hch hk hy hsucc hol hg hk2 hch2 hx hw1s
    refine wpN_then fun K hK => ?_
    have HK := Lib.hid hK
    clear hK
    go_wp2_with fail
    refine HK.out _ _ ?_
    clear HK K
    refine wpN_then fun K hK => ?_
    have HK := Lib.hid hK
    clear hK
    go_wp2_with fail
    refine HK.out _ _ ?_
    clear HK K
    refine wpN_seq2 (wpN_block ?_)
    refine wpN_then fun K hK => ?_
    have HK := Lib.hid hK
    clear hK
    go_wp2_with fail
    refine HK.out _ _ ?_
    clear HK K
    by_cases he : y2 = old
    · have heq : ((y2 : Int) == (old : Int)) = true := by simp [he]
      have He := Lib.hid he
      clear he
      refine wpN_then fun K hK => ?_
      have HK := Lib.hid hK
      clear hK
      go_wp2_with fail
      refine HK.out _ _ ?_
      clear HK K
      refine wpN_cond (t := true) rfl ?_
      rw [if_pos rfl]
      refine wpN_region ?_
      show RegN _ _ [0, 1, 2, 3] _ _ _
      iterate 3
        refine regN_value (w' := w1.alloc (.cells #[.int .u16 y1, .int .u16 y2] 96)) rfl rfl (by go_simp; rfl) ?_
        simp only [Act.put, List.setIfInBounds_toArray, List.set_cons_zero, List.set_cons_succ]
      refine regN_send (c := w.heap.size) (v := .int .u16 y1) (z := .tuple #[]) (w1 := w1.alloc (.cells #[.int .u16 y1, .int .u16 y2] 96)) rfl rfl (by simp [execOp, scase, Act.eval]) Hch2.out (by rw [chBuf_size]; have := Hol.out; omega) ?_
      refine regN_nil ?_
      simp only [Act.put]
      show WpN _ _ _ _ _
      have hk3 := chanKeeps Hk2.out (c := w.heap.size) (fun h => absurd h (Nat.lt_irrefl _)) L ((chBuf (outsL (ws.take i) old)).push (.int .u16 y1)) false (s + 1) 0 false
      have hch3 := heap_setChan (w1.alloc (.cells #[.int .u16 y1, .int .u16 y2] 96)) w.heap.size L ((chBuf (outsL (ws.take i) old)).push (.int .u16 y1)) false (s + 1) 0 false (Array.getElem?_eq_some_iff.1 Hch2.out).1
      generalize (w1.alloc (.cells #[.int .u16 y1, .int .u16 y2] 96)).setChan w.heap.size L ((chBuf (outsL (ws.take i) old)).push (.int .u16 y1)) false (s + 1) 0 false = w3 at *
      rw [chBuf_push] at hch3
      have hsc : outsL (ws.take (i + 1)) old = outsL (ws.take i) old ++ [y1] := by rw [Hsucc.out, if_pos (by simpa using He.out)]
      rw [← hsc] at hch3
      clear e0 e1 d0 d1
      have Hk3 := Lib.hid hk3
      have Hch3 := Lib.hid hch3
      have Hsc := Lib.hid hsc
      clear hk3 hch3 hsc
      refine wpN_of ?_
      go_wp2_with fail
      exact ⟨m, rfl, i + 1, s + 1, _, _, _, _, _, _, _, _, _, _, _, _, _, _, _, _, _, _, _, _, _, _, _, _, _, by omega, rfl, Hch3.out, Hk3.out⟩
    · have heq : ((y2 : Int) == (old : Int)) = false := by simp; omega
      have hsc : outsL (ws.take (i + 1)) old = outsL (ws.take i) old := by rw [Hsucc.out, if_neg (by simpa using he), List.append_nil]
      have hch3 := Hch2.out
      rw [← hsc] at hch3
      have He := Lib.hid he
      have Hsc := Lib.hid hsc
      have Hch3 := Lib.hid hch3
      clear he hsc hch3
      refine wpN_then fun K hK => ?_
      have HK := Lib.hid hK
      clear hK
      go_wp2_with fail
      refine HK.out _ _ ?_
      clear HK K
      refine wpN_cond (t := false) rfl ?_
      rw [if_neg (by simp)]
      refine wpN_of ?_
      go_wp2_with fail
      show WpN _ _ _ _ _
      refine wpN_of ?_
      go_wp2_with fail
      exact ⟨m, rfl, i + 1, s, _, _, _, _, _, _, _, _, _, _, _, _, _, _, _, _, _, _, _, _, _, _, _, _, _, by omega, rfl, Hch3.out, Hk2.out⟩
  · obtain rfl : i = L := by omega
    have hiI : ¬ (i : Int) < i := by omega
    rw [HL.out, List.take_length, ← HL.out] at hch
    have Hch := Lib.hid hch
    have Hk := Lib.hid hk
    clear hch hk
    refine wpN_then fun K hK => ?_
    have HK := Lib.hid hK
    clear hK
    go_wp2_with fail
    refine HK.out _ _ ?_
    clear HK K
    refine wpN_then fun K hK => ?_
    have HK := Lib.hid hK
    clear hK
    go_wp2_with fail
    show WpN _ _ _ _ _
    clear HK K
    refine wpN_then fun K hK => ?_
    have HK := Lib.hid hK
    clear hK
    go_wp2_with fail
    refine HK.out _ _ ?_
    clear HK K
    refine wpN_of ?_
    go_wp2_with fail
    go_ret
    exact ⟨_, _, rfl, Nat.le_refl _, by rw [← HL.out]; exact Hch.out, Hk.out⟩

set_option maxRecDepth 8000 in
set_option maxHeartbeats 4000000 in
theorem twaits_any (w : World) (p : Nat) (g h : Option Nat) (ts : List Nat) (ws : List (Nat × Nat)) (old : Nat) (t : TabAt w p g h ts ws) (hlw : ws.length ≤ 100000) :
    Calls Try.prog 41 #[tp p, .int .u16 old] w (RetWaits w ws old) := by
  have hready := tready_any w p g h ts ws old t hlw
  have hol := outs_len ws old
  unfold tp at hready ⊢
  clear t
  have Hready := Lib.hid hready
  clear hready
  refine calls_of_wpN Try.func41 rfl ?_
  simp only [Try.ntmps41]
  simp only [List.size_toArray, List.length_cons, List.length_nil, Nat.reduceAdd, Nat.reduceSub, Array.replicate_succ, Array.replicate_zero, List.push_toArray, List.append_toArray, List.nil_append, List.cons_append]
  refine wpN_then fun K hK => ?_
  have HK := Lib.hid hK
  clear hK
  go_wp2_with fail
  refine HK.out _ _ ?_
  clear HK K
  refine wpN_then fun K hK => ?_
  have HK := Lib.hid hK
  clear hK
  go_wp2_with fail
  refine HK.out _ _ ?_
  clear HK K
  refine wpN_then fun K hK => ?_
  have HK := Lib.hid hK
  clear hK
  go_wp2_with fail
  refine Hready.out.mono ?_
  rintro e w1 ⟨c, s0, rfl, hcw, hch, hk1⟩
  have hcl : c < w1.heap.size := (Array.getElem?_eq_some_iff.1 hch).1
  have Hch := Lib.hid hch
  have Hk1 := Lib.hid hk1
  clear hch hk1
  go_wp2_with fail
  refine HK.out _ _ ?_
  clear HK K
  refine wpN_block ?_
  refine wpN_loop_n (fun n a w2 => ∃ (k n0 ca s r : Nat) (A : Option Addr) (u2 u3 u7 u8 u9 u10 u11 u12 u13 u14 u15 u16 u17 u18 u19 u20 u21 : Value), k + n = (outsL ws old).length ∧ a = { tmps := #[.pointer (some ⟨p, 0, none⟩), .int .u16 old, u2, u3, .slice none 0 0, .slice A n0 ca, .chan (some c), u7, u8, u9, u10, u11, u12, u13, u14, u15, u16, u17, u18, u19, u20, u21], defers := [] } ∧ w2.heap[c]? = some (.chan ws.length (chBuf ((outsL ws old).drop k)) false s r false) ∧ recU.Row w2 (.slice A n0 ca) ((outsL ws old).take k) ∧ Above w1.heap.size (Value.ownBlock (.slice A n0 ca)) ∧ Keeps (only c) w1 w2) (outsL ws old).length ⟨0, 0, 0, s0, 0, none, _, _, _, _, _, _, _, _, _, _, _, _, _, _, _, _, _, by omega, rfl, by simpa using Hch.out, by simpa using RecT.Row.nil recU w1, fun b hb => by simp [Value.ownBlock] at hb, Keeps.refl _ _⟩ ?_
  rintro n a w2 ⟨k, n0, ca, s, r, A, u2, u3, u7, u8, u9, u10, u11, u12, u13, u14, u15, u16, u17, u18, u19, u20, u21, hkn, rfl, hch2, hrow, hab, hk2⟩
  have hkw : Keeps nowhere w w2 := Hk1.out.trans hk2 fun b hb e => by have : b = c := e; omega
  refine wpN_block ?_
  have Hrow := Lib.hid hrow
  have Hab := Lib.hid hab
  have Hk2 := Lib.hid hk2
  have Hkw := Lib.hid hkw
  clear hrow hab hk2 hkw
  refine wpN_then fun K hK => ?_
  have HK := Lib.hid hK
  clear hK
  go_wp2_with fail
  refine HK.out _ _ ?_
  clear HK K
  refine wpN_seq2 (wpN_region ?_)
  show RegN _ _ [0, 1, 2] _ _ _
  by_cases hlt : k < (outsL ws old).length
  · obtain ⟨m, rfl⟩ : ∃ m, n = m + 1 := ⟨n - 1, by omega⟩
    obtain ⟨x, hx⟩ : ∃ x, (outsL ws old)[k]? = some x := ⟨_, List.getElem?_eq_getElem hlt⟩
    have hdr : (outsL ws old).drop k = x :: (outsL ws old).drop (k + 1) := by
      obtain ⟨h1, rfl⟩ := List.getElem?_eq_some_iff.1 hx
      exact List.drop_eq_getElem_cons h1
    have htk : (outsL ws old).take (k + 1) = (outsL ws old).take k ++ [x] := by
      obtain ⟨h1, rfl⟩ := List.getElem?_eq_some_iff.1 hx
      exact List.take_succ_eq_append_getElem h1
    have hbg : (chBuf ((outsL ws old).drop k)).getD 0 undef = .int .u16 x := by rw [hdr]; rfl
    have hbe : (chBuf ((outsL ws old).drop k)).extract 1 (chBuf ((outsL ws old).drop k)).size = chBuf ((outsL ws old).drop (k + 1)) := by rw [hdr]; exact chBuf_tail _ _
    refine regN_select (c := c) (z := .int .u16 0) (w1 := w2) rfl rfl (by simp [go_sem, rcase, Try.zeroValue43]) hch2 (by rw [chBuf_size, hdr]; simp) ?_
    rw [hbg, hbe]
    have hk3 := chanKeeps Hk2.out (c := c) (fun _ => rfl) ws.length (chBuf ((outsL ws old).drop (k + 1))) false s (r + 1) false
    have hk3' := chanKeeps (Keeps.refl (only c) w2) (c := c) (fun _ => rfl) ws.length (chBuf ((outsL ws old).drop (k + 1))) false s (r + 1) false
    have hch3 := heap_setChan w2 c ws.length (chBuf ((outsL ws old).drop (k + 1))) false s (r + 1) false (Array.getElem?_eq_some_iff.1 hch2).1
    generalize w2.setChan c ws.length (chBuf ((outsL ws old).drop (k + 1))) false s (r + 1) false = w3 at *
    have hrow3 := Hrow.out.keep hk3' (fun b h e => by have := Hab.out b h; have : b = c := e; omega)
    simp only [Act.put, List.setIfInBounds_toArray, List.set_cons_zero, List.set_cons_succ]
    iterate 2
      refine regN_value (w' := w3) rfl rfl (by go_simp; rfl) ?_
      simp only [Act.put, List.setIfInBounds_toArray, List.set_cons_zero, List.set_cons_succ]
    refine regN_nil ?_
    show WpN _ _ _ _ _
    refine wpN_block ?_
    refine wpN_cond (t := true) rfl ?_
    rw [if_pos rfl]
    refine wpN_of ?_
    have hka := (Keeps.refl nowhere w3).alloc (.cells #[.int .u16 x] 43)
    have hrow4 := hrow3.same hka
    have hx1 := oneU w3 x
    have hch4 := chanKeep hch3 hka (fun h => h)
    have hk4 := hk3.alloc (.cells #[.int .u16 x] 43)
    have hlb : ((outsL ws old).take k).length + ([x] : List Nat).length ≤ 100000000 := by rw [List.length_take]; simp; omega
    clear hch2 hdr hbg hbe hch3 hk3 hk3' hrow3
    have Hx := Lib.hid hx
    have Htk := Lib.hid htk
    have Hka := Lib.hid hka
    have Hrow4 := Lib.hid hrow4
    have Hx1 := Lib.hid hx1
    have Hch4 := Lib.hid hch4
    have Hk4 := Lib.hid hk4
    have Hlb := Lib.hid hlb
    clear hx htk hka hrow4 hx1 hch4 hk4 hlb
    go_wp2_with (at_builtin; go_must (refine RecT.wpList_append Try.underlying66 infoU16 rfl (by decide) rfl (.tmp 18) (.tmp 20) rfl _ _ rfl Hrow4.out _ _ [x] rfl Hx1.out Hlb.out ?_))
    intro v7 w7 hrow7 hk7 hf7
    rw [← Htk.out] at hrow7
    obtain ⟨A7, c7, rfl, -⟩ := hrow7.form
    have hch7 := chanKeep Hch4.out hk7 (fun e => by have := Hab.out _ e; omega)
    have hk8 := Hk4.out.trans hk7 (fun b hb e => by have := Hab.out _ e; omega)
    have hab7 : Above w1.heap.size (Value.ownBlock (.slice A7 ((outsL ws old).take (k + 1)).length c7)) := fun b hb => by
      rcases hf7 b hb with h | h
      · exact Hab.out b h
      · exact Nat.le_trans Hk4.out.size (by first | exact h | (simp at h ⊢; omega))
    clear hk7 hf7
    have Hrow7 := Lib.hid hrow7
    have Hch7 := Lib.hid hch7
    have Hk8 := Lib.hid hk8
    have Hab7 := Lib.hid hab7
    clear hrow7 hch7 hk8 hab7
    go_wp2_with fail
    exact ⟨m, rfl, k + 1, _, c7, s, r + 1, A7, _, _, _, _, _, _, _, _, _, _, _, _, _, _, _, _, _, by omega, rfl, Hch7.out, Hrow7.out, Hab7.out, Hk8.out⟩
  · have hko : k = (outsL ws old).length := by omega
    have hemp : chBuf ((outsL ws old).drop k) = #[] := by rw [hko, List.drop_length]; rfl
    have hall : (outsL ws old).take k = outsL ws old := by rw [hko, List.take_length]
    rw [hemp] at hch2
    have hrow2 := Hrow.out
    rw [hall] at hrow2
    refine regN_default (c := c) (z := .int .u16 0) (w1 := w2) rfl rfl (by simp [go_sem, rcase, Try.zeroValue43]) hch2 ?_
    simp only [Act.put, List.setIfInBounds_toArray, List.set_cons_zero, List.set_cons_succ]
    iterate 2
      refine regN_value (w' := w2) rfl rfl (by go_simp; rfl) ?_
      simp only [Act.put, List.setIfInBounds_toArray, List.set_cons_zero, List.set_cons_succ]
    refine regN_nil ?_
    show WpN _ _ _ _ _
    refine wpN_block ?_
    refine wpN_cond (t := false) rfl ?_
    rw [if_neg (by simp)]
    have hcp := uclip_any _ _ w2 hrow2
    clear hko hemp hall hch2 hrow2
    have Hcp := Lib.hid hcp
    clear hcp
    refine wpN_of ?_
    go_wp2_with fail
    refine Hcp.out.mono ?_
    rintro e w5 ⟨v5, g5, rfl, hr5, hg5, rfl⟩
    obtain ⟨A5, c5, hv5, -⟩ := id hr5
    subst hv5
    have hab5 : Above w.heap.size g5 := fun b hb => Nat.le_trans Hk1.out.size (Hab.out b (hg5 b hb))
    clear hg5
    have Hr5 := Lib.hid hr5
    have Hab5 := Lib.hid hab5
    clear hr5 hab5
    go_wp2_with fail
    refine ⟨trivial, ?_⟩
    go_ret
    exact ⟨_, _, rfl, Hr5.out, Hab5.out, Hkw.out⟩
end Go.Proofs.Ytnccgmffgmfinaa
