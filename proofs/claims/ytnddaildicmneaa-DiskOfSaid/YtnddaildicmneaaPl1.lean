/-
  disk: the document's disk: write. (wip/gen_pl1.py)
-/
import Derived.Test.YtnddaildicmneaaPl0
namespace Go.Proofs.Ytnddaildicmneaa
open Go.Proofs Go.RowKit Go.Sort Go.Maps

def PlV.less (P : PlV) : PlV := ⟨P.size, P.kept, P.now, P.wait, P.off, P.arm - 1, P.keep, P.writes⟩
def PlV.put (P : PlV) (x : Nat) (b : List UInt8) : PlV := ⟨P.size, P.kept, P.now.set x b, P.wait ++ [(x, b)], P.off, P.arm, P.keep, P.writes + 1⟩
def PlV.write (P : PlV) (s : Int) (b : List UInt8) : Int × PlV :=
  if P.off = true then (22, P) else if 0 ≤ s ∧ s < P.now.length ∧ b.length = P.size then
    (if 0 < P.arm then (if P.arm = 1 then (22, P.less.power P.keep) else (0, P.less.put s.toNat b)) else (0, P.put s.toNat b))
  else (1, P)
def RetP (x : Int) (w0 w : World) (p : Nat) (P : PlV) : Ending → World → Prop := fun e w' => e = .returned (.int .i64 x) ∧ PK w0 w' p P ∧ Keeps (only p) w w'
section
variable {w0 w : World} {p : Nat} {kv nv wv kp : Value} {gk : Option Nat} {P : PlV}
theorem pwrite_off (s : Int) (b : List UInt8) (h : PAt w0 w p kv nv wv kp gk P) (ho : P.off = true) : Calls Try.prog 31 #[.pointer (some ⟨p, 0, none⟩), .int .i64 s, .string (strOf b)] w (RetP 22 w0 w p P) := by
  have c4 := h.cell 4
  rw [ho] at c4
  simp only [List.getElem?_toArray, List.getElem?_cons_succ, List.getElem?_cons_zero] at c4
  have H := Lib.hid h
  clear h
  go_enter Try.func31, Try.ntmps31
  go_wp2_with fail
  go_ret
  exact ⟨rfl, ⟨_, _, _, _, _, H.out⟩, Keeps.refl _ _⟩
theorem pwrite_arg (s : Int) (b : List UInt8) (h : PAt w0 w p kv nv wv kp gk P) (ho : P.off = false) (hbad : ¬ (0 ≤ s ∧ s < P.now.length ∧ b.length = P.size)) : Calls Try.prog 31 #[.pointer (some ⟨p, 0, none⟩), .int .i64 s, .string (strOf b)] w (RetP 1 w0 w p P) := by
  have c4 := h.cell 4
  have c2 := h.cell 2
  have c0 := h.cell 0
  rw [ho] at c4
  obtain ⟨An, cn, hnv, -⟩ := h.now.form
  subst hnv
  obtain ⟨n, hn⟩ : ∃ n, n = P.now.length := ⟨_, rfl⟩
  obtain ⟨z, hz⟩ : ∃ z, z = P.size := ⟨_, rfl⟩
  have hlen : (strOf b).data.size = b.length := by simp [strOf]
  have hlen2 : (strOf b).size = b.length := by simp [strOf, ByteArray.size]
  obtain ⟨k, hk⟩ : ∃ k, k = b.length := ⟨_, rfl⟩
  rw [← hk] at hlen hlen2 hbad
  rw [← hn] at c2 hbad
  rw [← hz] at c0 hbad
  simp only [List.getElem?_toArray, List.getElem?_cons_succ, List.getElem?_cons_zero] at c4 c2 c0
  have H := Lib.hid h
  have Hk := Lib.hid hk
  have Hn := Lib.hid hn
  have Hz := Lib.hid hz
  clear h hk hn hz
  by_cases h1 : s < 0
  · go_enter Try.func31, Try.ntmps31
    go_wp2_with fail
    go_ret
    exact ⟨rfl, ⟨_, _, _, _, _, H.out⟩, Keeps.refl _ _⟩
  · by_cases h2 : (n : Int) ≤ s
    · go_enter Try.func31, Try.ntmps31
      go_wp2_with fail
      go_ret
      exact ⟨rfl, ⟨_, _, _, _, _, H.out⟩, Keeps.refl _ _⟩
    · have h3 : ((k : Int) != (z : Int)) = true := by simp; intro e; exact hbad ⟨by omega, by omega, by omega⟩
      clear hbad
      go_enter Try.func31, Try.ntmps31
      go_wp2_with fail
      go_ret
      exact ⟨rfl, ⟨_, _, _, _, _, H.out⟩, Keeps.refl _ _⟩
set_option maxRecDepth 20000 in
set_option maxHeartbeats 8000000 in
theorem pwrite_put (x : Nat) (b : List UInt8) (h : PAt w0 w p kv nv wv kp gk P) (ho : P.off = false) (hx : x < P.now.length) (hb : b.length = P.size) (hnb : P.now.length ≤ 100000) (hmb : P.wait.length ≤ 100000) (hwb : P.writes < 1000000000) (ha : P.arm ≤ 0) : Calls Try.prog 31 #[.pointer (some ⟨p, 0, none⟩), .int .i64 x, .string (strOf b)] w (RetP 0 w0 w p (P.put x b)) := by
  have c4 := h.cell 4
  have c2 := h.cell 2
  have c0 := h.cell 0
  have c5 := h.cell 5
  rw [ho] at c4
  obtain ⟨An, cn, hnv, -⟩ := h.now.form
  obtain ⟨Aw, cw, hwv, -⟩ := h.wait.form
  obtain ⟨Ap, cp, hkp, -⟩ := id h.keep
  subst hnv hwv hkp
  obtain ⟨n, hn⟩ : ∃ n, n = P.now.length := ⟨_, rfl⟩
  obtain ⟨m, hm⟩ : ∃ m, m = P.wait.length := ⟨_, rfl⟩
  obtain ⟨z, hz⟩ : ∃ z, z = P.size := ⟨_, rfl⟩
  obtain ⟨nk, hnk⟩ : ∃ n, n = P.keep.length := ⟨_, rfl⟩
  have hlen : (strOf b).data.size = b.length := by simp [strOf]
  have hlen2 : (strOf b).size = b.length := by simp [strOf, ByteArray.size]
  rw [hb] at hlen hlen2
  rw [← hn] at c2 hx hnb h
  rw [← hm] at hmb h
  rw [← hz] at c0 hlen hlen2
  rw [← hnk] at h
  simp only [List.getElem?_toArray, List.getElem?_cons_succ, List.getElem?_cons_zero] at c4 c2 c0 c5
  have h3 : ((z : Int) != (z : Int)) = false := by simp
  have hxI : ¬ (n : Int) ≤ (x : Int) := by omega
  have hx0 : ¬ (x : Int) < 0 := by omega
  have hx1 : (0 : Int) ≤ (x : Int) := by omega
  have hx2 : (x : Int) < n := by omega
  have haI : ¬ 0 < P.arm := by omega
  have hH := h
  have H := Lib.hid h
  have Hn := Lib.hid hn
  have Hm := Lib.hid hm
  have Hz := Lib.hid hz
  have Hnk := Lib.hid hnk
  have HH := Lib.hid hH
  clear h hn hm hz hnk hH
  have hka := (Keeps.refl nowhere w).alloc (.cells #[] 9)
  have hE := RecT.Row.empty recStr w
  have hrd := (HH.out.same hka).now.rd
  have hlb : ([] : List (List UInt8)).length + P.now.length ≤ 100000000 := by have := Hn.out; have e : P.now = P.now := rfl; rw [e]; simp; omega
  have d2 := (HH.out.same hka).cell 2
  simp only [List.getElem?_toArray, List.getElem?_cons_succ, List.getElem?_cons_zero] at d2
  have Hka := Lib.hid hka
  have HE := Lib.hid hE
  have Hrd := Lib.hid hrd
  have Hlb := Lib.hid hlb
  clear hka hE hrd hlb
  go_enter Try.func31, Try.ntmps31
  go_wp2_with (at_builtin; go_must (refine RecT.wpList_append (R := recStr) Try.underlying59 infoStr rfl (by decide) rfl (.tmp 57) (.tmp 61) rfl _ [] rfl HE.out _ _ P.now rfl Hrd.out Hlb.out ?_))
  intro v2 w2 hrow2 hk2 hf2
  try rw [List.nil_append] at hrow2
  obtain ⟨A2, c2', hv2, -⟩ := hrow2.form
  rw [show P.now.length = n from Hn.out.symm] at hv2
  have hkw2 : Keeps nowhere w w2 := Hka.out.trans hk2 (fun k hk e => by simp [Value.ownBlock] at e; omega)
  have hab2 : ∀ k, v2.ownBlock = some k → w.heap.size ≤ k := fun k e => by
    rcases hf2 k e with h | h
    · simp [Value.ownBlock] at h; omega
    · (try simp at h); omega
  subst hv2
  clear hk2 hf2 d2
  have hPn : P.now.length = n := Hn.out.symm
  rcases hrow2.blk with ⟨hv0, h0⟩ | ⟨bl, capl, restl, hvl, hbl, -, -, -⟩
  · rw [h0] at hPn; simp at hPn; omega
  injection hvl with e4 e5 e6
  subst e4 e6
  clear e5
  have hrow2' := hrow2
  rw [← hPn] at hrow2'
  obtain ⟨hcs, hR3, hk3⟩ := hrow2'.store (i := x) (by rw [hPn]; exact hx) b
  obtain ⟨⟨u, hu⟩, hf⟩ := hcs 0 (by decide)
  have ew : w2.setCells bl (x * recStr.n) (recStr.cs b) = w2.setCell ⟨bl, x, none⟩ (.string (strOf b)) := by show w2.setCell ⟨bl, x * 1, none⟩ _ = _; rw [Nat.mul_one]
  rw [ew, hPn] at hR3
  rw [ew] at hk3
  rw [Nat.add_zero, show x * recStr.n = x from Nat.mul_one x] at hu hf
  obtain ⟨w3, hw3⟩ : ∃ w3, w3 = w2.setCell ⟨bl, x, none⟩ (.string (strOf b)) := ⟨_, rfl⟩
  rw [← hw3] at hR3 hk3
  have hblw : w.heap.size ≤ bl := hab2 bl rfl
  have hkw3 : Keeps nowhere w w3 := hkw2.trans hk3 (fun k hk e => by have e2 : k = bl := e; omega)
  have h4 := HH.out.same hkw3
  -- now is stored
  obtain ⟨w4, hw4⟩ : ∃ w4, w4 = w3.setCell ⟨p, 2, none⟩ (.slice (some ⟨bl, 0, none⟩) n c2') := ⟨_, rfl⟩
  have hk4 : Keeps (only p) w3 w4 := by rw [hw4]; exact (Keeps.refl (only p) w3).setCell (p := ⟨p, 2, none⟩) (fun _ => rfl) _
  have hb4 := h4.box.set_ 2 (.slice (some ⟨bl, 0, none⟩) n c2')
  rw [← hw4] at hb4
  have g2 := h4.box.frozen 2
  have d2 := h4.cell 2
  simp only [List.getElem?_toArray, List.getElem?_cons_succ, List.getElem?_cons_zero] at d2
  have h5 : PAt w0 w4 p kv (.slice (some ⟨bl, 0, none⟩) n c2') (.slice Aw m cw) (.slice Ap nk cp) gk ⟨P.size, P.kept, P.now.set x b, P.wait, P.off, P.arm, P.keep, P.writes⟩ := h4.turn hk4 (P' := ⟨P.size, P.kept, P.now.set x b, P.wait, P.off, P.arm, P.keep, P.writes⟩) (by simpa using hb4) h4.kept hR3 h4.wait h4.keep h4.hg h4.wlt (by show (P.now.set x b).length = _; rw [List.length_set]; exact h4.nlen)
  have hkw4 : Keeps (only p) w w4 := (hkw3.mono (fun _ _ h => h.elim)).trans hk4 (fun _ _ h => h)
  clear hcs hrow2 hrow2' hbl hk3 hab2 hkw2 hkw3 hk4 hb4 h4 hR3 ew
  have H5 := Lib.hid h5
  have Hkw4 := Lib.hid hkw4
  have Hw3 := Lib.hid hw3
  have Hw4 := Lib.hid hw4
  have HPn := Lib.hid hPn
  clear h5 hkw4 hw3 hw4 hPn
  go_upto_region 12 with fail
  rw [← Hw3.out]
  go_upto_region 13 with fail
  rw [← Hw4.out]
  clear hu hf g2 d2
  have hka := (Keeps.refl nowhere w4).alloc (.cells #[] 109)
  have hE := RecT.Row.empty recLate w4
  have h6 := H5.out.same hka
  have hrd := h6.wait.rd
  have hlb : ([] : List (Nat × List UInt8)).length + P.wait.length ≤ 100000000 := by have := Hm.out; have e : P.wait = P.wait := rfl; rw [e]; simp; omega
  have d3 := h6.cell 3
  simp only [List.getElem?_toArray, List.getElem?_cons_succ, List.getElem?_cons_zero] at d3
  clear h6
  have Hka := Lib.hid hka
  have HE := Lib.hid hE
  have Hrd := Lib.hid hrd
  have Hlb := Lib.hid hlb
  clear hka hE hrd hlb
  go_wp2_with (at_builtin; go_must (refine RecT.wpList_append (R := recLate) Try.underlying60 infoLate rfl (by decide) rfl (.tmp 72) (.tmp 76) rfl _ [] rfl HE.out _ _ P.wait rfl Hrd.out Hlb.out ?_))
  intro v6 w6 hrow6 hk6 hf6
  try rw [List.nil_append] at hrow6
  have hab6 : ∀ k, v6.ownBlock = some k → w4.heap.size ≤ k := fun k e => by
    rcases hf6 k e with h | h
    · simp [Value.ownBlock] at h; omega
    · (try simp at h); omega
  have hkw6 : Keeps nowhere w4 w6 := Hka.out.trans hk6 (fun k hk e => by simp [Value.ownBlock] at e; omega)
  have hkb := (Keeps.refl nowhere w6).alloc (.cells #[.int .i64 x, .string (strOf b)] 109)
  have hrowb := hrow6.same hkb
  have hrdb := RecT.Rd.one recLate w6 (x, b)
  have hlb6 : P.wait.length + ([(x, b)] : List (Nat × List UInt8)).length ≤ 100000000 := by have := Hm.out; have e : P.wait = P.wait := rfl; rw [e]; simp; omega
  clear hk6 hf6 d3
  have Hrow6 := Lib.hid hrow6
  have Hab6 := Lib.hid hab6
  have Hkw6 := Lib.hid hkw6
  have Hkb := Lib.hid hkb
  have Hrowb := Lib.hid hrowb
  have Hrdb := Lib.hid hrdb
  have Hlb6 := Lib.hid hlb6
  clear hrow6 hab6 hkw6 hkb hrowb hrdb hlb6
  go_wp2_with (at_builtin; go_must (refine RecT.wpList_append (R := recLate) Try.underlying60 infoLate rfl (by decide) rfl (.tmp 77) (.tmp 81) rfl _ P.wait rfl Hrowb.out _ _ [(x, b)] rfl Hrdb.out Hlb6.out ?_))
  intro v7 w7 hrow7 hk7 hf7
  obtain ⟨A7, c7, hv7, -⟩ := hrow7.form
  have hkw7 : Keeps nowhere w4 w7 := (Hkw6.out.more Hkb.out).trans hk7 (fun k hk e => by have := Hab6.out k e; omega)
  generalize hN7 : (P.wait ++ [(x, b)]).length = N7 at hv7
  subst hv7
  have h7 := H5.out.same hkw7
  obtain ⟨w8, hw8⟩ : ∃ w8, w8 = (w7.setCell ⟨p, 3, none⟩ (.slice A7 N7 c7)).setCell ⟨p, 7, none⟩ (.int .i64 ((P.writes : Int) + 1)) := ⟨_, rfl⟩
  have hk8 : Keeps (only p) w7 w8 := by rw [hw8]; exact ((Keeps.refl (only p) w7).setCell (p := ⟨p, 3, none⟩) (fun _ => rfl) _).setCell (p := ⟨p, 7, none⟩) (fun _ => rfl) _
  have hb8 := (h7.box.set_ 3 (.slice A7 N7 c7)).set_ 7 (.int .i64 ((P.writes : Int) + 1))
  rw [← hw8] at hb8
  have g3 := h7.box.frozen 3
  have g7 := h7.box.frozen 7
  have d3 := h7.cell 3
  have d7 := h7.cell 7
  simp only [List.getElem?_toArray, List.getElem?_cons_succ, List.getElem?_cons_zero] at d3 d7
  have h8 : PAt w0 w8 p kv (.slice (some ⟨bl, 0, none⟩) n c2') (.slice A7 N7 c7) (.slice Ap nk cp) gk (P.put x b) := h7.turn hk8 (P' := P.put x b) (by simpa [PlV.put] using hb8) h7.kept h7.now hrow7 h7.keep h7.hg (fun i q hq => by
    simp only [PlV.put] at hq ⊢
    by_cases hi : i < P.wait.length
    · rw [List.getElem?_append_left hi] at hq
      exact h7.wlt i q hq
    · rw [List.getElem?_append_right (by omega)] at hq
      have : i - P.wait.length = 0 := by have := (List.getElem?_eq_some_iff.1 hq).1; simp at this; omega
      rw [this] at hq
      simp at hq
      subst hq
      have := h7.nlen
      simp only [List.length_set] at this
      have := HPn.out
      show x < P.kept.length
      omega) h7.nlen
  have hwr : IntKind.i64.wrap ((P.writes : Int) + 1) = (P.writes : Int) + 1 := IntWalk.i64_in _ (by have e : P.writes = P.writes := rfl; omega)
  have hkw8 : Keeps (only p) w w8 := Hkw4.out.trans ((hkw7.mono (fun _ _ h => h.elim)).trans hk8 (fun _ _ h => h)) (fun _ _ h => h)
  obtain ⟨Wr, hWr⟩ : ∃ W, W = P.writes := ⟨_, rfl⟩
  rw [show (⟨P.size, P.kept, P.now.set x b, P.wait, P.off, P.arm, P.keep, P.writes⟩ : PlV).writes = P.writes from rfl] at d7
  rw [← hWr] at d7 hwr hw8
  clear h7 hk8 hb8 hrow7 hk7 hf7 hN7 hkw7
  have H8 := Lib.hid h8
  have Hkw8 := Lib.hid hkw8
  have Hw8 := Lib.hid hw8
  have HWr := Lib.hid hWr
  clear h8 hkw8 hw8 hWr
  go_wp2_with fail
  rw [← Hw8.out]
  go_ret
  exact ⟨rfl, ⟨_, _, _, _, _, H8.out⟩, Hkw8.out⟩
set_option maxRecDepth 20000 in
set_option maxHeartbeats 8000000 in
theorem pwrite_less (x : Nat) (b : List UInt8) (h : PAt w0 w p kv nv wv kp gk P) (ho : P.off = false) (hx : x < P.now.length) (hb : b.length = P.size) (hnb : P.now.length ≤ 100000) (hmb : P.wait.length ≤ 100000) (hwb : P.writes < 1000000000) (ha1 : 2 ≤ P.arm) (ha2 : P.arm ≤ 9223372036854775807) : Calls Try.prog 31 #[.pointer (some ⟨p, 0, none⟩), .int .i64 x, .string (strOf b)] w (RetP 0 w0 w p (P.less.put x b)) := by
  have c4 := h.cell 4
  have c2 := h.cell 2
  have c0 := h.cell 0
  have c5 := h.cell 5
  rw [ho] at c4
  obtain ⟨An, cn, hnv, -⟩ := h.now.form
  obtain ⟨Aw, cw, hwv, -⟩ := h.wait.form
  obtain ⟨Ap, cp, hkp, -⟩ := id h.keep
  subst hnv hwv hkp
  obtain ⟨n, hn⟩ : ∃ n, n = P.now.length := ⟨_, rfl⟩
  obtain ⟨m, hm⟩ : ∃ m, m = P.wait.length := ⟨_, rfl⟩
  obtain ⟨z, hz⟩ : ∃ z, z = P.size := ⟨_, rfl⟩
  obtain ⟨nk, hnk⟩ : ∃ n, n = P.keep.length := ⟨_, rfl⟩
  have hlen : (strOf b).data.size = b.length := by simp [strOf]
  have hlen2 : (strOf b).size = b.length := by simp [strOf, ByteArray.size]
  rw [hb] at hlen hlen2
  rw [← hn] at c2 hx hnb h
  rw [← hm] at hmb h
  rw [← hz] at c0 hlen hlen2
  rw [← hnk] at h
  simp only [List.getElem?_toArray, List.getElem?_cons_succ, List.getElem?_cons_zero] at c4 c2 c0 c5
  have h3 : ((z : Int) != (z : Int)) = false := by simp
  have hxI : ¬ (n : Int) ≤ (x : Int) := by omega
  have hx0 : ¬ (x : Int) < 0 := by omega
  have hx1 : (0 : Int) ≤ (x : Int) := by omega
  have hx2 : (x : Int) < n := by omega
  have hwl : IntKind.i64.wrap (P.arm - 1) = P.arm - 1 := IntWalk.i64_in _ (by omega)
  obtain ⟨w1, hw1⟩ : ∃ w1, w1 = w.setCell ⟨p, 5, none⟩ (.int .i64 (P.arm - 1)) := ⟨_, rfl⟩
  have hk1 : Keeps (only p) w w1 := by rw [hw1]; exact (Keeps.refl (only p) w).setCell (p := ⟨p, 5, none⟩) (fun _ => rfl) _
  have hb1 := h.box.set_ 5 (.int .i64 (P.arm - 1))
  rw [← hw1] at hb1
  have h1 : PAt w0 w1 p kv (.slice An n cn) (.slice Aw m cw) (.slice Ap nk cp) gk P.less := h.turn hk1 (P' := P.less) (by simpa [PlV.less] using hb1) h.kept h.now h.wait h.keep h.hg h.wlt h.nlen
  have f5 := h.box.frozen 5
  have c5b := h1.cell 5
  simp only [List.getElem?_toArray, List.getElem?_cons_succ, List.getElem?_cons_zero] at c5b
  have e5 : P.less.arm = P.arm - 1 := rfl
  rw [e5] at c5b
  obtain ⟨a, hA⟩ : ∃ a, a = P.arm := ⟨_, rfl⟩
  rw [← hA] at c5 hwl hw1 c5b ha1 ha2
  clear hb1 e5
  have haI : 0 < a := by omega
  have hne : (a - 1 == 0) = false := by simp; omega
  have hH := h1
  have H := Lib.hid h
  have H1 := Lib.hid h1
  have Hn := Lib.hid hn
  have Hm := Lib.hid hm
  have Hz := Lib.hid hz
  have Hnk := Lib.hid hnk
  have Hk1 := Lib.hid hk1
  have Hw1 := Lib.hid hw1
  have HA := Lib.hid hA
  have HH := Lib.hid hH
  clear h h1 hn hm hz hnk hk1 hw1 hA hH
  go_enter Try.func31, Try.ntmps31
  go_upto_region 7 with fail
  rw [← Hw1.out]
  go_upto_region 10 with fail
  have hka := (Keeps.refl nowhere w1).alloc (.cells #[] 9)
  have hE := RecT.Row.empty recStr w1
  have hrd := (HH.out.same hka).now.rd
  have hlb : ([] : List (List UInt8)).length + P.less.now.length ≤ 100000000 := by have := Hn.out; have e : P.less.now = P.now := rfl; rw [e]; simp; omega
  have d2 := (HH.out.same hka).cell 2
  simp only [List.getElem?_toArray, List.getElem?_cons_succ, List.getElem?_cons_zero] at d2
  have Hka := Lib.hid hka
  have HE := Lib.hid hE
  have Hrd := Lib.hid hrd
  have Hlb := Lib.hid hlb
  clear hka hE hrd hlb
  go_wp2_with (at_builtin; go_must (refine RecT.wpList_append (R := recStr) Try.underlying59 infoStr rfl (by decide) rfl (.tmp 57) (.tmp 61) rfl _ [] rfl HE.out _ _ P.less.now rfl Hrd.out Hlb.out ?_))
  intro v2 w2 hrow2 hk2 hf2
  try rw [List.nil_append] at hrow2
  obtain ⟨A2, c2', hv2, -⟩ := hrow2.form
  rw [show P.less.now.length = n from Hn.out.symm] at hv2
  have hkw2 : Keeps nowhere w1 w2 := Hka.out.trans hk2 (fun k hk e => by simp [Value.ownBlock] at e; omega)
  have hab2 : ∀ k, v2.ownBlock = some k → w1.heap.size ≤ k := fun k e => by
    rcases hf2 k e with h | h
    · simp [Value.ownBlock] at h; omega
    · (try simp at h); omega
  subst hv2
  clear hk2 hf2 d2
  have hPn : P.less.now.length = n := Hn.out.symm
  rcases hrow2.blk with ⟨hv0, h0⟩ | ⟨bl, capl, restl, hvl, hbl, -, -, -⟩
  · rw [h0] at hPn; simp at hPn; omega
  injection hvl with e4 e5 e6
  subst e4 e6
  clear e5
  have hrow2' := hrow2
  rw [← hPn] at hrow2'
  obtain ⟨hcs, hR3, hk3⟩ := hrow2'.store (i := x) (by rw [hPn]; exact hx) b
  obtain ⟨⟨u, hu⟩, hf⟩ := hcs 0 (by decide)
  have ew : w2.setCells bl (x * recStr.n) (recStr.cs b) = w2.setCell ⟨bl, x, none⟩ (.string (strOf b)) := by show w2.setCell ⟨bl, x * 1, none⟩ _ = _; rw [Nat.mul_one]
  rw [ew, hPn] at hR3
  rw [ew] at hk3
  rw [Nat.add_zero, show x * recStr.n = x from Nat.mul_one x] at hu hf
  obtain ⟨w3, hw3⟩ : ∃ w3, w3 = w2.setCell ⟨bl, x, none⟩ (.string (strOf b)) := ⟨_, rfl⟩
  rw [← hw3] at hR3 hk3
  have hblw : w1.heap.size ≤ bl := hab2 bl rfl
  have hkw3 : Keeps nowhere w1 w3 := hkw2.trans hk3 (fun k hk e => by have e2 : k = bl := e; omega)
  have h4 := HH.out.same hkw3
  -- now is stored
  obtain ⟨w4, hw4⟩ : ∃ w4, w4 = w3.setCell ⟨p, 2, none⟩ (.slice (some ⟨bl, 0, none⟩) n c2') := ⟨_, rfl⟩
  have hk4 : Keeps (only p) w3 w4 := by rw [hw4]; exact (Keeps.refl (only p) w3).setCell (p := ⟨p, 2, none⟩) (fun _ => rfl) _
  have hb4 := h4.box.set_ 2 (.slice (some ⟨bl, 0, none⟩) n c2')
  rw [← hw4] at hb4
  have g2 := h4.box.frozen 2
  have d2 := h4.cell 2
  simp only [List.getElem?_toArray, List.getElem?_cons_succ, List.getElem?_cons_zero] at d2
  have h5 : PAt w0 w4 p kv (.slice (some ⟨bl, 0, none⟩) n c2') (.slice Aw m cw) (.slice Ap nk cp) gk ⟨P.less.size, P.less.kept, P.less.now.set x b, P.less.wait, P.less.off, P.less.arm, P.less.keep, P.less.writes⟩ := h4.turn hk4 (P' := ⟨P.less.size, P.less.kept, P.less.now.set x b, P.less.wait, P.less.off, P.less.arm, P.less.keep, P.less.writes⟩) (by simpa using hb4) h4.kept hR3 h4.wait h4.keep h4.hg h4.wlt (by show (P.less.now.set x b).length = _; rw [List.length_set]; exact h4.nlen)
  have hkw4 : Keeps (only p) w1 w4 := (hkw3.mono (fun _ _ h => h.elim)).trans hk4 (fun _ _ h => h)
  clear hcs hrow2 hrow2' hbl hk3 hab2 hkw2 hkw3 hk4 hb4 h4 hR3 ew
  have H5 := Lib.hid h5
  have Hkw4 := Lib.hid hkw4
  have Hw3 := Lib.hid hw3
  have Hw4 := Lib.hid hw4
  have HPn := Lib.hid hPn
  clear h5 hkw4 hw3 hw4 hPn
  go_upto_region 12 with fail
  rw [← Hw3.out]
  go_upto_region 13 with fail
  rw [← Hw4.out]
  clear hu hf g2 d2
  have hka := (Keeps.refl nowhere w4).alloc (.cells #[] 109)
  have hE := RecT.Row.empty recLate w4
  have h6 := H5.out.same hka
  have hrd := h6.wait.rd
  have hlb : ([] : List (Nat × List UInt8)).length + P.less.wait.length ≤ 100000000 := by have := Hm.out; have e : P.less.wait = P.wait := rfl; rw [e]; simp; omega
  have d3 := h6.cell 3
  simp only [List.getElem?_toArray, List.getElem?_cons_succ, List.getElem?_cons_zero] at d3
  clear h6
  have Hka := Lib.hid hka
  have HE := Lib.hid hE
  have Hrd := Lib.hid hrd
  have Hlb := Lib.hid hlb
  clear hka hE hrd hlb
  go_wp2_with (at_builtin; go_must (refine RecT.wpList_append (R := recLate) Try.underlying60 infoLate rfl (by decide) rfl (.tmp 72) (.tmp 76) rfl _ [] rfl HE.out _ _ P.less.wait rfl Hrd.out Hlb.out ?_))
  intro v6 w6 hrow6 hk6 hf6
  try rw [List.nil_append] at hrow6
  have hab6 : ∀ k, v6.ownBlock = some k → w4.heap.size ≤ k := fun k e => by
    rcases hf6 k e with h | h
    · simp [Value.ownBlock] at h; omega
    · (try simp at h); omega
  have hkw6 : Keeps nowhere w4 w6 := Hka.out.trans hk6 (fun k hk e => by simp [Value.ownBlock] at e; omega)
  have hkb := (Keeps.refl nowhere w6).alloc (.cells #[.int .i64 x, .string (strOf b)] 109)
  have hrowb := hrow6.same hkb
  have hrdb := RecT.Rd.one recLate w6 (x, b)
  have hlb6 : P.less.wait.length + ([(x, b)] : List (Nat × List UInt8)).length ≤ 100000000 := by have := Hm.out; have e : P.less.wait = P.wait := rfl; rw [e]; simp; omega
  clear hk6 hf6 d3
  have Hrow6 := Lib.hid hrow6
  have Hab6 := Lib.hid hab6
  have Hkw6 := Lib.hid hkw6
  have Hkb := Lib.hid hkb
  have Hrowb := Lib.hid hrowb
  have Hrdb := Lib.hid hrdb
  have Hlb6 := Lib.hid hlb6
  clear hrow6 hab6 hkw6 hkb hrowb hrdb hlb6
  go_wp2_with (at_builtin; go_must (refine RecT.wpList_append (R := recLate) Try.underlying60 infoLate rfl (by decide) rfl (.tmp 77) (.tmp 81) rfl _ P.less.wait rfl Hrowb.out _ _ [(x, b)] rfl Hrdb.out Hlb6.out ?_))
  intro v7 w7 hrow7 hk7 hf7
  obtain ⟨A7, c7, hv7, -⟩ := hrow7.form
  have hkw7 : Keeps nowhere w4 w7 := (Hkw6.out.more Hkb.out).trans hk7 (fun k hk e => by have := Hab6.out k e; omega)
  generalize hN7 : (P.less.wait ++ [(x, b)]).length = N7 at hv7
  subst hv7
  have h7 := H5.out.same hkw7
  obtain ⟨w8, hw8⟩ : ∃ w8, w8 = (w7.setCell ⟨p, 3, none⟩ (.slice A7 N7 c7)).setCell ⟨p, 7, none⟩ (.int .i64 ((P.less.writes : Int) + 1)) := ⟨_, rfl⟩
  have hk8 : Keeps (only p) w7 w8 := by rw [hw8]; exact ((Keeps.refl (only p) w7).setCell (p := ⟨p, 3, none⟩) (fun _ => rfl) _).setCell (p := ⟨p, 7, none⟩) (fun _ => rfl) _
  have hb8 := (h7.box.set_ 3 (.slice A7 N7 c7)).set_ 7 (.int .i64 ((P.less.writes : Int) + 1))
  rw [← hw8] at hb8
  have g3 := h7.box.frozen 3
  have g7 := h7.box.frozen 7
  have d3 := h7.cell 3
  have d7 := h7.cell 7
  simp only [List.getElem?_toArray, List.getElem?_cons_succ, List.getElem?_cons_zero] at d3 d7
  have h8 : PAt w0 w8 p kv (.slice (some ⟨bl, 0, none⟩) n c2') (.slice A7 N7 c7) (.slice Ap nk cp) gk (P.less.put x b) := h7.turn hk8 (P' := P.less.put x b) (by simpa [PlV.put] using hb8) h7.kept h7.now hrow7 h7.keep h7.hg (fun i q hq => by
    simp only [PlV.put] at hq ⊢
    by_cases hi : i < P.less.wait.length
    · rw [List.getElem?_append_left hi] at hq
      exact h7.wlt i q hq
    · rw [List.getElem?_append_right (by omega)] at hq
      have : i - P.less.wait.length = 0 := by have := (List.getElem?_eq_some_iff.1 hq).1; simp at this; omega
      rw [this] at hq
      simp at hq
      subst hq
      have := h7.nlen
      simp only [List.length_set] at this
      have := HPn.out
      show x < P.less.kept.length
      omega) h7.nlen
  have hwr : IntKind.i64.wrap ((P.less.writes : Int) + 1) = (P.less.writes : Int) + 1 := IntWalk.i64_in _ (by have e : P.less.writes = P.writes := rfl; omega)
  have hkw8 : Keeps (only p) w1 w8 := Hkw4.out.trans ((hkw7.mono (fun _ _ h => h.elim)).trans hk8 (fun _ _ h => h)) (fun _ _ h => h)
  obtain ⟨Wr, hWr⟩ : ∃ W, W = P.less.writes := ⟨_, rfl⟩
  rw [show (⟨P.less.size, P.less.kept, P.less.now.set x b, P.less.wait, P.less.off, P.less.arm, P.less.keep, P.less.writes⟩ : PlV).writes = P.less.writes from rfl] at d7
  rw [← hWr] at d7 hwr hw8
  clear h7 hk8 hb8 hrow7 hk7 hf7 hN7 hkw7
  have H8 := Lib.hid h8
  have Hkw8 := Lib.hid hkw8
  have Hw8 := Lib.hid hw8
  have HWr := Lib.hid hWr
  clear h8 hkw8 hw8 hWr
  go_wp2_with fail
  rw [← Hw8.out]
  go_ret
  exact ⟨rfl, ⟨_, _, _, _, _, H8.out⟩, Hk1.out.trans Hkw8.out (fun _ _ h => h)⟩
set_option maxRecDepth 20000 in
set_option maxHeartbeats 8000000 in
theorem pwrite_cut (x : Nat) (b : List UInt8) (h : PAt w0 w p kv nv wv kp gk P) (ho : P.off = false) (hx : x < P.now.length) (hb : b.length = P.size) (hnb : P.now.length ≤ 100000) (hmb : P.wait.length ≤ 100000) (hwb : P.writes < 1000000000) (ha1 : P.arm = 1) : Calls Try.prog 31 #[.pointer (some ⟨p, 0, none⟩), .int .i64 x, .string (strOf b)] w (RetP 22 w0 w p (P.less.power P.keep)) := by
  have ha2 : P.arm ≤ 9223372036854775807 := by omega
  have c4 := h.cell 4
  have c2 := h.cell 2
  have c0 := h.cell 0
  have c5 := h.cell 5
  rw [ho] at c4
  obtain ⟨An, cn, hnv, -⟩ := h.now.form
  obtain ⟨Aw, cw, hwv, -⟩ := h.wait.form
  obtain ⟨Ap, cp, hkp, -⟩ := id h.keep
  subst hnv hwv hkp
  obtain ⟨n, hn⟩ : ∃ n, n = P.now.length := ⟨_, rfl⟩
  obtain ⟨m, hm⟩ : ∃ m, m = P.wait.length := ⟨_, rfl⟩
  obtain ⟨z, hz⟩ : ∃ z, z = P.size := ⟨_, rfl⟩
  obtain ⟨nk, hnk⟩ : ∃ n, n = P.keep.length := ⟨_, rfl⟩
  have hlen : (strOf b).data.size = b.length := by simp [strOf]
  have hlen2 : (strOf b).size = b.length := by simp [strOf, ByteArray.size]
  rw [hb] at hlen hlen2
  rw [← hn] at c2 hx hnb h
  rw [← hm] at hmb h
  rw [← hz] at c0 hlen hlen2
  rw [← hnk] at h
  simp only [List.getElem?_toArray, List.getElem?_cons_succ, List.getElem?_cons_zero] at c4 c2 c0 c5
  have h3 : ((z : Int) != (z : Int)) = false := by simp
  have hxI : ¬ (n : Int) ≤ (x : Int) := by omega
  have hx0 : ¬ (x : Int) < 0 := by omega
  have hx1 : (0 : Int) ≤ (x : Int) := by omega
  have hx2 : (x : Int) < n := by omega
  have hwl : IntKind.i64.wrap (P.arm - 1) = P.arm - 1 := IntWalk.i64_in _ (by omega)
  obtain ⟨w1, hw1⟩ : ∃ w1, w1 = w.setCell ⟨p, 5, none⟩ (.int .i64 (P.arm - 1)) := ⟨_, rfl⟩
  have hk1 : Keeps (only p) w w1 := by rw [hw1]; exact (Keeps.refl (only p) w).setCell (p := ⟨p, 5, none⟩) (fun _ => rfl) _
  have hb1 := h.box.set_ 5 (.int .i64 (P.arm - 1))
  rw [← hw1] at hb1
  have h1 : PAt w0 w1 p kv (.slice An n cn) (.slice Aw m cw) (.slice Ap nk cp) gk P.less := h.turn hk1 (P' := P.less) (by simpa [PlV.less] using hb1) h.kept h.now h.wait h.keep h.hg h.wlt h.nlen
  have f5 := h.box.frozen 5
  have c5b := h1.cell 5
  simp only [List.getElem?_toArray, List.getElem?_cons_succ, List.getElem?_cons_zero] at c5b
  have e5 : P.less.arm = P.arm - 1 := rfl
  rw [e5] at c5b
  obtain ⟨a, hA⟩ : ∃ a, a = P.arm := ⟨_, rfl⟩
  rw [← hA] at c5 hwl hw1 c5b ha1 ha2
  clear hb1 e5
  have haI : 0 < a := by omega
  have hne : (a - 1 == 0) = true := by simp; omega
  have hc := ppower_any Ap cp gk P.keep h1 (by have := h1.keep; rw [hnk] at this; exact this) (by show P.wait.length ≤ _; omega) (by have := h1.nlen; show P.kept.length ≤ _; have e : P.less.now.length = P.now.length := rfl; have e2 : P.less.kept.length = P.kept.length := rfl; omega)
  rw [← hnk] at hc
  have c6 := h1.cell 6
  simp only [List.getElem?_toArray, List.getElem?_cons_succ, List.getElem?_cons_zero] at c6
  have H := Lib.hid h
  have H1 := Lib.hid h1
  have Hn := Lib.hid hn
  have Hm := Lib.hid hm
  have Hz := Lib.hid hz
  have Hnk := Lib.hid hnk
  have Hk1 := Lib.hid hk1
  have Hw1 := Lib.hid hw1
  have HA := Lib.hid hA
  have Hc := Lib.hid hc
  have Ha1 := Lib.hid ha1
  clear h h1 hn hm hz hnk hk1 hw1 hA hc ha1
  go_enter Try.func31, Try.ntmps31
  go_upto_region 7 with fail
  rw [← Hw1.out]
  go_wp2_with fail
  refine Hc.out.mono ?_
  rintro e w2 ⟨rfl, hp, hk2⟩
  go_wp2_with fail
  go_ret
  exact ⟨rfl, hp, Hk1.out.trans hk2 (fun _ _ h => h)⟩
/-- the document's write -/
theorem pk_write (s : Int) (b : List UInt8) (h : PK w0 w p P) (hnb : P.now.length ≤ 100000) (hmb : P.wait.length ≤ 100000) (hwb : P.writes < 1000000000) (ha2 : P.arm ≤ 9223372036854775807) :
    Calls Try.prog 31 #[.pointer (some ⟨p, 0, none⟩), .int .i64 s, .string (strOf b)] w (RetP (P.write s b).1 w0 w p (P.write s b).2) := by
  obtain ⟨kv, nv, wv, kp, gk, h⟩ := h
  unfold PlV.write
  by_cases ho : P.off = true
  · rw [if_pos ho]; exact pwrite_off s b h ho
  · rw [if_neg ho]
    have ho' : P.off = false := by simpa using ho
    by_cases hb : 0 ≤ s ∧ s < P.now.length ∧ b.length = P.size
    · rw [if_pos hb]
      obtain ⟨h1, h2, h3⟩ := hb
      obtain ⟨x, rfl⟩ := Int.eq_ofNat_of_zero_le h1
      rw [Int.toNat_natCast]
      by_cases ha : 0 < P.arm
      · rw [if_pos ha]
        by_cases h1 : P.arm = 1
        · rw [if_pos h1]; exact pwrite_cut x b h ho' (by omega) h3 hnb hmb hwb h1
        · rw [if_neg h1]; exact pwrite_less x b h ho' (by omega) h3 hnb hmb hwb (by omega) ha2
      · rw [if_neg ha]; exact pwrite_put x b h ho' (by omega) h3 hnb hmb hwb (by omega)
    · rw [if_neg hb]; exact pwrite_arg s b h ho' hb
end
end Go.Proofs.Ytnddaildicmneaa
