/-
  loggialaw7.DiskPlays: the walk. (wip/gen_pl6.py wrote it.)
-/
import Derived.Test.YtnddaildicmneaaPlB
import Derived.Test.YtnddaildicmneaaTree
import Derived.Deep.CutBlock
import Derived.Deep.CutRange
import Derived.BigQuiet
namespace Go.Proofs.Ytnddaildicmneaa
open Go.Proofs Go.RowKit Go.Sort Go.Maps

def ActBox7 (w : World) (x : Nat) (t : Act7) : Prop := Blk w x 64 t.cs.toArray
theorem ActBox7.cell {w : World} {x : Nat} {t : Act7} (h : ActBox7 w x t) (k : Nat) : w.cell? ⟨x, k, none⟩ = t.cs[k]? := by
  have := Blk.cell h k
  simpa using this
theorem ActBox7.disk {w0 w w' : World} {x d : Nat} {t : Act7} {F : Nat → Prop} {D : DiskV} (h : ActBox7 w x t) (o : DOwn w0 w d F D) (hk : Keeps F w w') : ActBox7 w' x t := by
  refine Blk.keep h hk (fun e => ?_)
  obtain ⟨b, kvd, kpd, ks, vs, hFe, hd⟩ := o.k
  subst hFe
  rcases e with e | e | e
  · subst e
    exact h.ne_ hd.box (by decide) rfl
  · subst e
    exact hd.map.ne_blk h rfl
  · rcases hd.kept.blk with ⟨rfl, -⟩ | ⟨b2, c2, rest, rfl, hb2, -⟩
    · simp [Value.ownBlock] at e
    · simp only [Value.ownBlock, Option.some.injEq] at e
      subst e
      exact h.ne_ hb2 (by decide) rfl
theorem ActBox7.plate {w0 w w' : World} {x p : Nat} {t : Act7} {P : PlV} (h : ActBox7 w x t) (hp : PK w0 w p P) (hk : Keeps (only p) w w') : ActBox7 w' x t := by
  obtain ⟨cs, h1, -⟩ := hp.box
  exact Blk.keep h hk (fun e => by have e2 : x = p := e; subst e2; exact h.ne_ h1 (by decide) rfl)

set_option maxRecDepth 20000 in
set_option maxHeartbeats 64000000 in
theorem dplays_any (n z : Nat) (A : Option Addr) (l : List Act7) (c : Nat) (w : World) (hA : Act7Arr w A l) (hl : ¬ 60 < l.length) (hn1 : 1 ≤ n) (hn2 : n ≤ 50) (hz1 : 64 ≤ z) (hz2 : z ≤ 1024) : Calls Try.prog 8 #[.int .i64 n, .int .i64 z, .slice A l.length c] w (YesD w) := by
  have hkn := known7 w
  obtain ⟨L, hL⟩ : ∃ L, L = l.length := ⟨_, rfl⟩
  rw [← hL] at hl ⊢
  have g1 : ¬ (60 : Int) < (L : Int) := by omega
  have i1 : (1 : Int) ≤ (n : Int) := by omega
  have i2 : (n : Int) ≤ 16384 := by omega
  have i3 : (64 : Int) ≤ (z : Int) := by omega
  have i4 : (z : Int) ≤ 1024 := by omega
  have i5 : ¬ (50 : Int) < (n : Int) := by omega
  have Hkn := Lib.hid hkn
  have HL := Lib.hid hL
  have HA := Lib.hid hA
  clear hkn hL hA
  go_enter Try.func8, Try.ntmps8
  go_wp2_with fail
  refine (Hkn.out).mono ?_
  rintro e w1 ⟨rfl, hk1⟩
  clear Hkn
  have hc := own_new n z hk1 hn1 (by omega) hz1 hz2
  have Hk1 := Lib.hid hk1
  have Hc := Lib.hid hc
  clear hk1 hc
  go_wp2_with fail
  refine (Hc.out).mono ?_
  rintro e w2 ⟨d, F2, rfl, o2, -, -⟩
  clear Hc
  unfold dp
  obtain ⟨p, hp⟩ : ∃ p, p = w2.heap.size := ⟨_, rfl⟩
  obtain ⟨w3, hw3⟩ : ∃ w3, w3 = w2.alloc (.cells #[.int .i64 z, .slice none 0 0, .slice none 0 0, .slice none 0 0, .bool false, .int .i64 0, .slice none 0 0, .int .i64 0] 62) := ⟨_, rfl⟩
  have hk3 : Keeps nowhere w2 w3 := by rw [hw3]; exact (Keeps.refl nowhere w2).alloc _
  have o3 := o2.same hk3
  have hpF : ¬ F2 p := fun e => by have := o2.k.lt p e; omega
  have hwp : w.heap.size ≤ p := by rw [hp]; exact o2.kp.size
  have hp3 : Blk w3 p 62 #[.int .i64 z, .slice none 0 0, .slice none 0 0, .slice none 0 0, .bool false, .int .i64 0, .slice none 0 0, .int .i64 0] := by rw [hw3, hp]; exact Blk.new _ _ _
  clear o2 hk3
  have O3 := Lib.hid o3
  have Hp3 := Lib.hid hp3
  have Hp := Lib.hid hp
  have Hw3 := Lib.hid hw3
  have Hwp := Lib.hid hwp
  have HpF := Lib.hid hpF
  clear o3 hp3 hp hw3 hwp hpF
  go_upto_region 12 with fail
  rw [← Hw3.out]
  simp only [← Hp.out]
  clear Hw3
  go_wp2_with fail
  go_loopw [11] (fun iv wr => ∃ (i : Nat) (kv : Value), iv = .int .i64 i ∧ i ≤ n ∧ DOwn w wr d F2 (freshD n z) ∧ Blk wr p 62 #[.int .i64 z, kv, .slice none 0 0, .slice none 0 0, .bool false, .int .i64 0, .slice none 0 0, .int .i64 0] ∧ recStr.Row wr kv (List.replicate i (zerosB z)) ∧ ∀ k, kv.ownBlock = some k → w.heap.size ≤ k ∧ ¬ F2 k ∧ k ≠ p) (fun iv _ => n - (intOf iv).toNat)
  case atStart => exact ⟨0, _, rfl, Nat.zero_le _, O3.out, Hp3.out, RecT.Row.nil _ _, fun k h => by simp [Value.ownBlock] at h⟩
  case round =>
    obtain ⟨i, kv, rfl, hi, o, hb, hr, hab⟩ := hrel
    obtain ⟨Ak, ck, hkv, -⟩ := hr.form
    rw [List.length_replicate] at hkv
    subst hkv
    by_cases hlt : i < n
    · have hltI : (i : Int) < n := by omega
      have hi1 : IntKind.i64.wrap ((i : Int) + 1) = i + 1 := IntWalk.i64_in _ (by omega)
      have hkd := (Keeps.refl nowhere wr).drew
      have q1 : ∀ w', Keeps nowhere wr.drew w' → w'.cell? ⟨p, 1, none⟩ = some (.slice Ak i ck) := fun w' hh => by simpa using (hb.keep (hkd.more hh) (fun h => h)).cell 1
      have O := Lib.hid o
      have Hb := Lib.hid hb
      have Hr := Lib.hid hr
      have Hab := Lib.hid hab
      clear o hb hr hab
      go_wp2_with fail
      refine wp_region_script [0, 1, 2, 3, 4, 5, 10, 11] [4] [.ps [0, 1, 2, 3], .fs [4], .ps [5], .es [6] true, .es [7] true, .es [8] true, .es [9] false, .ps [10, 11], .es [12] false] (Keeps nowhere wr.drew) rfl (by kernel_rfl) ?_
      refine wpS_ps rfl fun K hK => ?_
      simp only [List.map_cons, List.map_nil, Option.getD_some, List.getElem?_toArray, List.getElem?_cons_zero, List.getElem?_cons_succ]
      iterate 4 (first | (apply quietO_cons _ rfl; (intro w' _; go_simp; rfl)) | apply quietO_skip rfl)
      refine hK _ ?_
      clear hK K
      simp only [Act.put, List.setIfInBounds_toArray, List.set_cons_zero, List.set_cons_succ]
      refine wpS_fs rfl (Keeps.refl _ _) fun K hK => ?_
      simp only [List.map_cons, List.map_nil, Option.getD_some, List.getElem?_toArray, List.getElem?_cons_zero, List.getElem?_cons_succ]
      iterate 1 (first | (apply quietO_cons _ rfl; (intro w' hs; have c_0 := q1 w' hs; go_simp; rfl)) | apply quietO_skip rfl)
      refine hK _ ?_
      clear hK K
      simp only [Act.put, List.setIfInBounds_toArray, List.set_cons_zero, List.set_cons_succ]
      refine wpS_ps rfl fun K hK => ?_
      simp only [List.map_cons, List.map_nil, Option.getD_some, List.getElem?_toArray, List.getElem?_cons_zero, List.getElem?_cons_succ]
      iterate 1 (first | (apply quietO_cons _ rfl; (intro w' _; go_simp; rfl)) | apply quietO_skip rfl)
      refine hK _ ?_
      clear hK K
      simp only [Act.put, List.setIfInBounds_toArray, List.set_cons_zero, List.set_cons_succ]
      clear q1
      refine wpS_es rfl fun K hK => ?_
      have HK := Lib.hid hK
      clear hK
      simp only [List.map_cons, List.map_nil, Option.getD_some, List.getElem?_toArray, List.getElem?_cons_zero, List.getElem?_cons_succ]
      go_wp2_with (at_make; refine wpList_make_bytesB _ rfl _ _ rfl z (z : Int) rfl rfl rfl (by omega) ?_)
      intro w4 hs4 hk4
      obtain ⟨q, hq⟩ : ∃ q, q = wr.heap.size := ⟨_, rfl⟩
      try simp only [World.drew] at hs4
      rw [← hq] at hs4
      simp only [← hq]
      have dc := conv_rdB hs4.rd (by simp [zerosB]; omega)
      clear hs4
      have Hq := Lib.hid hq
      clear hq
      go_wp2_with fail
      refine HK.out _ _ (fun _ => hk4) ?_
      clear HK K
      refine wpS_es rfl fun K hK => ?_
      have HK := Lib.hid hK
      clear hK
      simp only [List.map_cons, List.map_nil, Option.getD_some, List.getElem?_toArray, List.getElem?_cons_zero, List.getElem?_cons_succ]
      go_wp2_with fail
      go_wp2_with fail
      refine HK.out _ _ (fun _ => hk4) ?_
      clear HK K
      clear dc
      refine wpS_es rfl fun K hK => ?_
      have HK := Lib.hid hK
      clear hK
      simp only [List.map_cons, List.map_nil, Option.getD_some, List.getElem?_toArray, List.getElem?_cons_zero, List.getElem?_cons_succ]
      refine RecT.wpList_buildOne (R := recStr) Try.underlying59 infoStr (by decide) rfl (.tmp 79) rfl _ rfl (zerosB z) rfl ?_
      have hk5 := hk4.alloc (.cells (recStr.cs (zerosB z)).toArray recStr.t)
      have hrd := RecT.Rd.one recStr w4 (zerosB z)
      obtain ⟨w5, hw5⟩ : ∃ w5, w5 = w4.alloc (.cells (recStr.cs (zerosB z)).toArray recStr.t) := ⟨_, rfl⟩
      obtain ⟨q2, hq2⟩ : ∃ q2, q2 = w4.heap.size := ⟨_, rfl⟩
      rw [← hw5] at hk5 hrd ⊢
      simp only [← hq2] at hrd ⊢
      have hk5' := hkd.more hk5
      have o5 := O.out.same hk5'
      have hb5 := Hb.out.keep hk5' (fun h => h)
      have hr5 := Hr.out.same hk5'
      have hlb : (List.replicate i (zerosB z)).length + ([zerosB z] : List (List UInt8)).length ≤ 100000000 := by simp; omega
      clear hk4
      have Hrd := Lib.hid hrd
      have Hw5 := Lib.hid hw5
      have Hq2 := Lib.hid hq2
      have O5 := Lib.hid o5
      have Hb5 := Lib.hid hb5
      have Hr5 := Lib.hid hr5
      have Hlb := Lib.hid hlb
      clear hrd hw5 hq2 o5 hb5 hr5 hlb
      go_wp2_with fail
      refine HK.out _ _ (fun _ => hk5) ?_
      clear HK K
      refine wpS_es rfl fun K hK => ?_
      have HK := Lib.hid hK
      clear hK
      simp only [List.map_cons, List.map_nil, Option.getD_some, List.getElem?_toArray, List.getElem?_cons_zero, List.getElem?_cons_succ]
      go_wp2_with (at_builtin; go_must (refine RecT.wpList_append (R := recStr) Try.underlying59 infoStr rfl (by decide) rfl (.tmp 76) (.tmp 80) rfl _ (List.replicate i (zerosB z)) rfl Hr5.out _ _ [zerosB z] rfl Hrd.out Hlb.out ?_))
      intro v6 w6 hrow6 hk6 hf6
      rw [← List.replicate_succ'] at hrow6
      have hab6 : ∀ k, v6.ownBlock = some k → w.heap.size ≤ k ∧ ¬ F2 k ∧ k ≠ p := fun k e => by
        rcases hf6 k e with h | h
        · exact Hab.out k h
        · have h1 := hk5'.size
          have h2 := O.out.kp.size
          have h3 := Hb.out.lt
          exact ⟨by omega, fun hF => by have := O.out.k.lt k hF; omega, by omega⟩
      have hkF : Keeps (fun k => w.heap.size ≤ k ∧ ¬ F2 k ∧ k ≠ p) w5 w6 := hk6.mono (fun k _ e => Hab.out k e)
      have hb6 := Hb5.out.keep hkF (fun e => e.2.2 rfl)
      have o6 : DOwn w w6 d F2 (freshD n z) := ⟨O5.out.k.keepAll hk6 (fun k hF e => (Hab.out k e).2.1 hF) (fun k e => by
        rcases Hr5.out.blk with ⟨hv, -⟩ | ⟨b', c', rest, hv, hb', -⟩
        · rw [hv] at e; simp [Value.ownBlock] at e
        · rw [hv] at e
          simp only [Value.ownBlock, Option.some.injEq] at e
          subst e
          exact notRaw_blk hb' (by decide)), O5.out.own, O5.out.kp.trans hk6 (fun k hk e => by have := (Hab.out k e).1; omega)⟩
      obtain ⟨A6, c6, hv6, -⟩ := hrow6.form
      rw [List.length_replicate] at hv6
      subst hv6
      have hb7 := hb6.set_ 1 (.slice A6 (i + 1) c6)
      have hk7 : Keeps (only p) w6 (w6.setCell ⟨p, 1, none⟩ (.slice A6 (i + 1) c6)) := (Keeps.refl (only p) w6).setCell (p := ⟨p, 1, none⟩) (fun _ => rfl) _
      have o7 := o6.aside hb6 (by decide) HpF.out Hwp.out hk7
      have hr7 := hrow6.keep hk7 (fun k e e2 => (hab6 k e).2.2 e2)
      have f1 := hb6.frozen 1
      have c1 := hb6.cell 1
      obtain ⟨w7, hw7⟩ : ∃ w7, w7 = w6.setCell ⟨p, 1, none⟩ (.slice A6 (i + 1) c6) := ⟨_, rfl⟩
      rw [← hw7] at hb7 o7 hr7
      simp only [List.getElem?_toArray, List.getElem?_cons_succ, List.getElem?_cons_zero] at c1
      simp only [List.setIfInBounds_toArray, List.set_cons_zero, List.set_cons_succ] at hb7
      clear hrow6 hk6 hf6 hkF hb6 o6 hk7
      have Hb7 := Lib.hid hb7
      have O7 := Lib.hid o7
      have Hr7 := Lib.hid hr7
      have Hab6 := Lib.hid hab6
      have Hw7 := Lib.hid hw7
      clear hb7 o7 hr7 hab6 hw7
      go_wp2_with fail
      refine HK.out _ _ (fun h => by cases h) ?_
      clear HK K
      refine wpS_ps rfl fun K hK => ?_
      simp only [List.map_cons, List.map_nil, Option.getD_some, List.getElem?_toArray, List.getElem?_cons_zero, List.getElem?_cons_succ]
      iterate 2 (first | (apply quietO_cons _ rfl; (intro w' _; go_simp; rfl)) | apply quietO_skip rfl)
      refine hK _ ?_
      clear hK K
      simp only [Act.put, List.setIfInBounds_toArray, List.set_cons_zero, List.set_cons_succ]
      refine wpS_es rfl fun K hK => ?_
      have HK := Lib.hid hK
      clear hK
      simp only [List.map_cons, List.map_nil, Option.getD_some, List.getElem?_toArray, List.getElem?_cons_zero, List.getElem?_cons_succ]
      go_wp2_with fail
      rw [← Hw7.out]
      go_wp2_with fail
      refine HK.out _ _ (fun h => by cases h) ?_
      clear HK K
      refine wpS_nil ?_
      go_wp2_with fail
      go_roundw
      case rel => exact ⟨i + 1, _, rfl, by omega, O7.out, Hb7.out, Hr7.out, Hab6.out⟩
      case measure => simp [intOf]; omega
    · obtain rfl : i = n := by omega
      have hiI : ¬ (i : Int) < i := by omega
      have c1 := hb.cell 1
      have c2 := hb.cell 2
      have f2 := hb.frozen 2
      simp only [List.getElem?_toArray, List.getElem?_cons_succ, List.getElem?_cons_zero] at c1 c2
      obtain ⟨w5, hw5⟩ : ∃ w5, w5 = wr.setCell ⟨p, 2, none⟩ (.slice Ak i ck) := ⟨_, rfl⟩
      have hk5 : Keeps (only p) wr w5 := by rw [hw5]; exact (Keeps.refl (only p) wr).setCell (p := ⟨p, 2, none⟩) (fun _ => rfl) _
      have hb5 := hb.set_ 2 (.slice Ak i ck)
      rw [← hw5] at hb5
      have hr5 := hr.keep hk5 (fun k e e2 => (hab k e).2.2 e2)
      have o5 := o.aside hb (by decide) HpF.out Hwp.out hk5
      have hp5 : PAt w w5 p (.slice Ak i ck) (.slice Ak i ck) (.slice none 0 0) (.slice none 0 0) none ⟨z, List.replicate i (zerosB z), List.replicate i (zerosB z), [], false, 0, [], 0⟩ :=
        { box := by simpa using hb5
          kept := hr5
          now := hr5
          wait := RecT.Row.nil _ _
          keep := RecT.Rd.nil _ _
          hp := Hwp.out
          hg := fun b h => by cases h
          wlt := fun i q h => by simp at h
          nlen := rfl }
      have hst : StD w w5 d p F2 (freshD i z) ⟨z, List.replicate i (zerosB z), List.replicate i (zerosB z), [], false, 0, [], 0⟩ i z 0 := ⟨o5, ⟨_, _, _, _, _, hp5⟩, HpF.out, inv_new i z⟩
      clear hk5 hb5 hr5 o5 hp5 hb hr hab o
      obtain ⟨N, hN⟩ : ∃ N, N = i := ⟨_, rfl⟩
      have hN1 : 1 ≤ N := by omega
      have hN2 : N ≤ 50 := by omega
      obtain ⟨D9, P9, hst⟩ : ∃ D P, StD w w5 d p F2 D P N z 0 := ⟨_, _, by rw [hN]; exact hst⟩
      have Hst := Lib.hid hst
      have Hw5 := Lib.hid hw5
      clear hst hw5
      go_upto_region 17 with fail
      rw [← Hw5.out]
      clear c1 c2 f2 Hw5 O3 Hp3
      have HN := Lib.hid hN
      clear hN
      go_wp2_with fail
      go_loopw [7, 12] (fun dv iv wr => ∃ (j d : Nat) (F : Nat → Prop) (D : DiskV) (P : PlV), dv = .pointer (some ⟨d, 0, none⟩) ∧ iv = .int .i64 j ∧ j ≤ L ∧ StD w wr d p F D P N z j) (fun _ iv _ => L - (intOf iv).toNat)
      case atStart => exact ⟨0, d, F2, _, _, rfl, rfl, Nat.zero_le _, Hst.out⟩
      case round =>
        clear Hst
        obtain ⟨j, d, F, D, P, rfl, rfl, hj, hst⟩ := hrel
        by_cases hlt : j < L
        · have hltI : (j : Int) < L := by omega
          have hj0 : (0 : Int) ≤ (j : Int) := by omega
          have hj1 : IntKind.i64.wrap ((j : Int) + 1) = j + 1 := IntWalk.i64_in _ (by omega)
          obtain ⟨b, off, rfl, hbw, hcells⟩ := HA.out (by rw [← HL.out]; omega)
          obtain ⟨t, ht⟩ : ∃ t, l[j]? = some t := ⟨l[j]'(by rw [← HL.out]; exact hlt), List.getElem?_eq_getElem _⟩
          obtain ⟨hok, hcs⟩ := hcells j t ht
          have hkc : ∀ a v, w.cell? ⟨b, a, none⟩ = some v → wr.cell? ⟨b, a, none⟩ = some v := fun a v h => (hst.o.kp.cell (p := ⟨b, a, none⟩) hbw (fun h => h)).trans h
          have d0 : wr.cell? ⟨b, off + j * 6, none⟩ = some (.int .i64 t.op) := hkc _ _ (hcs 0 (by decide))
          have d1 : wr.cell? ⟨b, off + j * 6 + 1, none⟩ = some (.int .i64 t.sec) := hkc _ _ (hcs 1 (by decide))
          have d2 : wr.cell? ⟨b, off + j * 6 + 2, none⟩ = some (.int .i64 t.num) := hkc _ _ (hcs 2 (by decide))
          obtain ⟨bn, hbn⟩ : ∃ bn, bn = t.bL.length := ⟨_, rfl⟩
          obtain ⟨kn, hkn⟩ : ∃ kn, kn = t.keep.length := ⟨_, rfl⟩
          have d3 : wr.cell? ⟨b, off + j * 6 + 3, none⟩ = some (.slice t.bA bn t.bc) := by rw [hbn]; exact hkc _ _ (hcs 3 (by decide))
          have d4 : wr.cell? ⟨b, off + j * 6 + 4, none⟩ = some (.bool t.bad) := hkc _ _ (hcs 4 (by decide))
          have d5 : wr.cell? ⟨b, off + j * 6 + 5, none⟩ = some (.slice t.kA kn t.kc) := by rw [hkn]; exact hkc _ _ (hcs 5 (by decide))
          obtain ⟨w5, hw5⟩ : ∃ w5, w5 = wr.alloc (.cells #[.int .i64 t.op, .int .i64 t.sec, .int .i64 t.num, .slice t.bA bn t.bc, .bool t.bad, .slice t.kA kn t.kc] 64) := ⟨_, rfl⟩
          have hk5 : Keeps nowhere wr w5 := by rw [hw5]; exact (Keeps.refl nowhere wr).alloc _
          obtain ⟨x, hx⟩ : ∃ x, x = wr.heap.size := ⟨_, rfl⟩
          have hbx : ActBox7 w5 x t := by rw [hw5, hx, hbn, hkn]; exact Blk.new _ _ _
          have hst5 := hst.same hk5
          have a5 := hbx.cell 5
          simp only [Act7.cs, List.getElem?_cons_succ, List.getElem?_cons_zero] at a5
          rw [← hkn] at a5
          clear hcs hcells hkc hk5 hst
          have Hst5 := Lib.hid hst5
          have Hbx := Lib.hid hbx
          have Hw5 := Lib.hid hw5
          have Hx := Lib.hid hx
          have Hok := Lib.hid hok
          have Hbn := Lib.hid hbn
          have Hkn := Lib.hid hkn
          have Ht := Lib.hid ht
          clear hst5 hbx hw5 hx hok hbn hkn ht
          go_upto_region 21 with fail
          rw [← Hw5.out]
          simp only [← Hx.out]
          clear d0 d1 d2 d3 d4 d5 Hw5
          by_cases h100 : 100 < kn
          · have h100I : (100 : Int) < kn := by omega
            go_wp2_with fail
            go_ret
            exact ⟨rfl, Hst5.out.o.kp⟩
          · have h100I : ¬ (100 : Int) < kn := by omega
            have a0 := Hbx.out.cell 0
            simp only [Act7.cs, List.getElem?_cons_succ, List.getElem?_cons_zero] at a0
            go_upto_block 4 with fail
            go_cut [7, 14, 15, 16] from 91 to 225 (fun dv _ _ _ wx => ∃ (d' : Nat) (F' : Nat → Prop) (D' : DiskV) (P' : PlV), dv = .pointer (some ⟨d', 0, none⟩) ∧ StD w wx d' p F' D' P' N z (j + 1))
            case first =>
              have hst := Hst5.out
              obtain ⟨⟨gB, rB⟩, ⟨gK, rK⟩, hnum⟩ := Hok.out
              have rB5 := rB.same hst.o.kp
              have rK5 := rK.same hst.o.kp
              have hgK : ∀ k, gK = some k → k < w.heap.size := rK.choose_spec.choose_spec.2.2.2.1
              rw [← Hbn.out] at rB5
              rw [← Hkn.out] at rK5
              have hdok := hst.inv.ok hN2 hz2 (by omega)
              have hbd := hst.inv.bounds hN2 (by omega)
              have hgKF : ∀ k, gK = some k → ¬ F k := fun k e hF => by have := hgK k e; have := hst.o.own k hF; omega
              clear rB rK
              have Hst := Lib.hid hst
              have RB5 := Lib.hid rB5
              have RK5 := Lib.hid rK5
              have HgK := Lib.hid hgK
              have Hnum := Lib.hid hnum
              have Hdok := Lib.hid hdok
              have Hbd := Lib.hid hbd
              have HgKF := Lib.hid hgKF
              clear hst rB5 rK5 hgK hnum hdok hbd hgKF
              by_cases n1 : t.op = 1
              · as_aux_lemma =>
                  have e1 : (t.op == 1) = true := by simp [n1]
                  clear a5
                  go_wp2_with (at_make; refine wpList_make_bytesB _ rfl _ _ rfl z (z : Int) rfl rfl rfl (by omega) ?_)
                  intro w6 hrow6 hk6
                  obtain ⟨q, hq⟩ : ∃ q, q = w5.heap.size := ⟨_, rfl⟩
                  rw [← hq] at hrow6
                  simp only [← hq]
                  have rB6 := RB5.out.same hk6
                  have hbx6 : ActBox7 w6 x t := Blk.keep Hbx.out hk6 (fun h => h)
                  have a3 := hbx6.cell 3
                  simp only [Act7.cs, List.getElem?_cons_succ, List.getElem?_cons_zero] at a3
                  rw [← Hbn.out] at a3
                  clear hbx6 a0
                  have Hrow6 := Lib.hid hrow6
                  have Hk6 := Lib.hid hk6
                  have RB6 := Lib.hid rB6
                  have Hq := Lib.hid hq
                  clear hrow6 hk6 rB6 hq
                  go_wp2_with (refine wpList_copyB w5 _ rfl (.tmp 111) (.tmp 113) rfl q z (by rw [Hq.out]; exact Nat.le_refl _) (by omega) t.bA bn t.bc gB t.bL rfl rfl Hrow6.out RB6.out Hk6.out ?_)
                  intro w7 hrow7 hk7
                  have hbx7 : ActBox7 w7 x t := Blk.keep Hbx.out hk7 (fun h => h)
                  have a4 := hbx7.cell 4
                  simp only [Act7.cs, List.getElem?_cons_succ, List.getElem?_cons_zero] at a4
                  clear a3
                  generalize (List.take z t.bL).length = M7
                  cases hbad : t.bad with
                  | false =>
                    rw [hbad] at a4
                    obtain ⟨w8, hw8⟩ : ∃ w8, w8 = w7 := ⟨_, rfl⟩
                    have hst8 : StD w w8 d p F D P N z j := by rw [hw8]; exact Hst.out.same hk7
                    have hbx8 : ActBox7 w8 x t := by rw [hw8]; exact hbx7
                    obtain ⟨v8, hv0⟩ : ∃ v, v = Value.slice (some ⟨q, 0, none⟩) z z := ⟨_, rfl⟩
                    obtain ⟨B8, hB0⟩ : ∃ B, B = cpL z t.bL := ⟨_, rfl⟩
                    have hrow8 : recB.Row w8 v8 B8 := by rw [hw8, hv0, hB0]; exact hrow7
                    have hB8 : 0 < B8.length := by rw [hB0, cpL_len]; omega
                    clear hbx7 hrow7 hk7
                    have Hst8 := Lib.hid hst8
                    have Hbx8 := Lib.hid hbx8
                    have Hrow8 := Lib.hid hrow8
                    have HB8 := Lib.hid hB8
                    have Hbad := Lib.hid hbad
                    have HB0 := Lib.hid hB0
                    clear hst8 hbx8 hrow8 hB8 hbad hB0
                    go_upto_region 29 with fail
                    rw [← hv0, ← hw8]
                    clear a4 hv0 hw8
                    have hst8 := Hst8.out
                    have hbx8 := Hbx8.out
                    have hrow8 := Hrow8.out
                    have hB8 := HB8.out
                    clear Hst8 Hbx8 Hrow8 HB8
                    have hkd := (Keeps.refl nowhere w8).drew
                    have hst9 := hst8.same hkd
                    have hbx9 : ActBox7 w8.drew x t := Blk.keep hbx8 hkd (fun h => h)
                    have hrow9 := hrow8.same hkd
                    have hc := own_write t.sec v8 B8 hst9.o Hdok.out hrow9
                    obtain ⟨hpe, hinv⟩ := Hst.out.inv.write t.sec B8
                    obtain ⟨X, hX⟩ : ∃ X, X = (D.write t.sec B8).1 := ⟨_, rfl⟩
                    rw [← hX] at hc hpe
                    obtain ⟨A8, N8, c8, hv8⟩ : ∃ A n c, v8 = .slice A n c := by obtain ⟨A, c, h, -⟩ := hrow8.form; exact ⟨A, _, c, h⟩
                    subst hv8
                    have b1 := hbx9.cell 1
                    simp only [Act7.cs, List.getElem?_cons_succ, List.getElem?_cons_zero] at b1
                    obtain ⟨S, hS⟩ : ∃ S : World → Prop, ∀ w', S w' ↔ (w'.cell? ⟨x, 1, none⟩ = some (.int .i64 t.sec) ∧ (convert 41 9 (.slice A8 N8 c8)).run Try.prog w' = .ok (.string (strOf B8)) w') := ⟨_, fun _ => Iff.rfl⟩
                    have q1 : ∀ w', S w' → w'.cell? ⟨x, 1, none⟩ = some (.int .i64 t.sec) := fun w' h => ((hS w').1 h).1
                    have q2 : ∀ w', S w' → (convert 41 9 (.slice A8 N8 c8)).run Try.prog w' = .ok (.string (strOf B8)) w' := fun w' h => ((hS w').1 h).2
                    have s0 : S w8.drew := (hS _).2 ⟨b1, conv_rdB hrow9.rd hB8⟩
                    unfold dp at hc
                    clear hst8 hrow8 b1
                    have Hst9 := Lib.hid hst9
                    have Hbx9 := Lib.hid hbx9
                    have Hc := Lib.hid hc
                    have Hrow9 := Lib.hid hrow9
                    have HB8 := Lib.hid hB8
                    have Hinv := Lib.hid hinv
                    have Hpe := Lib.hid hpe
                    have HX := Lib.hid hX
                    have HS := Lib.hid hS
                    clear hst9 hbx9 hc hrow9 hB8 hinv hpe hX hS
                    go_wp2_with fail
                    refine wp_region_script [0, 1, 2, 3, 5, 6, 7, 8, 9, 11] [2, 7, 9] [.ps [0, 1], .fs [2], .ps [3, 5, 6], .fs [7], .ps [8], .fs [9], .es [4] true, .es [10] false, .ps [11]] S rfl (by kernel_rfl) ?_
                    refine wpS_ps rfl fun K hK => ?_
                    simp only [List.map_cons, List.map_nil, Option.getD_some, List.getElem?_toArray, List.getElem?_cons_zero, List.getElem?_cons_succ]
                    iterate 2 (first | (apply quietO_cons _ rfl; (intro w' _; go_simp; rfl)) | apply quietO_skip rfl)
                    refine hK _ ?_
                    clear hK K
                    simp only [Act.put, List.setIfInBounds_toArray, List.set_cons_zero, List.set_cons_succ]
                    refine wpS_fs rfl (s0) fun K hK => ?_
                    simp only [List.map_cons, List.map_nil, Option.getD_some, List.getElem?_toArray, List.getElem?_cons_zero, List.getElem?_cons_succ]
                    iterate 1 (first | (apply quietO_cons _ rfl; (intro w' hs; have c_0 := q1 w' hs; go_simp; rfl)) | apply quietO_skip rfl)
                    refine hK _ ?_
                    clear hK K
                    simp only [Act.put, List.setIfInBounds_toArray, List.set_cons_zero, List.set_cons_succ]
                    refine wpS_ps rfl fun K hK => ?_
                    simp only [List.map_cons, List.map_nil, Option.getD_some, List.getElem?_toArray, List.getElem?_cons_zero, List.getElem?_cons_succ]
                    iterate 3 (first | (apply quietO_cons _ rfl; (intro w' _; go_simp; rfl)) | apply quietO_skip rfl)
                    refine hK _ ?_
                    clear hK K
                    simp only [Act.put, List.setIfInBounds_toArray, List.set_cons_zero, List.set_cons_succ]
                    refine wpS_fs rfl (s0) fun K hK => ?_
                    simp only [List.map_cons, List.map_nil, Option.getD_some, List.getElem?_toArray, List.getElem?_cons_zero, List.getElem?_cons_succ]
                    iterate 1 (first | (apply quietO_cons _ rfl; (intro w' hs; have c_0 := q1 w' hs; go_simp; rfl)) | apply quietO_skip rfl)
                    refine hK _ ?_
                    clear hK K
                    simp only [Act.put, List.setIfInBounds_toArray, List.set_cons_zero, List.set_cons_succ]
                    refine wpS_ps rfl fun K hK => ?_
                    simp only [List.map_cons, List.map_nil, Option.getD_some, List.getElem?_toArray, List.getElem?_cons_zero, List.getElem?_cons_succ]
                    iterate 1 (first | (apply quietO_cons _ rfl; (intro w' _; go_simp; rfl)) | apply quietO_skip rfl)
                    refine hK _ ?_
                    clear hK K
                    simp only [Act.put, List.setIfInBounds_toArray, List.set_cons_zero, List.set_cons_succ]
                    refine wpS_fs rfl (s0) fun K hK => ?_
                    simp only [List.map_cons, List.map_nil, Option.getD_some, List.getElem?_toArray, List.getElem?_cons_zero, List.getElem?_cons_succ]
                    iterate 1 (first | (apply quietO_cons _ rfl; (intro w' hs; have c_0 := q2 w' hs; go_simp; rfl)) | apply quietO_skip rfl)
                    refine hK _ ?_
                    clear hK K
                    simp only [Act.put, List.setIfInBounds_toArray, List.set_cons_zero, List.set_cons_succ]
                    clear q1 q2 s0
                    refine wpS_es rfl fun K hK => ?_
                    have HK := Lib.hid hK
                    clear hK
                    simp only [List.map_cons, List.map_nil, Option.getD_some, List.getElem?_toArray, List.getElem?_cons_zero, List.getElem?_cons_succ]
                    go_wp2_with fail
                    refine Hc.out.mono ?_
                    rintro e w9 ⟨rfl, F9, o9, hrow9, hk9, hg9⟩
                    have hbxa := Hbx9.out.disk Hst9.out.o hk9
                    obtain ⟨o9, pk9, hF9⟩ := Hst9.out.disk o9 hk9 hg9
                    have b1 := hbxa.cell 1
                    simp only [Act7.cs, List.getElem?_cons_succ, List.getElem?_cons_zero] at b1
                    have s9 : S w9 := (HS.out _).2 ⟨b1, conv_rdB hrow9.rd HB8.out⟩
                    have hc9 := pk_write t.sec B8 pk9 Hbd.out.1 Hbd.out.2.2.1 Hbd.out.2.2.2.1 Hbd.out.2.2.2.2
                    rw [Hpe.out] at hc9
                    clear hbxa hrow9 hk9 hg9 b1 Hc Hrow9
                    have O9 := Lib.hid o9
                    have Pk9 := Lib.hid pk9
                    have HF9 := Lib.hid hF9
                    have Hc9 := Lib.hid hc9
                    clear o9 pk9 hF9 hc9
                    go_wp2_with fail
                    refine HK.out _ _ (fun _ => s9) ?_
                    clear HK K
                    refine wpS_es rfl fun K hK => ?_
                    have HK := Lib.hid hK
                    clear hK
                    simp only [List.map_cons, List.map_nil, Option.getD_some, List.getElem?_toArray, List.getElem?_cons_zero, List.getElem?_cons_succ]
                    go_wp2_with fail
                    refine Hc9.out.mono ?_
                    rintro e wa ⟨rfl, pka, hka⟩
                    have oa := O9.out.plate Pk9.out HF9.out hka
                    have hsa : StD w wa d p F9 (D.write t.sec B8).2 (P.write t.sec B8).2 N z (j + 1) := ⟨oa, pka, HF9.out, Hinv.out⟩
                    clear oa pka hka Hc9
                    have Hsa := Lib.hid hsa
                    clear hsa
                    go_wp2_with fail
                    refine HK.out _ _ (fun h => by cases h) ?_
                    clear HK K
                    refine wpS_ps rfl fun K hK => ?_
                    simp only [List.map_cons, List.map_nil, Option.getD_some, List.getElem?_toArray, List.getElem?_cons_zero, List.getElem?_cons_succ]
                    iterate 1 (first | (apply quietO_cons _ rfl; (intro w' _; go_simp; rfl)) | apply quietO_skip rfl)
                    refine hK _ ?_
                    clear hK K
                    simp only [Act.put, List.setIfInBounds_toArray, List.set_cons_zero, List.set_cons_succ]
                    refine wpS_nil ?_
                    go_wp2_with fail
                    go_meet
                    case rel => exact ⟨d, F9, _, _, rfl, Hsa.out⟩
                  | true =>
                    rw [hbad] at a4
                    have hkb := (Keeps.refl nowhere w7).alloc (.cells #[.int .u8 0] 5)
                    have hrow7b := hrow7.same hkb
                    have hrdb := RecT.Rd.one recB w7 0
                    have hk7b := hk7.more hkb
                    have hlb7 : (cpL z t.bL).length + ([0] : List UInt8).length ≤ 100000000 := by rw [cpL_len]; simp; omega
                    clear hrow7 hbx7
                    have Hk7 := Lib.hid hk7
                    have Hkb := Lib.hid hkb
                    have Hrow7b := Lib.hid hrow7b
                    have Hrdb := Lib.hid hrdb
                    have Hk7b := Lib.hid hk7b
                    have Hlb7 := Lib.hid hlb7
                    have Hbad := Lib.hid hbad
                    clear hk7 hkb hrow7b hrdb hk7b hlb7 hbad
                    go_wp2_with (at_builtin; go_must (refine RecT.wpList_append (R := recB) Try.underlying41 infoB rfl (by decide) rfl (.tmp 117) (.tmp 118) rfl _ (cpL z t.bL) rfl Hrow7b.out _ _ [0] rfl Hrdb.out Hlb7.out ?_))
                    intro v8 w8 hrow8 hk8 hf8
                    have hk58 : Keeps nowhere w5 w8 := Hk7b.out.trans hk8 (fun k hk e => by simp [Value.ownBlock] at e; have := Hq.out; omega)
                    have hst8 := Hst.out.same hk58
                    have hbx8 : ActBox7 w8 x t := Blk.keep Hbx.out hk58 (fun h => h)
                    obtain ⟨B8, hB0⟩ : ∃ B, B = cpL z t.bL ++ [0] := ⟨_, rfl⟩
                    rw [← hB0] at hrow8
                    have hB8 : 0 < B8.length := by rw [hB0]; simp
                    clear hk8 hf8 hk58 a4
                    have HB0 := Lib.hid hB0
                    clear hB0
                    have hkd := (Keeps.refl nowhere w8).drew
                    have hst9 := hst8.same hkd
                    have hbx9 : ActBox7 w8.drew x t := Blk.keep hbx8 hkd (fun h => h)
                    have hrow9 := hrow8.same hkd
                    have hc := own_write t.sec v8 B8 hst9.o Hdok.out hrow9
                    obtain ⟨hpe, hinv⟩ := Hst.out.inv.write t.sec B8
                    obtain ⟨X, hX⟩ : ∃ X, X = (D.write t.sec B8).1 := ⟨_, rfl⟩
                    rw [← hX] at hc hpe
                    obtain ⟨A8, N8, c8, hv8⟩ : ∃ A n c, v8 = .slice A n c := by obtain ⟨A, c, h, -⟩ := hrow8.form; exact ⟨A, _, c, h⟩
                    subst hv8
                    have b1 := hbx9.cell 1
                    simp only [Act7.cs, List.getElem?_cons_succ, List.getElem?_cons_zero] at b1
                    obtain ⟨S, hS⟩ : ∃ S : World → Prop, ∀ w', S w' ↔ (w'.cell? ⟨x, 1, none⟩ = some (.int .i64 t.sec) ∧ (convert 41 9 (.slice A8 N8 c8)).run Try.prog w' = .ok (.string (strOf B8)) w') := ⟨_, fun _ => Iff.rfl⟩
                    have q1 : ∀ w', S w' → w'.cell? ⟨x, 1, none⟩ = some (.int .i64 t.sec) := fun w' h => ((hS w').1 h).1
                    have q2 : ∀ w', S w' → (convert 41 9 (.slice A8 N8 c8)).run Try.prog w' = .ok (.string (strOf B8)) w' := fun w' h => ((hS w').1 h).2
                    have s0 : S w8.drew := (hS _).2 ⟨b1, conv_rdB hrow9.rd hB8⟩
                    unfold dp at hc
                    clear hst8 hrow8 b1
                    have Hst9 := Lib.hid hst9
                    have Hbx9 := Lib.hid hbx9
                    have Hc := Lib.hid hc
                    have Hrow9 := Lib.hid hrow9
                    have HB8 := Lib.hid hB8
                    have Hinv := Lib.hid hinv
                    have Hpe := Lib.hid hpe
                    have HX := Lib.hid hX
                    have HS := Lib.hid hS
                    clear hst9 hbx9 hc hrow9 hB8 hinv hpe hX hS
                    go_wp2_with fail
                    refine wp_region_script [0, 1, 2, 3, 5, 6, 7, 8, 9, 11] [2, 7, 9] [.ps [0, 1], .fs [2], .ps [3, 5, 6], .fs [7], .ps [8], .fs [9], .es [4] true, .es [10] false, .ps [11]] S rfl (by kernel_rfl) ?_
                    refine wpS_ps rfl fun K hK => ?_
                    simp only [List.map_cons, List.map_nil, Option.getD_some, List.getElem?_toArray, List.getElem?_cons_zero, List.getElem?_cons_succ]
                    iterate 2 (first | (apply quietO_cons _ rfl; (intro w' _; go_simp; rfl)) | apply quietO_skip rfl)
                    refine hK _ ?_
                    clear hK K
                    simp only [Act.put, List.setIfInBounds_toArray, List.set_cons_zero, List.set_cons_succ]
                    refine wpS_fs rfl (s0) fun K hK => ?_
                    simp only [List.map_cons, List.map_nil, Option.getD_some, List.getElem?_toArray, List.getElem?_cons_zero, List.getElem?_cons_succ]
                    iterate 1 (first | (apply quietO_cons _ rfl; (intro w' hs; have c_0 := q1 w' hs; go_simp; rfl)) | apply quietO_skip rfl)
                    refine hK _ ?_
                    clear hK K
                    simp only [Act.put, List.setIfInBounds_toArray, List.set_cons_zero, List.set_cons_succ]
                    refine wpS_ps rfl fun K hK => ?_
                    simp only [List.map_cons, List.map_nil, Option.getD_some, List.getElem?_toArray, List.getElem?_cons_zero, List.getElem?_cons_succ]
                    iterate 3 (first | (apply quietO_cons _ rfl; (intro w' _; go_simp; rfl)) | apply quietO_skip rfl)
                    refine hK _ ?_
                    clear hK K
                    simp only [Act.put, List.setIfInBounds_toArray, List.set_cons_zero, List.set_cons_succ]
                    refine wpS_fs rfl (s0) fun K hK => ?_
                    simp only [List.map_cons, List.map_nil, Option.getD_some, List.getElem?_toArray, List.getElem?_cons_zero, List.getElem?_cons_succ]
                    iterate 1 (first | (apply quietO_cons _ rfl; (intro w' hs; have c_0 := q1 w' hs; go_simp; rfl)) | apply quietO_skip rfl)
                    refine hK _ ?_
                    clear hK K
                    simp only [Act.put, List.setIfInBounds_toArray, List.set_cons_zero, List.set_cons_succ]
                    refine wpS_ps rfl fun K hK => ?_
                    simp only [List.map_cons, List.map_nil, Option.getD_some, List.getElem?_toArray, List.getElem?_cons_zero, List.getElem?_cons_succ]
                    iterate 1 (first | (apply quietO_cons _ rfl; (intro w' _; go_simp; rfl)) | apply quietO_skip rfl)
                    refine hK _ ?_
                    clear hK K
                    simp only [Act.put, List.setIfInBounds_toArray, List.set_cons_zero, List.set_cons_succ]
                    refine wpS_fs rfl (s0) fun K hK => ?_
                    simp only [List.map_cons, List.map_nil, Option.getD_some, List.getElem?_toArray, List.getElem?_cons_zero, List.getElem?_cons_succ]
                    iterate 1 (first | (apply quietO_cons _ rfl; (intro w' hs; have c_0 := q2 w' hs; go_simp; rfl)) | apply quietO_skip rfl)
                    refine hK _ ?_
                    clear hK K
                    simp only [Act.put, List.setIfInBounds_toArray, List.set_cons_zero, List.set_cons_succ]
                    clear q1 q2 s0
                    refine wpS_es rfl fun K hK => ?_
                    have HK := Lib.hid hK
                    clear hK
                    simp only [List.map_cons, List.map_nil, Option.getD_some, List.getElem?_toArray, List.getElem?_cons_zero, List.getElem?_cons_succ]
                    go_wp2_with fail
                    refine Hc.out.mono ?_
                    rintro e w9 ⟨rfl, F9, o9, hrow9, hk9, hg9⟩
                    have hbxa := Hbx9.out.disk Hst9.out.o hk9
                    obtain ⟨o9, pk9, hF9⟩ := Hst9.out.disk o9 hk9 hg9
                    have b1 := hbxa.cell 1
                    simp only [Act7.cs, List.getElem?_cons_succ, List.getElem?_cons_zero] at b1
                    have s9 : S w9 := (HS.out _).2 ⟨b1, conv_rdB hrow9.rd HB8.out⟩
                    have hc9 := pk_write t.sec B8 pk9 Hbd.out.1 Hbd.out.2.2.1 Hbd.out.2.2.2.1 Hbd.out.2.2.2.2
                    rw [Hpe.out] at hc9
                    clear hbxa hrow9 hk9 hg9 b1 Hc Hrow9
                    have O9 := Lib.hid o9
                    have Pk9 := Lib.hid pk9
                    have HF9 := Lib.hid hF9
                    have Hc9 := Lib.hid hc9
                    clear o9 pk9 hF9 hc9
                    go_wp2_with fail
                    refine HK.out _ _ (fun _ => s9) ?_
                    clear HK K
                    refine wpS_es rfl fun K hK => ?_
                    have HK := Lib.hid hK
                    clear hK
                    simp only [List.map_cons, List.map_nil, Option.getD_some, List.getElem?_toArray, List.getElem?_cons_zero, List.getElem?_cons_succ]
                    go_wp2_with fail
                    refine Hc9.out.mono ?_
                    rintro e wa ⟨rfl, pka, hka⟩
                    have oa := O9.out.plate Pk9.out HF9.out hka
                    have hsa : StD w wa d p F9 (D.write t.sec B8).2 (P.write t.sec B8).2 N z (j + 1) := ⟨oa, pka, HF9.out, Hinv.out⟩
                    clear oa pka hka Hc9
                    have Hsa := Lib.hid hsa
                    clear hsa
                    go_wp2_with fail
                    refine HK.out _ _ (fun h => by cases h) ?_
                    clear HK K
                    refine wpS_ps rfl fun K hK => ?_
                    simp only [List.map_cons, List.map_nil, Option.getD_some, List.getElem?_toArray, List.getElem?_cons_zero, List.getElem?_cons_succ]
                    iterate 1 (first | (apply quietO_cons _ rfl; (intro w' _; go_simp; rfl)) | apply quietO_skip rfl)
                    refine hK _ ?_
                    clear hK K
                    simp only [Act.put, List.setIfInBounds_toArray, List.set_cons_zero, List.set_cons_succ]
                    refine wpS_nil ?_
                    go_wp2_with fail
                    go_meet
                    case rel => exact ⟨d, F9, _, _, rfl, Hsa.out⟩
              ·
                by_cases n2 : t.op = 2
                · as_aux_lemma =>
                    have e1 : (t.op == 1) = false := by simp [n1]

                    have e2 : (t.op == 2) = true := by simp [n2]
                    obtain ⟨hi2, hs2⟩ := Hst.out.inv.sync
                    have hc := own_sync Hst.out.o Hdok.out
                    rw [hs2] at hc
                    unfold dp at hc
                    clear a5
                    cases hoff : D.off with
                    | true =>
                      rw [if_pos hoff] at hc
                      have hPo : P.off = true := by rw [Hst.out.inv.ag.off]; exact hoff
                      have hsy : P.synced = P := by unfold PlV.synced; rw [if_pos hPo]
                      rw [hsy] at hi2
                      have Hc := Lib.hid hc
                      have Hi2 := Lib.hid hi2
                      have HPo := Lib.hid hPo
                      have Hoff := Lib.hid hoff
                      have Hs2 := Lib.hid hs2
                      have Hsy := Lib.hid hsy
                      clear hc hi2 hPo hoff hs2 hsy
                      go_wp2_with fail
                      refine Hc.out.mono ?_
                      rintro e w6 ⟨rfl, F6, o6, hk6, hg6⟩
                      obtain ⟨o6, pk6, hF6⟩ := Hst.out.disk o6 hk6 hg6
                      have c4 := pk6.offCell
                      rw [HPo.out] at c4
                      have hs7 : StD w w6 d p F6 D.syncs.2 P N z (j + 1) := ⟨o6, pk6, hF6, Hi2.out.more (by omega)⟩
                      clear o6 pk6 hF6 hk6 hg6 Hc
                      have Hs7 := Lib.hid hs7
                      clear hs7
                      go_wp2_with fail
                      go_meet
                      case rel => exact ⟨d, F6, _, _, rfl, Hs7.out⟩
                    | false =>
                      rw [if_neg (by simp [hoff])] at hc
                      have hPo : P.off = false := by rw [Hst.out.inv.ag.off]; exact hoff
                      have Hc := Lib.hid hc
                      have Hi2 := Lib.hid hi2
                      have HPo := Lib.hid hPo
                      have Hoff := Lib.hid hoff
                      have Hs2 := Lib.hid hs2
                      clear hc hi2 hPo hoff hs2
                      go_wp2_with fail
                      refine Hc.out.mono ?_
                      rintro e w6 ⟨rfl, F6, o6, hk6, hg6⟩
                      obtain ⟨o6, pk6, hF6⟩ := Hst.out.disk o6 hk6 hg6
                      have c4 := pk6.offCell
                      rw [HPo.out] at c4
                      obtain ⟨A6, n6, c6, B6, m6, x6, r2, r1, z1, ⟨C6, k6, y6, r3⟩, z3, pk7, hk7⟩ := pk6.sync HPo.out
                      have o7 := o6.plate pk6 hF6 hk7
                      have hs7 : StD w ((w6.setCell ⟨p, 1, none⟩ (.slice A6 n6 c6)).setCell ⟨p, 3, none⟩ (.slice none 0 0)) d p F6 D.syncs.2 P.synced N z (j + 1) := ⟨o7, pk7, hF6, Hi2.out.more (by omega)⟩
                      clear o6 pk6 pk7 hF6 hk6 hg6 Hc hk7 o7
                      have Hs7 := Lib.hid hs7
                      clear hs7
                      go_wp2_with fail
                      go_meet
                      case rel => exact ⟨d, F6, _, _, rfl, Hs7.out⟩
                ·
                  by_cases n3 : t.op = 3
                  · as_aux_lemma =>
                      have e1 : (t.op == 1) = false := by simp [n1]
                      have e2 : (t.op == 2) = false := by simp [n2]

                      have e3 : (t.op == 3) = true := by simp [n3]
                      have hc := own_arm t.num _ gK t.keep Hst.out.o (by have := RK5.out; rw [Hkn.out] at this; exact this) (by have := Hkn.out; omega)
                      rw [← Hkn.out] at hc
                      unfold dp at hc
                      have a2 := Hbx.out.cell 2
                      simp only [Act7.cs, List.getElem?_cons_succ, List.getElem?_cons_zero] at a2
                      have Hc := Lib.hid hc
                      clear hc
                      go_wp2_with fail
                      refine Hc.out.mono ?_
                      rintro e w6 ⟨rfl, F6, o6, hk6, hg6⟩
                      have hbx6 := Hbx.out.disk Hst.out.o hk6
                      have rK6 := RK5.out.keep hk6 HgKF.out
                      obtain ⟨o6, pk6, hF6⟩ := Hst.out.disk o6 hk6 hg6
                      obtain ⟨⟨u, cu⟩, fu, pk7, hk7⟩ := pk6.setArm t.num
                      have o7 := o6.plate pk6 hF6 hk7
                      have hbx7 := hbx6.plate pk6 hk7
                      have rK7 := rK6.keep hk7 (fun k e e2 => by have e3 : k = p := e2; have := HgK.out k e; obtain ⟨cs, h1, h2⟩ := pk6.box; omega)
                      obtain ⟨w7, hw7⟩ : ∃ w7, w7 = w6.setCell ⟨p, 5, none⟩ (.int .i64 t.num) := ⟨_, rfl⟩
                      rw [← hw7] at pk7 hk7 o7 hbx7 rK7
                      have a2 := hbx6.cell 2
                      simp only [Act7.cs, List.getElem?_cons_succ, List.getElem?_cons_zero] at a2
                      have a5 := hbx7.cell 5
                      simp only [Act7.cs, List.getElem?_cons_succ, List.getElem?_cons_zero] at a5
                      rw [← Hkn.out] at a5
                      have c5 := pk7.armCell
                      rw [show (P.setArm t.num).arm = t.num from rfl] at c5
                      clear hk6 hg6 Hc hbx6 rK6 pk6 o6 hk7
                      by_cases hl1 : t.num < 1
                      · obtain ⟨⟨u8, cu8⟩, fu8, pk8, hk8⟩ := pk7.setArm 1
                        have o8 := o7.plate pk7 hF6 hk8
                        have hbx8 := hbx7.plate pk7 hk8
                        have rK8 := rK7.keep hk8 (fun k e e2 => by have e3 : k = p := e2; have := HgK.out k e; obtain ⟨cs, h1, h2⟩ := pk7.box; omega)
                        obtain ⟨w8, hw8⟩ : ∃ w8, w8 = w7.setCell ⟨p, 5, none⟩ (.int .i64 1) := ⟨_, rfl⟩
                        rw [← hw8] at pk8 hk8 o8 hbx8 rK8
                        have b5 := hbx8.cell 5
                        simp only [Act7.cs, List.getElem?_cons_succ, List.getElem?_cons_zero] at b5
                        rw [← Hkn.out] at b5
                        obtain ⟨⟨A9, n9, c9, cu9⟩, fu9, pk9, hk9⟩ := pk8.setKeep _ gK t.keep (by rw [Hkn.out] at rK8; exact rK8) HgK.out
                        have o9 := o8.plate pk8 hF6 hk9
                        rw [← Hkn.out] at pk9 o9
                        have hs9 : StD w (w8.setCell ⟨p, 6, none⟩ (.slice t.kA kn t.kc)) d p F6 (D.arm t.num t.keep) (P.armed t.num t.keep) N z (j + 1) := ⟨o9, by rw [armed_eq, if_pos hl1]; exact pk9, hF6, (Hst.out.inv.armed t.num t.keep Hnum.out (by have := Hkn.out; omega)).more (by omega)⟩
                        clear pk7 pk8 pk9 hk8 hk9 o7 o8 o9 hbx7 hbx8 rK7 rK8
                        have Hs9 := Lib.hid hs9
                        have Hw7 := Lib.hid hw7
                        have Hw8 := Lib.hid hw8
                        clear hs9 hw7 hw8
                        go_upto_region 41 with fail
                        rw [← Hw7.out]
                        go_upto_region 43 with fail
                        rw [← Hw8.out]
                        go_wp2_with fail
                        go_meet
                        case rel => exact ⟨d, F6, _, _, rfl, Hs9.out⟩
                      · obtain ⟨⟨A9, n9, c9, cu9⟩, fu9, pk9, hk9⟩ := pk7.setKeep _ gK t.keep (by rw [Hkn.out] at rK7; exact rK7) HgK.out
                        have o9 := o7.plate pk7 hF6 hk9
                        rw [← Hkn.out] at pk9 o9
                        have hs9 : StD w (w7.setCell ⟨p, 6, none⟩ (.slice t.kA kn t.kc)) d p F6 (D.arm t.num t.keep) (P.armed t.num t.keep) N z (j + 1) := ⟨o9, by rw [armed_eq, if_neg hl1]; exact pk9, hF6, (Hst.out.inv.armed t.num t.keep Hnum.out (by have := Hkn.out; omega)).more (by omega)⟩
                        clear pk7 pk9 hk9 o7 o9 hbx7 rK7
                        have Hs9 := Lib.hid hs9
                        have Hw7 := Lib.hid hw7
                        clear hs9 hw7
                        go_upto_region 41 with fail
                        rw [← Hw7.out]
                        go_wp2_with fail
                        go_meet
                        case rel => exact ⟨d, F6, _, _, rfl, Hs9.out⟩
                  ·
                    by_cases n4 : t.op = 4
                    · as_aux_lemma =>
                        have e1 : (t.op == 1) = false := by simp [n1]
                        have e2 : (t.op == 2) = false := by simp [n2]
                        have e3 : (t.op == 3) = false := by simp [n3]

                        have e4 : (t.op == 4) = true := by simp [n4]
                        have hc := own_cut _ gK t.keep Hst.out.o Hdok.out (by have := RK5.out; rw [Hkn.out] at this; exact this) HgKF.out
                        rw [← Hkn.out] at hc
                        unfold dp at hc
                        have Hc := Lib.hid hc
                        clear hc
                        go_wp2_with fail
                        refine Hc.out.mono ?_
                        rintro e w6 ⟨rfl, F6, o6, hk6, hg6⟩
                        have hbx6 := Hbx.out.disk Hst.out.o hk6
                        have rK6 := RK5.out.keep hk6 HgKF.out
                        obtain ⟨o6, pk6, hF6⟩ := Hst.out.disk o6 hk6 hg6
                        have hc2 := pk_power t.kA t.kc gK t.keep pk6 (by rw [Hkn.out] at rK6; exact rK6) Hbd.out.2.2.1 Hbd.out.2.1
                        rw [← Hkn.out] at hc2
                        have a5 := hbx6.cell 5
                        simp only [Act7.cs, List.getElem?_cons_succ, List.getElem?_cons_zero] at a5
                        rw [← Hkn.out] at a5
                        clear hk6 hg6 Hc hbx6 rK6
                        have O6 := Lib.hid o6
                        have Pk6 := Lib.hid pk6
                        have HF6 := Lib.hid hF6
                        have Hc2 := Lib.hid hc2
                        clear o6 pk6 hF6 hc2
                        go_wp2_with fail
                        refine Hc2.out.mono ?_
                        rintro e w7 ⟨rfl, pk7, hk7⟩
                        have o7 := O6.out.plate Pk6.out HF6.out hk7
                        have hs7 : StD w w7 d p F6 (D.cut t.keep) (P.power t.keep) N z (j + 1) := ⟨o7, pk7, HF6.out, (Hst.out.inv.cut t.keep).more (by omega)⟩
                        clear o7 pk7 hk7 Hc2 a5
                        have Hs7 := Lib.hid hs7
                        clear hs7
                        go_wp2_with fail
                        go_meet
                        case rel => exact ⟨d, F6, _, _, rfl, Hs7.out⟩
                    ·
                      by_cases n5 : t.op = 5
                      · as_aux_lemma =>
                          have e1 : (t.op == 1) = false := by simp [n1]
                          have e2 : (t.op == 2) = false := by simp [n2]
                          have e3 : (t.op == 3) = false := by simp [n3]
                          have e4 : (t.op == 4) = false := by simp [n4]

                          have e5 : (t.op == 5) = true := by simp [n5]
                          have hc := own_on Hst.out.o
                          unfold dp at hc
                          have Hc := Lib.hid hc
                          clear hc
                          clear a5
                          go_wp2_with fail
                          refine Hc.out.mono ?_
                          rintro e w6 ⟨rfl, F6, o6, hk6, hg6⟩
                          obtain ⟨o6, pk6, hF6⟩ := Hst.out.disk o6 hk6 hg6
                          obtain ⟨⟨u, cu⟩, fu, pk7, hk7⟩ := pk6.setOff
                          have o7 := o6.plate pk6 hF6 hk7
                          have hs7 : StD w (w6.setCell ⟨p, 4, none⟩ (.bool false)) d p F6 D.on P.on N z (j + 1) := ⟨o7, pk7, hF6, (Hst.out.inv.on).more (by omega)⟩
                          clear o6 pk6 pk7 hk7 o7 hk6 hg6 Hc
                          have Hs7 := Lib.hid hs7
                          clear hs7
                          go_wp2_with fail
                          go_meet
                          case rel => exact ⟨d, F6, _, _, rfl, Hs7.out⟩
                      ·
                        by_cases n6 : t.op = 6
                        · as_aux_lemma =>
                            have e1 : (t.op == 1) = false := by simp [n1]
                            have e2 : (t.op == 2) = false := by simp [n2]
                            have e3 : (t.op == 3) = false := by simp [n3]
                            have e4 : (t.op == 4) = false := by simp [n4]
                            have e5 : (t.op == 5) = false := by simp [n5]

                            have e6 : (t.op == 6) = true := by simp [n6]
                            have hc := dk_twin Hst.out.o.k Hdok.out
                            unfold dp at hc
                            clear a5
                            have Hc := Lib.hid hc
                            clear hc
                            go_wp2_with fail
                            refine Hc.out.mono ?_
                            rintro e w6 ⟨d6, F6, rfl, k6, hF6, hk6⟩
                            have hs6 := Hst.out.same hk6
                            have hc2 := own_cut _ _ [] hs6.o Hdok.out (RecT.Rd.nil recBo w6) (fun k e => by cases e)
                            unfold dp at hc2
                            clear Hc
                            have Hs6 := Lib.hid hs6
                            have Hc2 := Lib.hid hc2
                            have K6 := Lib.hid k6
                            have HF6 := Lib.hid hF6
                            have Hk6 := Lib.hid hk6
                            clear hs6 hc2 k6 hF6 hk6
                            go_wp2_with fail
                            refine Hc2.out.mono ?_
                            rintro e w7 ⟨rfl, F7, o7, hk7, hg7⟩
                            have k7 : DK w7 d6 F6 D := K6.out.keepAll hk7 (fun k h6 h => by have := HF6.out k h6; have := Hst.out.o.k.lt k h; omega) Hs6.out.o.k.notRaw
                            have pk7 := Hs6.out.pk.disk Hs6.out.o Hs6.out.hF hk7
                            have hpl : ¬ F6 p := fun h => by obtain ⟨cs, h1, -⟩ := Hst.out.pk.box; have := HF6.out p h; have := h1.lt; omega
                            have hs7 : StD w w7 d6 p F6 D P N z (j + 1) := ⟨⟨k7, fun k h => Nat.le_trans Hst.out.o.kp.size (HF6.out k h), o7.kp⟩, pk7, hpl, Hst.out.inv.more (by omega)⟩
                            clear k7 pk7 hpl o7 hk7 hg7 Hc2
                            have Hs7 := Lib.hid hs7
                            clear hs7
                            go_wp2_with fail
                            go_meet
                            case rel => exact ⟨d6, F6, _, _, rfl, Hs7.out⟩
                        ·
                          as_aux_lemma =>
                            have e1 : (t.op == 1) = false := by simp [n1]
                            have e2 : (t.op == 2) = false := by simp [n2]
                            have e3 : (t.op == 3) = false := by simp [n3]
                            have e4 : (t.op == 4) = false := by simp [n4]
                            have e5 : (t.op == 5) = false := by simp [n5]
                            have e6 : (t.op == 6) = false := by simp [n6]

                            clear a0 a5
                            go_wp2_with fail
                            go_meet
                            case rel => exact ⟨d, F, D, P, rfl, ⟨Hst.out.o, Hst.out.pk, Hst.out.hF, Hst.out.inv.more (by omega)⟩⟩
            case rest =>
              as_aux_lemma =>
                obtain ⟨d', F', D', P', rfl, hs⟩ := hcut
                obtain ⟨kv, nv, wv, kp, gk, hP⟩ := hs.pk
                have hc := same_any hs.o (hs.inv.ok hN2 hz2 (by omega)) hP hs.inv.ag (by rw [hs.inv.size]; omega) (by rw [hs.inv.kept]; omega) (by rw [hs.inv.kept]; omega)
                clear hP
                have Hs := Lib.hid hs
                have Hc := Lib.hid hc
                clear hs hc
                go_wp2_with fail
                refine Hc.out.mono ?_
                rintro e w9 ⟨rfl, hk9⟩
                have hs9 := Hs.out.same hk9
                clear Hc hk9
                have Hs9 := Lib.hid hs9
                clear hs9
                go_wp2_with fail
                go_roundw
                case rel => exact ⟨j + 1, d', F', D', P', rfl, by simp, by omega, Hs9.out⟩
                case measure => simp [intOf]; omega
        · obtain rfl : j = L := by omega
          have hjI : ¬ (j : Int) < j := by omega
          have hkf := hst.o.kp
          clear hst
          have Hkf := Lib.hid hkf
          clear hkf
          go_wp2_with fail
          go_ret
          exact ⟨rfl, Hkf.out⟩
end Go.Proofs.Ytnddaildicmneaa
