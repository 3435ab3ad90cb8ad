/-
  loggialaw25.QueuePlays: the walk.
-/
import Derived.Test.YtnccgmffgmfinaaQP0
import Derived.Deep.CutBlock
import Derived.Deep.CutRange
import Derived.BigQuiet
namespace Go.Proofs.Ytnccgmffgmfinaa
open Go.RowKit Go.Shelf

theorem own_put2 {w0 w : World} {p : Nat} {g : Option Nat} {l : List J} (j : J) (h : QOwn w0 w p g l) (hl : l.length ≤ 512) :
    Calls Try.prog 23 #[qp p, j.v] w fun e w' => e = .returned (.int .i64 (putE l j)) ∧ ∃ g', QOwn w0 w' p g' (putL l j) ∧ Keeps (only2 p g) w w' ∧ From g w.heap.size g' :=
  (qput_any w p g l j h.q hl).mono fun e w' ⟨he, g', hq, hk, hf⟩ => ⟨he, g', ⟨hq, h.hp, h.hg.of_from hf h.k.size, h.k.fresh2 hk h.hp h.hg⟩, hk, hf⟩
theorem ne_from {w w0 : World} {p : Nat} {g g' : Option Nat} {l : List J} {rv : Value} (h : JRow w rv l) (hne : ∀ b, rv.ownBlock = some b → ¬ only2 p g b) (hf : From g w.heap.size g') : ∀ b, rv.ownBlock = some b → ¬ only2 p g' b := fun b hb e => by
  rcases e with e | e
  · exact hne b hb (.inl e)
  · rcases hf b e.symm with h1 | h1
    · exact hne b hb (.inr h1.symm)
    · have := (h.lt b hb).2; omega

theorem ActBox25.keep {w w' : World} {q : Nat} {t : Act25} (h : ActBox25 w q t) (hk : Keeps nowhere w w') : ActBox25 w' q t := Blk.keep h hk (fun h => h)
theorem jneq_same (j : J) (w : World) : (binOp .neq 45 (.agg #[.int .i64 j.c, .int .u16 j.t, .int .u16 j.o, .bool j.s]) (.agg #[.int .i64 j.c, .int .u16 j.t, .int .u16 j.o, .bool j.s])).run Try.prog w = .ok (.bool false) w := by
  have h : (Op.equalIn 10000 45 (.agg #[.int .i64 j.c, .int .u16 j.t, .int .u16 j.o, .bool j.s]) (.agg #[.int .i64 j.c, .int .u16 j.t, .int .u16 j.o, .bool j.s])).run Try.prog w = .ok true w := by
    simp [go_sem]
  rw [run_neq_struct, h]
  rfl
theorem OwnI.at_ {w : World} {A : Option Addr} {n c : Nat} {zs : List Nat} (h : OwnI w (.slice A n c) zs) {k z : Nat} (hz : zs[k]? = some z) : ∃ b, A = some ⟨b, 0, none⟩ ∧ b < w.heap.size ∧ w.cell? ⟨b, k, none⟩ = some (.int .i64 (z : Int)) := by
  have hlt := (List.getElem?_eq_some_iff.1 hz).1
  obtain ⟨b, o', c', he, -, hb, -, -, hc⟩ := (Rd.of_own h).plain (by rw [List.length_map]; omega)
  rcases h.2 with ⟨e, h0⟩ | ⟨g, cap, cur, e, -⟩
  · omega
  · injection e with e1 e2 e3
    injection he with f1 f2 f3
    rw [e1] at f1
    injection f1 with f1
    injection f1 with f1 f4
    subst f1 f4
    refine ⟨g, e1, hb, ?_⟩
    have := hc k (.int .i64 (z : Int)) (by rw [List.getElem?_map, hz]; rfl)
    rwa [Nat.zero_add] at this

set_option maxRecDepth 20000 in
theorem qplays_long (A : Option Addr) (L c : Nat) (w : World) (h80 : 80 < L) (hlen : L ≤ 9223372036854775807) : Calls Try.prog 7 #[.slice A L c] w (YesQ w) := by
  have h80' : (80 : Int) < L := by omega
  go_enter Try.func7, Try.ntmps7
  go_wp2_with fail
  refine (known25 _).mono ?_
  rintro e w0 ⟨rfl, hk0⟩
  have Hk0 := Lib.hid hk0
  clear hk0
  go_wp2_with fail
  go_ret
  exact ⟨rfl, Hk0.out⟩

set_option maxRecDepth 20000 in
set_option maxHeartbeats 16000000 in
theorem qplays_any (A : Option Addr) (l : List Act25) (c : Nat) (w : World) (hA : Act25Arr w A l) (h80 : ¬ 80 < l.length) : Calls Try.prog 7 #[.slice A l.length c] w (YesQ w) := by
  obtain ⟨L, hL⟩ : ∃ L, L = l.length := ⟨_, rfl⟩
  rw [← hL] at h80 ⊢
  have h80' : ¬ (80 : Int) < L := by omega
  have HA := Lib.hid hA
  have HL := Lib.hid hL
  clear hA hL
  go_enter Try.func7, Try.ntmps7
  go_wp2_with fail
  refine (known25 _).mono ?_
  rintro e w0 ⟨rfl, hk0⟩
  go_wp2_with fail
  refine (own_new w _ hk0).mono ?_
  rintro e w1 ⟨p, rfl, h1⟩
  clear hk0
  unfold qp
  have hst : StandQ w w1 p none [] (.slice none 0 0) := ⟨h1, JRow.nil _, fun b hb => by cases hb⟩
  have H1 := Lib.hid h1
  have Hst := Lib.hid hst
  clear h1 hst
  go_wp2_with fail
  go_loopw [4, 5] (fun rv iv wr => ∃ (i : Nat) (g : Option Nat) (r : List J), iv = .int .i64 i ∧ i ≤ L ∧ StandQ w wr p g r rv ∧ Once r ∧ r.length ≤ i) (fun _ iv _ => L - (intOf iv).toNat)
  case atStart => exact ⟨0, none, [], rfl, Nat.zero_le _, Hst.out, Once.nil, Nat.le_refl _⟩
  case round =>
    clear Hst H1
    obtain ⟨i, g, r, rfl, hi, hst, ho, hrl⟩ := hrel
    by_cases hlt : i < L
    · have hltI : (i : Int) < L := by omega
      have hi0 : (0 : Int) ≤ (i : Int) := by omega
      have hi1 : IntKind.i64.wrap ((i : Int) + 1) = i + 1 := IntWalk.i64_in _ (by omega)
      obtain ⟨b, off, rfl, hbw, hcells⟩ := HA.out (by rw [← HL.out]; omega)
      obtain ⟨⟨o, N, ⟨jc, jt, jo, js⟩⟩, ht⟩ : ∃ t, l[i]? = some t := ⟨l[i]'(by rw [← HL.out]; exact hlt), List.getElem?_eq_getElem _⟩
      obtain ⟨hok, d0, d1, d2, d3, d4, d5⟩ := hcells i _ ht
      have hkc : ∀ a v, w.cell? ⟨b, a, none⟩ = some v → wr.cell? ⟨b, a, none⟩ = some v := fun a v h => (hst.q.k.cell (p := ⟨b, a, none⟩) hbw (fun h => h)).trans h
      have d0 : wr.cell? ⟨b, off + i * 6, none⟩ = some (.int .i64 o) := hkc _ _ d0
      have d1 : wr.cell? ⟨b, off + i * 6 + 1, none⟩ = some (.int .i64 N) := hkc _ _ d1
      have d2 : wr.cell? ⟨b, off + i * 6 + 2, none⟩ = some (.int .i64 jc) := hkc _ _ d2
      have d3 : wr.cell? ⟨b, off + i * 6 + 3, none⟩ = some (.int .u16 jt) := hkc _ _ d3
      have d4 : wr.cell? ⟨b, off + i * 6 + 4, none⟩ = some (.int .u16 jo) := hkc _ _ d4
      have d5 : wr.cell? ⟨b, off + i * 6 + 5, none⟩ = some (.bool js) := hkc _ _ d5
      have hN63 : N ≤ 9223372036854775807 := hok
      obtain ⟨R, hR⟩ : ∃ R, R = r.length := ⟨_, rfl⟩
      obtain ⟨w5, hw5⟩ : ∃ w5, w5 = wr.alloc (.cells #[.int .i64 o, .int .i64 N, .int .i64 jc, .int .u16 jt, .int .u16 jo, .bool js] 47) := ⟨_, rfl⟩
      obtain ⟨q, hq⟩ : ∃ q, q = wr.heap.size := ⟨_, rfl⟩
      have hbx : ActBox25 w5 q ⟨o, N, ⟨jc, jt, jo, js⟩⟩ := by rw [hw5, hq]; exact Blk.new _ _ _
      have hst1 := hst.same ((Keeps.refl nowhere wr).alloc (.cells #[.int .i64 o, .int .i64 N, .int .i64 jc, .int .u16 jt, .int .u16 jo, .bool js] 47))
      rw [← hw5] at hst1
      obtain ⟨Ar, cr, rfl, -, -, -, hrc, -⟩ := hst1.r.rd
      rw [← hR] at hrl hst1
      clear hcells hok hkc ht
      have Hst := Lib.hid hst
      have Hst1 := Lib.hid hst1
      have Hbx := Lib.hid hbx
      have HR := Lib.hid hR
      have Hrc := Lib.hid hrc
      have Ho := Lib.hid ho
      have Hw5 := Lib.hid hw5
      have Hq := Lib.hid hq
      clear hst hst1 hbx hR hrc ho hw5 hq
      go_wp2_with fail
      simp only [← HR.out, ← Hq.out]
      go_loopw [7, 8] (fun av kv w2 => ∃ (k : Nat) (a : Int), kv = .int .i64 k ∧ av = .int .i64 a ∧ k ≤ R ∧ LastAt r jc jt k a ∧ Keeps nowhere w5 w2) (fun _ kv _ => R - (intOf kv).toNat)
      case atStart => exact ⟨0, _, rfl, rfl, Nat.zero_le _, LastAt.start _ _ _, by rw [Hw5.out]; exact Keeps.refl _ _⟩
      case round =>
        obtain ⟨k, a, rfl, rfl, hk, hla, hk2⟩ := hrel
        have hst2 := Hst1.out.same hk2
        have hbx2 := ActBox25.keep Hbx.out hk2
        by_cases hkR : k < R
        · as_aux_lemma =>
            have hkI : (k : Int) < R := by omega
            have hk0 : (0 : Int) ≤ (k : Int) := by omega
            have hk1 : IntKind.i64.wrap ((k : Int) + 1) = k + 1 := IntWalk.i64_in _ (by omega)
            obtain ⟨b0, off0, rfl, -, -⟩ := Hrc.out (by rw [← HR.out]; omega)
            obtain ⟨x, hx⟩ : ∃ x, r[k]? = some x := ⟨_, List.getElem?_eq_getElem (by rw [← HR.out]; exact hkR)⟩
            obtain ⟨A3, c3, hv3, -, -, -, hc3, -⟩ := hst2.r.rd
            injection hv3 with hA3 hl3 hcr3
            clear hl3 hcr3
            subst hA3
            obtain ⟨b3, off3, hA3, -, hc3⟩ := hc3 (by rw [← HR.out]; omega)
            injection hA3 with hA3
            injection hA3 with hb3 ho3 _
            subst hb3 ho3
            obtain ⟨e0, e1, e2, e3⟩ := hc3 k x hx
            obtain ⟨_, _, c2, c3', _, _⟩ := ActBox25.cells hbx2
            obtain ⟨xc, xt, xo, xs⟩ := x
            simp only at e0 e1 c2 c3'
            have clx0 : ∀ w', w' = wr.drew → w'.cell? ⟨b0, off0 + k * 4, none⟩ = some (.int .i64 xc) := fun w' e => by rw [e]; exact e0
            have clx1 : ∀ w', w' = wr.drew → w'.cell? ⟨b0, off0 + k * 4 + 1, none⟩ = some (.int .u16 xt) := fun w' e => by rw [e]; exact e1
            have Hx := Lib.hid hx
            have Hla := Lib.hid hla
            have Hst2 := Lib.hid hst2
            have Hbx2 := Lib.hid hbx2
            have Hk2 := Lib.hid hk2
            clear hx hla hst2 hbx2 hk2
            clear Hst Hw5 hc3 Hrc e2 e3
            by_cases hxc : xc = jc
            · have hxc' : (xc == jc) = true := by simp [hxc]
              by_cases hxt : xt = jt
              · have hxt' : ((xt : Int) == jt) = true := by simp [hxt]
                have Hxc := Lib.hid hxc
                have Hxt := Lib.hid hxt
                clear hxc hxt
                go_wp2_with fail
                refine wp_region_script [0, 1, 2, 3, 4, 5, 6, 8, 9, 10, 11, 12, 13, 14, 15, 16, 18, 19] [4, 14] [.ps [0, 1, 2, 3], .fs [4], .ps [5, 6], .es [7] true, .ps [8, 9, 10, 11, 12, 13], .fs [14], .ps [15, 16], .es [17] true, .ps [18, 19]] (fun w' => w' = wr.drew) rfl (by kernel_rfl) ?_
                refine wpS_ps rfl fun K hK => ?_
                simp only [List.map_cons, List.map_nil, Option.getD_some, List.getElem?_toArray, List.getElem?_cons_zero, List.getElem?_cons_succ]
                iterate 4 (first | (apply quietO_cons _ rfl; (intro w' _; go_simp; rfl)) | apply quietO_skip rfl)
                refine hK _ ?_
                clear hK K
                simp only [Act.put, List.setIfInBounds_toArray, List.set_cons_zero, List.set_cons_succ]
                refine wpS_fs rfl (rfl) fun K hK => ?_
                simp only [List.map_cons, List.map_nil, Option.getD_some, List.getElem?_toArray, List.getElem?_cons_zero, List.getElem?_cons_succ]
                iterate 1 (first | (apply quietO_cons _ rfl; (intro w' hs; have c_0 := clx0 w' hs; go_simp; rfl)) | apply quietO_skip rfl)
                refine hK _ ?_
                clear hK K
                simp only [Act.put, List.setIfInBounds_toArray, List.set_cons_zero, List.set_cons_succ]
                refine wpS_ps rfl fun K hK => ?_
                simp only [List.map_cons, List.map_nil, Option.getD_some, List.getElem?_toArray, List.getElem?_cons_zero, List.getElem?_cons_succ]
                iterate 2 (first | (apply quietO_cons _ rfl; (intro w' _; go_simp; rfl)) | apply quietO_skip rfl)
                refine hK _ ?_
                clear hK K
                simp only [Act.put, List.setIfInBounds_toArray, List.set_cons_zero, List.set_cons_succ]
                refine wpS_es rfl fun K hK => ?_
                have HK := Lib.hid hK
                clear hK
                simp only [List.map_cons, List.map_nil, Option.getD_some, List.getElem?_toArray, List.getElem?_cons_zero, List.getElem?_cons_succ]
                go_wp2_with fail
                refine HK.out _ _ (fun _ => rfl) ?_
                clear HK K
                refine wpS_ps rfl fun K hK => ?_
                simp only [List.map_cons, List.map_nil, Option.getD_some, List.getElem?_toArray, List.getElem?_cons_zero, List.getElem?_cons_succ]
                iterate 6 (first | (apply quietO_cons _ rfl; (intro w' _; go_simp; rfl)) | apply quietO_skip rfl)
                refine hK _ ?_
                clear hK K
                simp only [Act.put, List.setIfInBounds_toArray, List.set_cons_zero, List.set_cons_succ]
                refine wpS_fs rfl (rfl) fun K hK => ?_
                simp only [List.map_cons, List.map_nil, Option.getD_some, List.getElem?_toArray, List.getElem?_cons_zero, List.getElem?_cons_succ]
                iterate 1 (first | (apply quietO_cons _ rfl; (intro w' hs; have c_0 := clx1 w' hs; go_simp; rfl)) | apply quietO_skip rfl)
                refine hK _ ?_
                clear hK K
                simp only [Act.put, List.setIfInBounds_toArray, List.set_cons_zero, List.set_cons_succ]
                refine wpS_ps rfl fun K hK => ?_
                simp only [List.map_cons, List.map_nil, Option.getD_some, List.getElem?_toArray, List.getElem?_cons_zero, List.getElem?_cons_succ]
                iterate 2 (first | (apply quietO_cons _ rfl; (intro w' _; go_simp; rfl)) | apply quietO_skip rfl)
                refine hK _ ?_
                clear hK K
                simp only [Act.put, List.setIfInBounds_toArray, List.set_cons_zero, List.set_cons_succ]
                refine wpS_es rfl fun K hK => ?_
                have HK := Lib.hid hK
                clear hK
                simp only [List.map_cons, List.map_nil, Option.getD_some, List.getElem?_toArray, List.getElem?_cons_zero, List.getElem?_cons_succ]
                go_wp2_with fail
                refine HK.out _ _ (fun _ => rfl) ?_
                clear HK K
                refine wpS_ps rfl fun K hK => ?_
                simp only [List.map_cons, List.map_nil, Option.getD_some, List.getElem?_toArray, List.getElem?_cons_zero, List.getElem?_cons_succ]
                iterate 2 (first | (apply quietO_cons _ rfl; (intro w' _; go_simp; rfl)) | apply quietO_skip rfl)
                refine hK _ ?_
                clear hK K
                simp only [Act.put, List.setIfInBounds_toArray, List.set_cons_zero, List.set_cons_succ]
                refine wpS_nil ?_
                go_wp2_with fail
                go_roundw

                case rel => exact ⟨k + 1, k, by simp, rfl, by omega, LastAt.hit Hx.out (by simp [isJ, Hxc.out, Hxt.out]), Hk2.out.drew⟩
                case measure => simp [intOf]; omega
              · have hxt' : ((xt : Int) == jt) = false := by simp; omega
                have Hxc := Lib.hid hxc
                have Hxt := Lib.hid hxt
                clear hxc hxt
                go_wp2_with fail
                refine wp_region_script [0, 1, 2, 3, 4, 5, 6, 8, 9, 10, 11, 12, 13, 14, 15, 16, 18, 19] [4, 14] [.ps [0, 1, 2, 3], .fs [4], .ps [5, 6], .es [7] true, .ps [8, 9, 10, 11, 12, 13], .fs [14], .ps [15, 16], .es [17] true, .ps [18, 19]] (fun w' => w' = wr.drew) rfl (by kernel_rfl) ?_
                refine wpS_ps rfl fun K hK => ?_
                simp only [List.map_cons, List.map_nil, Option.getD_some, List.getElem?_toArray, List.getElem?_cons_zero, List.getElem?_cons_succ]
                iterate 4 (first | (apply quietO_cons _ rfl; (intro w' _; go_simp; rfl)) | apply quietO_skip rfl)
                refine hK _ ?_
                clear hK K
                simp only [Act.put, List.setIfInBounds_toArray, List.set_cons_zero, List.set_cons_succ]
                refine wpS_fs rfl (rfl) fun K hK => ?_
                simp only [List.map_cons, List.map_nil, Option.getD_some, List.getElem?_toArray, List.getElem?_cons_zero, List.getElem?_cons_succ]
                iterate 1 (first | (apply quietO_cons _ rfl; (intro w' hs; have c_0 := clx0 w' hs; go_simp; rfl)) | apply quietO_skip rfl)
                refine hK _ ?_
                clear hK K
                simp only [Act.put, List.setIfInBounds_toArray, List.set_cons_zero, List.set_cons_succ]
                refine wpS_ps rfl fun K hK => ?_
                simp only [List.map_cons, List.map_nil, Option.getD_some, List.getElem?_toArray, List.getElem?_cons_zero, List.getElem?_cons_succ]
                iterate 2 (first | (apply quietO_cons _ rfl; (intro w' _; go_simp; rfl)) | apply quietO_skip rfl)
                refine hK _ ?_
                clear hK K
                simp only [Act.put, List.setIfInBounds_toArray, List.set_cons_zero, List.set_cons_succ]
                refine wpS_es rfl fun K hK => ?_
                have HK := Lib.hid hK
                clear hK
                simp only [List.map_cons, List.map_nil, Option.getD_some, List.getElem?_toArray, List.getElem?_cons_zero, List.getElem?_cons_succ]
                go_wp2_with fail
                refine HK.out _ _ (fun _ => rfl) ?_
                clear HK K
                refine wpS_ps rfl fun K hK => ?_
                simp only [List.map_cons, List.map_nil, Option.getD_some, List.getElem?_toArray, List.getElem?_cons_zero, List.getElem?_cons_succ]
                iterate 6 (first | (apply quietO_cons _ rfl; (intro w' _; go_simp; rfl)) | apply quietO_skip rfl)
                refine hK _ ?_
                clear hK K
                simp only [Act.put, List.setIfInBounds_toArray, List.set_cons_zero, List.set_cons_succ]
                refine wpS_fs rfl (rfl) fun K hK => ?_
                simp only [List.map_cons, List.map_nil, Option.getD_some, List.getElem?_toArray, List.getElem?_cons_zero, List.getElem?_cons_succ]
                iterate 1 (first | (apply quietO_cons _ rfl; (intro w' hs; have c_0 := clx1 w' hs; go_simp; rfl)) | apply quietO_skip rfl)
                refine hK _ ?_
                clear hK K
                simp only [Act.put, List.setIfInBounds_toArray, List.set_cons_zero, List.set_cons_succ]
                refine wpS_ps rfl fun K hK => ?_
                simp only [List.map_cons, List.map_nil, Option.getD_some, List.getElem?_toArray, List.getElem?_cons_zero, List.getElem?_cons_succ]
                iterate 2 (first | (apply quietO_cons _ rfl; (intro w' _; go_simp; rfl)) | apply quietO_skip rfl)
                refine hK _ ?_
                clear hK K
                simp only [Act.put, List.setIfInBounds_toArray, List.set_cons_zero, List.set_cons_succ]
                refine wpS_es rfl fun K hK => ?_
                have HK := Lib.hid hK
                clear hK
                simp only [List.map_cons, List.map_nil, Option.getD_some, List.getElem?_toArray, List.getElem?_cons_zero, List.getElem?_cons_succ]
                go_wp2_with fail
                refine HK.out _ _ (fun _ => rfl) ?_
                clear HK K
                refine wpS_ps rfl fun K hK => ?_
                simp only [List.map_cons, List.map_nil, Option.getD_some, List.getElem?_toArray, List.getElem?_cons_zero, List.getElem?_cons_succ]
                iterate 2 (first | (apply quietO_cons _ rfl; (intro w' _; go_simp; rfl)) | apply quietO_skip rfl)
                refine hK _ ?_
                clear hK K
                simp only [Act.put, List.setIfInBounds_toArray, List.set_cons_zero, List.set_cons_succ]
                refine wpS_nil ?_
                go_wp2_with fail
                go_roundw

                case rel => exact ⟨k + 1, a, by simp, rfl, by omega, Hla.out.miss Hx.out (by simp [isJ, Hxt.out]), Hk2.out.drew⟩
                case measure => simp [intOf]; omega
            · have hxc' : (xc == jc) = false := by simp [hxc]
              have Hxc := Lib.hid hxc
              clear hxc
              go_wp2_with fail
              refine wp_region_script [0, 1, 2, 3, 4, 5, 6, 8, 9, 10, 11, 12, 13, 14, 15, 16, 18, 19] [4, 14] [.ps [0, 1, 2, 3], .fs [4], .ps [5, 6], .es [7] true, .ps [8, 9, 10, 11, 12, 13], .fs [14], .ps [15, 16], .es [17] true, .ps [18, 19]] (fun w' => w' = wr.drew) rfl (by kernel_rfl) ?_
              refine wpS_ps rfl fun K hK => ?_
              simp only [List.map_cons, List.map_nil, Option.getD_some, List.getElem?_toArray, List.getElem?_cons_zero, List.getElem?_cons_succ]
              iterate 4 (first | (apply quietO_cons _ rfl; (intro w' _; go_simp; rfl)) | apply quietO_skip rfl)
              refine hK _ ?_
              clear hK K
              simp only [Act.put, List.setIfInBounds_toArray, List.set_cons_zero, List.set_cons_succ]
              refine wpS_fs rfl (rfl) fun K hK => ?_
              simp only [List.map_cons, List.map_nil, Option.getD_some, List.getElem?_toArray, List.getElem?_cons_zero, List.getElem?_cons_succ]
              iterate 1 (first | (apply quietO_cons _ rfl; (intro w' hs; have c_0 := clx0 w' hs; go_simp; rfl)) | apply quietO_skip rfl)
              refine hK _ ?_
              clear hK K
              simp only [Act.put, List.setIfInBounds_toArray, List.set_cons_zero, List.set_cons_succ]
              refine wpS_ps rfl fun K hK => ?_
              simp only [List.map_cons, List.map_nil, Option.getD_some, List.getElem?_toArray, List.getElem?_cons_zero, List.getElem?_cons_succ]
              iterate 2 (first | (apply quietO_cons _ rfl; (intro w' _; go_simp; rfl)) | apply quietO_skip rfl)
              refine hK _ ?_
              clear hK K
              simp only [Act.put, List.setIfInBounds_toArray, List.set_cons_zero, List.set_cons_succ]
              refine wpS_es rfl fun K hK => ?_
              have HK := Lib.hid hK
              clear hK
              simp only [List.map_cons, List.map_nil, Option.getD_some, List.getElem?_toArray, List.getElem?_cons_zero, List.getElem?_cons_succ]
              go_wp2_with fail
              refine HK.out _ _ (fun _ => rfl) ?_
              clear HK K
              refine wpS_ps rfl fun K hK => ?_
              simp only [List.map_cons, List.map_nil, Option.getD_some, List.getElem?_toArray, List.getElem?_cons_zero, List.getElem?_cons_succ]
              iterate 6 (first | (apply quietO_cons _ rfl; (intro w' _; go_simp; rfl)) | apply quietO_skip rfl)
              refine hK _ ?_
              clear hK K
              simp only [Act.put, List.setIfInBounds_toArray, List.set_cons_zero, List.set_cons_succ]
              refine wpS_fs rfl (rfl) fun K hK => ?_
              simp only [List.map_cons, List.map_nil, Option.getD_some, List.getElem?_toArray, List.getElem?_cons_zero, List.getElem?_cons_succ]
              iterate 1 (first | (apply quietO_cons _ rfl; (intro w' hs; have c_0 := clx1 w' hs; go_simp; rfl)) | apply quietO_skip rfl)
              refine hK _ ?_
              clear hK K
              simp only [Act.put, List.setIfInBounds_toArray, List.set_cons_zero, List.set_cons_succ]
              refine wpS_ps rfl fun K hK => ?_
              simp only [List.map_cons, List.map_nil, Option.getD_some, List.getElem?_toArray, List.getElem?_cons_zero, List.getElem?_cons_succ]
              iterate 2 (first | (apply quietO_cons _ rfl; (intro w' _; go_simp; rfl)) | apply quietO_skip rfl)
              refine hK _ ?_
              clear hK K
              simp only [Act.put, List.setIfInBounds_toArray, List.set_cons_zero, List.set_cons_succ]
              refine wpS_es rfl fun K hK => ?_
              have HK := Lib.hid hK
              clear hK
              simp only [List.map_cons, List.map_nil, Option.getD_some, List.getElem?_toArray, List.getElem?_cons_zero, List.getElem?_cons_succ]
              go_wp2_with fail
              refine HK.out _ _ (fun _ => rfl) ?_
              clear HK K
              refine wpS_ps rfl fun K hK => ?_
              simp only [List.map_cons, List.map_nil, Option.getD_some, List.getElem?_toArray, List.getElem?_cons_zero, List.getElem?_cons_succ]
              iterate 2 (first | (apply quietO_cons _ rfl; (intro w' _; go_simp; rfl)) | apply quietO_skip rfl)
              refine hK _ ?_
              clear hK K
              simp only [Act.put, List.setIfInBounds_toArray, List.set_cons_zero, List.set_cons_succ]
              refine wpS_nil ?_
              go_wp2_with fail
              go_roundw

              case rel => exact ⟨k + 1, a, by simp, rfl, by omega, Hla.out.miss Hx.out (by simp [isJ, Hxc.out]), Hk2.out.drew⟩
              case measure => simp [intOf]; omega
        · obtain rfl : R = k := by omega
          have hkI : ¬ (R : Int) < R := by omega
          clear Hst Hw5
          rw [HR.out] at hla
          obtain ⟨a0, a1, a2, a3, a4, a5⟩ := ActBox25.cells hbx2
          simp only at a0 a1 a2 a3 a4 a5
          have Hla := Lib.hid hla
          have Hst2 := Lib.hid hst2
          have Hbx2 := Lib.hid hbx2
          have Hk2 := Lib.hid hk2
          clear hla hst2 hbx2 hk2
          clear hkI
          go_upto_block 4 with fail
          go_cut [4] from 26 to 219 (fun rv2 wx => ∃ (g2 : Option Nat) (l2 : List J), StandQ w wx p g2 l2 rv2 ∧ Once l2 ∧ l2.length ≤ i + 1)
          case first =>
            by_cases o1 : o = 1
            · as_aux_lemma =>
                have hRl : r.length ≤ 512 := by have := HR.out; omega

                subst o1
                go_wp2_with fail
                refine (own_put2 ⟨jc, jt, jo, js⟩ Hst2.out.q hRl).mono ?_
                rintro e w3 ⟨rfl, g', hq3, hk3, hf3⟩
                have hbx3 := Hbx2.out.keep2 Hst2.out.q hk3
                have hr3 := Hst2.out.r.keep hk3 Hst2.out.ne
                have hne3 := ne_from (w0 := w) Hst2.out.r Hst2.out.ne hf3
                clear a0 a1 a2 a3 a4 a5
                by_cases ha : a < 0
                · obtain ⟨rfl, hn, -, hany⟩ := last_none Hla.out ha
                  obtain ⟨hE, hLp⟩ := put_new (j := ⟨jc, jt, jo, js⟩) (by have := HR.out; omega) hany
                  rw [hE]
                  rw [hLp] at hq3
                  have X2 : ∀ w', Keeps nowhere w3.drew w' → w'.cell? ⟨q, 2, none⟩ = some (.int .i64 jc) := fun w' hs => by simpa using ((Blk.drew hbx3).keep hs (fun h => h)).cell 2
                  have X3 : ∀ w', Keeps nowhere w3.drew w' → w'.cell? ⟨q, 3, none⟩ = some (.int .u16 jt) := fun w' hs => by simpa using ((Blk.drew hbx3).keep hs (fun h => h)).cell 3
                  have X4 : ∀ w', Keeps nowhere w3.drew w' → w'.cell? ⟨q, 4, none⟩ = some (.int .u16 jo) := fun w' hs => by simpa using ((Blk.drew hbx3).keep hs (fun h => h)).cell 4
                  have X5 : ∀ w', Keeps nowhere w3.drew w' → w'.cell? ⟨q, 5, none⟩ = some (.bool js) := fun w' hs => by simpa using ((Blk.drew hbx3).keep hs (fun h => h)).cell 5
                  have kA : Keeps nowhere w3 (w3.drew.alloc (.cells #[] 45)) := (Keeps.refl nowhere w3).drew.alloc _
                  have rowA := JRow.empty w3.drew
                  have rdA := hr3.rd.keep kA (fun _ _ h => h)
                  have kB : Keeps nowhere w3 ((w3.drew.alloc (.cells #[] 45)).alloc (.cells #[.int .i64 jc, .int .u16 jt, .int .u16 jo, .bool js] 45)) := kA.alloc _
                  have rowB := rowA.keep ((Keeps.refl nowhere (w3.drew.alloc (.cells #[] 45))).alloc (.cells #[.int .i64 jc, .int .u16 jt, .int .u16 jo, .bool js] 45)) (fun _ _ h => h)
                  have rdB := hr3.rd.keep kB (fun _ _ h => h)
                  have jB := jrd_one (w3.drew.alloc (.cells #[] 45)) ⟨jc, jt, jo, js⟩
                  have kD : Keeps nowhere w3 ((w3.drew.alloc (.cells #[.int .i64 jc, .int .u16 jt, .int .u16 jo, .bool js] 45)).alloc (.cells #[] 45)) := ((Keeps.refl nowhere w3).drew.alloc _).alloc _
                  have rowD := JRow.empty (w3.drew.alloc (.cells #[.int .i64 jc, .int .u16 jt, .int .u16 jo, .bool js] 45))
                  have rdD := hr3.rd.keep kD (fun _ _ h => h)
                  have jD := (jrd_one w3.drew ⟨jc, jt, jo, js⟩).keep ((Keeps.refl nowhere (w3.drew.alloc (.cells #[.int .i64 jc, .int .u16 jt, .int .u16 jo, .bool js] 45))).alloc (.cells #[] 45)) (fun _ _ h => h)
                  rw [show (w3.drew.alloc (.cells #[] 45)).heap.size = w3.heap.size + 1 by simp] at jB
                  rw [show (w3.drew.alloc (.cells #[.int .i64 jc, .int .u16 jt, .int .u16 jo, .bool js] 45)).heap.size = w3.heap.size + 1 by simp] at rowD
                  clear hE hLp
                  have Hq3 := Lib.hid hq3
                  have Hk3 := Lib.hid hk3
                  have Hf3 := Lib.hid hf3
                  have Hbx3 := Lib.hid hbx3
                  have Hr3 := Lib.hid hr3
                  have Hne3 := Lib.hid hne3
                  have Hn := Lib.hid hn
                  have Hany := Lib.hid hany
                  have KA := Lib.hid kA
                  have RowA := Lib.hid rowA
                  have RdA := Lib.hid rdA
                  have KB := Lib.hid kB
                  have RowB := Lib.hid rowB
                  have RdB := Lib.hid rdB
                  have JB := Lib.hid jB
                  have KD := Lib.hid kD
                  have RowD := Lib.hid rowD
                  have RdD := Lib.hid rdD
                  have JD := Lib.hid jD
                  clear hq3 hk3 hf3 hbx3 hr3 hne3 hn hany kA rowA rdA kB rowB rdB jB kD rowD rdD jD
                  go_wp2_with fail
                  refine wp_region_tree [1, 3, 4] [4] [.ps [1, 3], .fs [4]] 5 #[false, true, false, true, true, false, false, false] (Keeps nowhere w3.drew) rfl (by kernel_rfl) (by kernel_rfl) ?_
                  refine wpQ_ps rfl fun K hK => ?_
                  simp only [List.map_cons, List.map_nil, Option.getD_some, List.getElem?_toArray, List.getElem?_cons_zero, List.getElem?_cons_succ]
                  iterate 2 (first | (apply quietO_cons _ rfl; (intro w' _; go_simp; rfl)) | apply quietO_skip rfl)
                  refine hK _ ?_
                  clear hK K
                  simp only [Act.put, List.setIfInBounds_toArray, List.set_cons_zero, List.set_cons_succ]
                  refine wpQ_fs rfl (Keeps.refl _ _) fun K hK => ?_
                  simp only [List.map_cons, List.map_nil, Option.getD_some, List.getElem?_toArray, List.getElem?_cons_zero, List.getElem?_cons_succ]
                  iterate 1 (first | (apply quietO_cons _ rfl; (intro w' hs; have c_0 := X2 w' hs; have c_1 := X3 w' hs; have c_2 := X4 w' hs; have c_3 := X5 w' hs; go_simp; rfl)) | apply quietO_skip rfl)
                  refine hK _ ?_
                  clear hK K
                  simp only [Act.put, List.setIfInBounds_toArray, List.set_cons_zero, List.set_cons_succ]
                  clear X2 X3 X4 X5
                  refine wpQ_nil ?_
                  refine tree_step [(0, true), (5, false)] (by kernel_rfl) (by simp) (by kernel_rfl) ?_
                  intro x hx
                  simp only [List.mem_cons, List.not_mem_nil, or_false] at hx
                  rcases hx with rfl | rfl
                  · refine tree_op rfl rfl fun K hK => ?_
                    have HK := Lib.hid hK
                    clear hK
                    simp only [Option.getD_some, List.getElem?_toArray, List.getElem?_cons_zero, List.getElem?_cons_succ]
                    go_wp2_with fail
                    refine HK.out _ _ (fun _ => ((Keeps.refl nowhere w3.drew).alloc _)) ?_
                    clear HK K
                    refine tree_step [(2, true), (5, false)] (by kernel_rfl) (by simp) (by kernel_rfl) ?_
                    intro x hx
                    simp only [List.mem_cons, List.not_mem_nil, or_false] at hx
                    rcases hx with rfl | rfl
                    · refine tree_op rfl rfl fun K hK => ?_
                      have HK := Lib.hid hK
                      clear hK
                      simp only [Option.getD_some, List.getElem?_toArray, List.getElem?_cons_zero, List.getElem?_cons_succ]
                      go_wp2_with (at_builtin; go_must (refine wpList_append_jobs rfl (.tmp 87) (.tmp 88) rfl _ [] rfl RowA.out _ _ r rfl RdA.out (by simp; omega) ?_))
                      intro v5 w5 hrow5 hk5 hf5
                      try rw [List.nil_append] at hrow5
                      have hk6 : Keeps nowhere w3 w5 := KA.out.trans hk5 (fun b hb e => by simp [Value.ownBlock] at e; omega)
                      have hab5 : Above w3.heap.size v5.ownBlock := fun b hb => by
                        rcases hf5 b hb with h | h
                        · simp [Value.ownBlock] at h; omega
                        · have := KA.out.size; simp at h this; omega
                      have k7 := hk6.alloc (.cells #[.int .i64 jc, .int .u16 jt, .int .u16 jo, .bool js] 45)
                      have row6 := hrow5.keep ((Keeps.refl nowhere w5).alloc (.cells #[.int .i64 jc, .int .u16 jt, .int .u16 jo, .bool js] 45)) (fun _ _ h => h)
                      have j6 := jrd_one w5 ⟨jc, jt, jo, js⟩
                      have k6d : Keeps nowhere w3.drew w5 := ((Keeps.refl nowhere w3.drew).alloc _).trans hk5 (fun b hb e => by simp [Value.ownBlock] at e hb; omega)
                      clear hk5 hf5
                      have Hk6 := Lib.hid hk6
                      have Hab5 := Lib.hid hab5
                      have K7 := Lib.hid k7
                      have Row6 := Lib.hid row6
                      have J6 := Lib.hid j6
                      have Hrow5 := Lib.hid hrow5
                      clear hk6 hab5 k7 row6 j6 hrow5
                      go_wp2_with fail
                      refine HK.out _ _ (fun _ => k6d) ?_
                      clear HK K
                      refine tree_step [(5, false)] (by kernel_rfl) (by simp) (by kernel_rfl) ?_
                      intro x hx
                      obtain rfl := List.mem_singleton.1 hx
                      refine tree_op rfl rfl fun K hK => ?_
                      have HK := Lib.hid hK
                      clear hK
                      simp only [Option.getD_some, List.getElem?_toArray, List.getElem?_cons_zero, List.getElem?_cons_succ]
                      go_wp2_with fail
                      refine HK.out _ _ (fun h => by cases h) ?_
                      clear HK K
                      refine tree_step [(6, false)] (by kernel_rfl) (by simp) (by kernel_rfl) ?_
                      intro x hx
                      obtain rfl := List.mem_singleton.1 hx
                      refine tree_op rfl rfl fun K hK => ?_
                      have HK := Lib.hid hK
                      clear hK
                      simp only [Option.getD_some, List.getElem?_toArray, List.getElem?_cons_zero, List.getElem?_cons_succ]
                      go_wp2_with (at_builtin; go_must (refine wpList_append_jobs rfl (.tmp 89) (.tmp 92) rfl _ r rfl Row6.out _ _ [⟨jc, jt, jo, js⟩] rfl J6.out (by simp; omega) ?_))
                      intro v7 w7 hrow7 hk7 hf7
                      have hk8 : Keeps nowhere w3 w7 := K7.out.trans hk7 (fun b hb e => absurd (Hab5.out b e) (by omega))
                      have hab7 : Above w3.heap.size v7.ownBlock := fun b hb => by
                        rcases hf7 b hb with h | h
                        · exact Hab5.out b h
                        · have := K7.out.size; (try simp at this); (try simp at h); omega
                      clear hk7 hf7
                      have Hrow7 := Lib.hid hrow7
                      have Hk8 := Lib.hid hk8
                      have Hab7 := Lib.hid hab7
                      clear hrow7 hk8 hab7
                      go_wp2_with fail
                      refine HK.out _ _ (fun h => by cases h) ?_
                      clear HK K
                      refine tree_step [(7, false)] (by kernel_rfl) (by simp) (by kernel_rfl) ?_
                      intro x hx
                      obtain rfl := List.mem_singleton.1 hx
                      refine tree_op rfl rfl fun K hK => ?_
                      have HK := Lib.hid hK
                      clear hK
                      simp only [Option.getD_some, List.getElem?_toArray, List.getElem?_cons_zero, List.getElem?_cons_succ]
                      go_wp2_with fail
                      refine HK.out _ _ (fun h => by cases h) ?_
                      clear HK K
                      refine tree_fin (by kernel_rfl) ?_
                      go_wp2_with fail
                      go_meet
                      case rel => exact ⟨g', _, ⟨Hq3.out.same Hk8.out, Hrow7.out, Hq3.out.apart Hab7.out⟩, Ho.out.add Hn.out, by rw [List.length_append, ← HR.out]; simp; omega⟩
                    · refine tree_op rfl rfl fun K hK => ?_
                      have HK := Lib.hid hK
                      clear hK
                      simp only [Option.getD_some, List.getElem?_toArray, List.getElem?_cons_zero, List.getElem?_cons_succ]
                      go_wp2_with fail
                      refine HK.out _ _ (fun h => by cases h) ?_
                      clear HK K
                      refine tree_step [(2, false)] (by kernel_rfl) (by simp) (by kernel_rfl) ?_
                      intro x hx
                      obtain rfl := List.mem_singleton.1 hx
                      refine tree_op rfl rfl fun K hK => ?_
                      have HK := Lib.hid hK
                      clear hK
                      simp only [Option.getD_some, List.getElem?_toArray, List.getElem?_cons_zero, List.getElem?_cons_succ]
                      go_wp2_with (at_builtin; go_must (refine wpList_append_jobs rfl (.tmp 87) (.tmp 88) rfl _ [] rfl RowB.out _ _ r rfl RdB.out (by simp; omega) ?_))
                      intro v5 w5 hrow5 hk5 hf5
                      try rw [List.nil_append] at hrow5
                      have hk6 : Keeps nowhere w3 w5 := KB.out.trans hk5 (fun b hb e => by simp [Value.ownBlock] at e; omega)
                      have hab5 : Above w3.heap.size v5.ownBlock := fun b hb => by
                        rcases hf5 b hb with h | h
                        · simp [Value.ownBlock] at h; omega
                        · have := KB.out.size; simp at h this; omega
                      have j6 := JB.out.keep hk5 (fun b hb e => by simp [Value.ownBlock] at e hb; omega)
                      clear hk5 hf5
                      have Hk6 := Lib.hid hk6
                      have Hab5 := Lib.hid hab5
                      have J6 := Lib.hid j6
                      have Hrow5 := Lib.hid hrow5
                      clear hk6 hab5 j6 hrow5
                      go_wp2_with fail
                      refine HK.out _ _ (fun h => by cases h) ?_
                      clear HK K
                      refine tree_step [(6, false)] (by kernel_rfl) (by simp) (by kernel_rfl) ?_
                      intro x hx
                      obtain rfl := List.mem_singleton.1 hx
                      refine tree_op rfl rfl fun K hK => ?_
                      have HK := Lib.hid hK
                      clear hK
                      simp only [Option.getD_some, List.getElem?_toArray, List.getElem?_cons_zero, List.getElem?_cons_succ]
                      go_wp2_with (at_builtin; go_must (refine wpList_append_jobs rfl (.tmp 89) (.tmp 92) rfl _ r rfl Hrow5.out _ _ [⟨jc, jt, jo, js⟩] rfl J6.out (by simp; omega) ?_))
                      intro v7 w7 hrow7 hk7 hf7
                      have hk8 : Keeps nowhere w3 w7 := Hk6.out.trans hk7 (fun b hb e => absurd (Hab5.out b e) (by omega))
                      have hab7 : Above w3.heap.size v7.ownBlock := fun b hb => by
                        rcases hf7 b hb with h | h
                        · exact Hab5.out b h
                        · have := Hk6.out.size; (try simp at this); (try simp at h); omega
                      clear hk7 hf7
                      have Hrow7 := Lib.hid hrow7
                      have Hk8 := Lib.hid hk8
                      have Hab7 := Lib.hid hab7
                      clear hrow7 hk8 hab7
                      go_wp2_with fail
                      refine HK.out _ _ (fun h => by cases h) ?_
                      clear HK K
                      refine tree_step [(7, false)] (by kernel_rfl) (by simp) (by kernel_rfl) ?_
                      intro x hx
                      obtain rfl := List.mem_singleton.1 hx
                      refine tree_op rfl rfl fun K hK => ?_
                      have HK := Lib.hid hK
                      clear hK
                      simp only [Option.getD_some, List.getElem?_toArray, List.getElem?_cons_zero, List.getElem?_cons_succ]
                      go_wp2_with fail
                      refine HK.out _ _ (fun h => by cases h) ?_
                      clear HK K
                      refine tree_fin (by kernel_rfl) ?_
                      go_wp2_with fail
                      go_meet
                      case rel => exact ⟨g', _, ⟨Hq3.out.same Hk8.out, Hrow7.out, Hq3.out.apart Hab7.out⟩, Ho.out.add Hn.out, by rw [List.length_append, ← HR.out]; simp; omega⟩
                  · refine tree_op rfl rfl fun K hK => ?_
                    have HK := Lib.hid hK
                    clear hK
                    simp only [Option.getD_some, List.getElem?_toArray, List.getElem?_cons_zero, List.getElem?_cons_succ]
                    go_wp2_with fail
                    refine HK.out _ _ (fun h => by cases h) ?_
                    clear HK K
                    refine tree_step [(0, false)] (by kernel_rfl) (by simp) (by kernel_rfl) ?_
                    intro x hx
                    obtain rfl := List.mem_singleton.1 hx
                    refine tree_op rfl rfl fun K hK => ?_
                    have HK := Lib.hid hK
                    clear hK
                    simp only [Option.getD_some, List.getElem?_toArray, List.getElem?_cons_zero, List.getElem?_cons_succ]
                    go_wp2_with fail
                    refine HK.out _ _ (fun h => by cases h) ?_
                    clear HK K
                    refine tree_step [(2, false)] (by kernel_rfl) (by simp) (by kernel_rfl) ?_
                    intro x hx
                    obtain rfl := List.mem_singleton.1 hx
                    refine tree_op rfl rfl fun K hK => ?_
                    have HK := Lib.hid hK
                    clear hK
                    simp only [Option.getD_some, List.getElem?_toArray, List.getElem?_cons_zero, List.getElem?_cons_succ]
                    go_wp2_with (at_builtin; go_must (refine wpList_append_jobs rfl (.tmp 87) (.tmp 88) rfl _ [] rfl RowD.out _ _ r rfl RdD.out (by simp; omega) ?_))
                    intro v5 w5 hrow5 hk5 hf5
                    try rw [List.nil_append] at hrow5
                    have hk6 : Keeps nowhere w3 w5 := KD.out.trans hk5 (fun b hb e => by simp [Value.ownBlock] at e; omega)
                    have hab5 : Above w3.heap.size v5.ownBlock := fun b hb => by
                      rcases hf5 b hb with h | h
                      · simp [Value.ownBlock] at h; omega
                      · have := KD.out.size; simp at h this; omega
                    have j6 := JD.out.keep hk5 (fun b hb e => by simp [Value.ownBlock] at e hb; omega)
                    clear hk5 hf5
                    have Hk6 := Lib.hid hk6
                    have Hab5 := Lib.hid hab5
                    have J6 := Lib.hid j6
                    have Hrow5 := Lib.hid hrow5
                    clear hk6 hab5 j6 hrow5
                    go_wp2_with fail
                    refine HK.out _ _ (fun h => by cases h) ?_
                    clear HK K
                    refine tree_step [(6, false)] (by kernel_rfl) (by simp) (by kernel_rfl) ?_
                    intro x hx
                    obtain rfl := List.mem_singleton.1 hx
                    refine tree_op rfl rfl fun K hK => ?_
                    have HK := Lib.hid hK
                    clear hK
                    simp only [Option.getD_some, List.getElem?_toArray, List.getElem?_cons_zero, List.getElem?_cons_succ]
                    go_wp2_with (at_builtin; go_must (refine wpList_append_jobs rfl (.tmp 89) (.tmp 92) rfl _ r rfl Hrow5.out _ _ [⟨jc, jt, jo, js⟩] rfl J6.out (by simp; omega) ?_))
                    intro v7 w7 hrow7 hk7 hf7
                    have hk8 : Keeps nowhere w3 w7 := Hk6.out.trans hk7 (fun b hb e => absurd (Hab5.out b e) (by omega))
                    have hab7 : Above w3.heap.size v7.ownBlock := fun b hb => by
                      rcases hf7 b hb with h | h
                      · exact Hab5.out b h
                      · have := Hk6.out.size; (try simp at this); (try simp at h); omega
                    clear hk7 hf7
                    have Hrow7 := Lib.hid hrow7
                    have Hk8 := Lib.hid hk8
                    have Hab7 := Lib.hid hab7
                    clear hrow7 hk8 hab7
                    go_wp2_with fail
                    refine HK.out _ _ (fun h => by cases h) ?_
                    clear HK K
                    refine tree_step [(7, false)] (by kernel_rfl) (by simp) (by kernel_rfl) ?_
                    intro x hx
                    obtain rfl := List.mem_singleton.1 hx
                    refine tree_op rfl rfl fun K hK => ?_
                    have HK := Lib.hid hK
                    clear hK
                    simp only [Option.getD_some, List.getElem?_toArray, List.getElem?_cons_zero, List.getElem?_cons_succ]
                    go_wp2_with fail
                    refine HK.out _ _ (fun h => by cases h) ?_
                    clear HK K
                    refine tree_fin (by kernel_rfl) ?_
                    go_wp2_with fail
                    go_meet
                    case rel => exact ⟨g', _, ⟨Hq3.out.same Hk8.out, Hrow7.out, Hq3.out.apart Hab7.out⟩, Ho.out.add Hn.out, by rw [List.length_append, ← HR.out]; simp; omega⟩
                · obtain ⟨m, rfl, hm, -, hany⟩ := last_some Ho.out Hla.out ha
                  obtain ⟨hE, hLp⟩ := put_old (j := ⟨jc, jt, jo, js⟩) (by have := HR.out; omega) hany
                  rw [hE]
                  rw [hLp] at hq3
                  have hm0 : (0 : Int) ≤ (m : Int) := by omega
                  clear hE hLp
                  have Hq3 := Lib.hid hq3
                  have Hk3 := Lib.hid hk3
                  have Hf3 := Lib.hid hf3
                  have Hbx3 := Lib.hid hbx3
                  have Hr3 := Lib.hid hr3
                  have Hne3 := Lib.hid hne3
                  have Hm := Lib.hid hm
                  have Hany := Lib.hid hany
                  clear hq3 hk3 hf3 hbx3 hr3 hne3 hm hany
                  go_wp2_with fail
                  go_meet
                  case rel => exact ⟨g', r, ⟨Hq3.out, Hr3.out, Hne3.out⟩, Ho.out, by have := HR.out; omega⟩
            by_cases o2 : o = 2
            · as_aux_lemma =>
                have hRl : r.length ≤ 512 := by have := HR.out; omega

                subst o2
                go_wp2_with fail
                refine (lready_any _ _ r _ Hst2.out.r.rd hRl).mono ?_
                rintro e w6 ⟨v6, rfl, hi6, ha6, hk6⟩
                obtain ⟨A6, c6, rfl⟩ := hi6.form
                obtain ⟨K, hK⟩ : ∃ K, K = (idxs r r.length).length := ⟨_, rfl⟩
                have hKR : K ≤ R := by rw [hK, HR.out]; exact idxs_len _ _
                rw [← hK] at hi6 ha6 ⊢
                have hst6 := Hst2.out.same hk6
                have hbx6 := ActBox25.keep Hbx2.out hk6
                obtain ⟨_, d1, _, _, _, _⟩ := ActBox25.cells hbx6
                simp only at d1
                clear a0 a1 a2 a3 a4 a5
                have hap := Hst2.out.q.apart ha6
                have Hi6 := Lib.hid hi6
                have Ha6 := Lib.hid ha6
                have Hk6 := Lib.hid hk6
                have Hst6 := Lib.hid hst6
                have Hbx6 := Lib.hid hbx6
                have Hap := Lib.hid hap
                have HK := Lib.hid hK
                clear hi6 ha6 hk6 hst6 hbx6 hap hK
                go_wp2_with fail
                refine (own_pick N Hst6.out.q hRl hN63).mono ?_
                rintro e w7 ⟨rfl, hq7, hk7⟩
                have hr7 := Hst6.out.r.keep hk7 Hst6.out.ne
                have hi7 := Hi6.out.keep hk7 Hap.out
                have hbx7 := Hbx6.out.keep2 Hst6.out.q hk7
                clear d1
                by_cases hr0 : r = []
                · subst hr0
                  obtain rfl : R = 0 := HR.out
                  obtain rfl : K = 0 := by omega
                  obtain ⟨hpv, hpl⟩ := pick_nil N
                  rw [hpv, show noJ.v = .agg #[.int .i64 0, .int .u16 0, .int .u16 0, .bool false] from rfl]
                  rw [hpl] at hq7
                  have hq8 := hq7.same ((Keeps.refl nowhere w7).alloc (.cells #[.int .i64 0, .int .u16 0, .int .u16 0, .bool false] 45))
                  have hr8 := hr7.keep ((Keeps.refl nowhere w7).alloc (.cells #[.int .i64 0, .int .u16 0, .int .u16 0, .bool false] 45)) (fun _ _ h => h)
                  clear hpv hpl
                  have Hq7 := Lib.hid hq7
                  have Hr7 := Lib.hid hr7
                  have Hi7 := Lib.hid hi7
                  have Hk7 := Lib.hid hk7
                  have Hbx7 := Lib.hid hbx7
                  have Hq8 := Lib.hid hq8
                  have Hr8 := Lib.hid hr8
                  clear hq7 hr7 hi7 hk7 hbx7 hq8 hr8
                  go_wp2_with fail
                  go_meet
                  case rel => exact ⟨g, [], ⟨Hq8.out, Hr8.out, Hst2.out.ne⟩, Once.nil, Nat.zero_le _⟩
                · obtain ⟨z, ⟨xc, xt, xo, xs⟩, hkz, hzl, hj, hpv, hpl, hpos⟩ := pick_at Ho.out N hr0
                  rw [hpv]
                  unfold J.v
                  rw [hpl] at hq7
                  rw [← HK.out] at hkz hpos
                  obtain ⟨w8, hw8⟩ : ∃ w8, w8 = w7.alloc (.cells #[.int .i64 xc, .int .u16 xt, .int .u16 xo, .bool xs] 45) := ⟨_, rfl⟩
                  have hk8 : Keeps nowhere w7 w8 := by rw [hw8]; exact (Keeps.refl nowhere w7).alloc _
                  have hxb : Blk w8 w7.heap.size 45 #[.int .i64 xc, .int .u16 xt, .int .u16 xo, .bool xs] := by rw [hw8]; exact Blk.new _ _ _
                  have hq8 := hq7.same hk8
                  have hr8 := hr7.keep hk8 (fun _ _ h => h)
                  have hi8 := hi7.keep hk8 (fun _ _ h => h)
                  have hbx8 := ActBox25.keep hbx7 hk8
                  obtain ⟨_, dd, _, _, _, _⟩ := ActBox25.cells hbx8
                  simp only at dd
                  rw [hw8] at dd
                  have hneq := jneq_same ⟨xc, xt, xo, xs⟩
                  simp only at hneq
                  have hKp : (0 : Int) < K := by omega
                  have hKd : decide ((0 : Int) < K) = true := decide_eq_true hKp
                  have hK0 : ((K : Int) == 0) = false := by simp; omega
                  have hK1 : ¬ (K : Int) = 0 := by omega
                  have hz0 : (0 : Int) ≤ (z : Int) := by omega
                  have hzR : (z : Int) < R := by have := HR.out; omega
                  obtain ⟨M, hM⟩ : ∃ M, M = N.toNat % K := ⟨_, rfl⟩
                  rw [← hM] at hkz
                  have hMK : M < K := by rw [hM]; exact Nat.mod_lt _ hpos
                  have hM0 : (0 : Int) ≤ (M : Int) ∧ (M : Int) < K := by omega
                  clear hpv hpl
                  have Hq7 := Lib.hid hq7
                  have Hr7 := Lib.hid hr7
                  have Hi7 := Lib.hid hi7
                  have Hk7 := Lib.hid hk7
                  have Hbx7 := Lib.hid hbx7
                  have Hq8 := Lib.hid hq8
                  have Hr8 := Lib.hid hr8
                  have Hi8 := Lib.hid hi8
                  have Hbx8 := Lib.hid hbx8
                  have Hkz := Lib.hid hkz
                  have Hzl := Lib.hid hzl
                  have Hj := Lib.hid hj
                  have Hw8 := Lib.hid hw8
                  have Hk8 := Lib.hid hk8
                  have Hxb := Lib.hid hxb
                  clear hq7 hr7 hi7 hk7 hbx7 hq8 hr8 hi8 hbx8 hkz hzl hj hw8 hk8 hxb
                  by_cases hN : N < 0
                  · obtain rfl : M = 0 := by rw [hM, show N.toNat = 0 by omega, Nat.zero_mod]
                    have hmod : (0 : Int).tmod K = 0 := Int.zero_tmod _
                    have HM := Lib.hid hM
                    clear hM
                    obtain ⟨bi, rfl, hbi, hci⟩ := Hi8.out.at_ Hkz.out
                    rw [Hw8.out] at hci
                    obtain ⟨_, _, hv2, -, -, hu2, hc2, -⟩ := Hr8.out.rd
                    injection hv2 with hA2 hn2 hcp2
                    clear hn2 hcp2
                    subst hA2
                    obtain ⟨b2, o2, rfl, hg2, hcy⟩ := hc2 (by have := Hzl.out; omega)
                    obtain ⟨y0, y1, y2, y3⟩ := hcy z _ Hj.out
                    obtain ⟨x0, x1, x2, x3⟩ : JAt w8 w7.heap.size 0 ⟨xc, xt, xo, xs⟩ := ⟨by simpa using Hxb.out.cell 0, by simpa using Hxb.out.cell 1, by simpa using Hxb.out.cell 2, by simpa using Hxb.out.cell 3⟩
                    simp only at x0 x1 x2 x3 y0 y1 y2 y3
                    have X0 : ∀ w', w' = w8.drew → w'.cell? ⟨w7.heap.size, 0, none⟩ = some (.int .i64 xc) := fun w' e => by rw [e]; exact x0
                    have X1 : ∀ w', w' = w8.drew → w'.cell? ⟨w7.heap.size, 1, none⟩ = some (.int .u16 xt) := fun w' e => by rw [e]; exact x1
                    have X2 : ∀ w', w' = w8.drew → w'.cell? ⟨w7.heap.size, 2, none⟩ = some (.int .u16 xo) := fun w' e => by rw [e]; exact x2
                    have X3 : ∀ w', w' = w8.drew → w'.cell? ⟨w7.heap.size, 3, none⟩ = some (.bool xs) := fun w' e => by rw [e]; exact x3
                    have Y0 : ∀ w', w' = w8.drew → w'.cell? ⟨b2, o2 + z * 4, none⟩ = some (.int .i64 xc) := fun w' e => by rw [e]; exact y0
                    have Y1 : ∀ w', w' = w8.drew → w'.cell? ⟨b2, o2 + z * 4 + 1, none⟩ = some (.int .u16 xt) := fun w' e => by rw [e]; exact y1
                    have Y2 : ∀ w', w' = w8.drew → w'.cell? ⟨b2, o2 + z * 4 + 2, none⟩ = some (.int .u16 xo) := fun w' e => by rw [e]; exact y2
                    have Y3 : ∀ w', w' = w8.drew → w'.cell? ⟨b2, o2 + z * 4 + 3, none⟩ = some (.bool xs) := fun w' e => by rw [e]; exact y3
                    clear x0 x1 x2 x3 y0 y1 y2 y3 hcy hc2 hu2
                    have Hbi := Lib.hid hbi
                    have Hg2 := Lib.hid hg2
                    clear hbi hg2
                    go_wp2_with fail
                    rw [← Hw8.out]
                    clear dd
                    refine wp_region_script [0, 1, 2, 3, 4, 5] [0, 4] [.fs [0], .ps [1, 2, 3], .fs [4], .ps [5]] (fun w' => w' = w8.drew) rfl (by kernel_rfl) ?_
                    refine wpS_fs rfl (rfl) fun K hK => ?_
                    simp only [List.map_cons, List.map_nil, Option.getD_some, List.getElem?_toArray, List.getElem?_cons_zero, List.getElem?_cons_succ]
                    iterate 1 (first | (apply quietO_cons _ rfl; (intro w' hs; have c_0 := X0 w' hs; have c_1 := X1 w' hs; have c_2 := X2 w' hs; have c_3 := X3 w' hs; go_simp; rfl)) | apply quietO_skip rfl)
                    refine hK _ ?_
                    clear hK K
                    simp only [Act.put, List.setIfInBounds_toArray, List.set_cons_zero, List.set_cons_succ]
                    refine wpS_ps rfl fun K hK => ?_
                    simp only [List.map_cons, List.map_nil, Option.getD_some, List.getElem?_toArray, List.getElem?_cons_zero, List.getElem?_cons_succ]
                    iterate 3 (first | (apply quietO_cons _ rfl; (intro w' _; go_simp; rfl)) | apply quietO_skip rfl)
                    refine hK _ ?_
                    clear hK K
                    simp only [Act.put, List.setIfInBounds_toArray, List.set_cons_zero, List.set_cons_succ]
                    refine wpS_fs rfl (rfl) fun K hK => ?_
                    simp only [List.map_cons, List.map_nil, Option.getD_some, List.getElem?_toArray, List.getElem?_cons_zero, List.getElem?_cons_succ]
                    iterate 1 (first | (apply quietO_cons _ rfl; (intro w' hs; have c_0 := Y0 w' hs; have c_1 := Y1 w' hs; have c_2 := Y2 w' hs; have c_3 := Y3 w' hs; go_simp; rfl)) | apply quietO_skip rfl)
                    refine hK _ ?_
                    clear hK K
                    simp only [Act.put, List.setIfInBounds_toArray, List.set_cons_zero, List.set_cons_succ]
                    refine wpS_ps rfl fun K hK => ?_
                    simp only [List.map_cons, List.map_nil, Option.getD_some, List.getElem?_toArray, List.getElem?_cons_zero, List.getElem?_cons_succ]
                    iterate 1 (first | (apply quietO_cons _ rfl; (intro w' _; go_simp; rfl)) | apply quietO_skip rfl)
                    refine hK _ ?_
                    clear hK K
                    simp only [Act.put, List.setIfInBounds_toArray, List.set_cons_zero, List.set_cons_succ]
                    refine wpS_nil ?_
                    clear X0 X1 X2 X3 Y0 Y1 Y2 Y3 hci
                    have hr8d := Hr8.out.rd.keep (Keeps.refl nowhere w8).drew (fun _ _ h => h)
                    have hq8d := Hq8.out.same (Keeps.refl nowhere w8).drew
                    have Hr8d := Lib.hid hr8d
                    have Hq8d := Lib.hid hq8d
                    clear hr8d hq8d
                    go_wp2_with fail
                    refine (lwithout_any _ _ r z _ Hr8d.out hRl Hzl.out).mono ?_
                    rintro e w9 ⟨v9, rfl, hrow9, hab9, hk9⟩
                    have Hrow9 := Lib.hid hrow9
                    have Hab9 := Lib.hid hab9
                    have Hk9 := Lib.hid hk9
                    clear hrow9 hab9 hk9
                    go_wp2_with fail
                    go_meet
                    case rel => exact ⟨g, _, ⟨Hq8d.out.same Hk9.out, Hrow9.out, Hq8d.out.apart Hab9.out⟩, Ho.out.erase z, by have := HR.out; have := List.length_eraseIdx_le r z; omega⟩
                  · obtain ⟨n, rfl⟩ := Int.eq_ofNat_of_zero_le (show 0 ≤ N by omega)
                    have hmod : (n : Int).tmod K = M := by rw [hM, Int.toNat_natCast]; rfl
                    have HM := Lib.hid hM
                    clear hM
                    obtain ⟨bi, rfl, hbi, hci⟩ := Hi8.out.at_ Hkz.out
                    rw [Hw8.out] at hci
                    obtain ⟨_, _, hv2, -, -, hu2, hc2, -⟩ := Hr8.out.rd
                    injection hv2 with hA2 hn2 hcp2
                    clear hn2 hcp2
                    subst hA2
                    obtain ⟨b2, o2, rfl, hg2, hcy⟩ := hc2 (by have := Hzl.out; omega)
                    obtain ⟨y0, y1, y2, y3⟩ := hcy z _ Hj.out
                    obtain ⟨x0, x1, x2, x3⟩ : JAt w8 w7.heap.size 0 ⟨xc, xt, xo, xs⟩ := ⟨by simpa using Hxb.out.cell 0, by simpa using Hxb.out.cell 1, by simpa using Hxb.out.cell 2, by simpa using Hxb.out.cell 3⟩
                    simp only at x0 x1 x2 x3 y0 y1 y2 y3
                    have X0 : ∀ w', w' = w8.drew → w'.cell? ⟨w7.heap.size, 0, none⟩ = some (.int .i64 xc) := fun w' e => by rw [e]; exact x0
                    have X1 : ∀ w', w' = w8.drew → w'.cell? ⟨w7.heap.size, 1, none⟩ = some (.int .u16 xt) := fun w' e => by rw [e]; exact x1
                    have X2 : ∀ w', w' = w8.drew → w'.cell? ⟨w7.heap.size, 2, none⟩ = some (.int .u16 xo) := fun w' e => by rw [e]; exact x2
                    have X3 : ∀ w', w' = w8.drew → w'.cell? ⟨w7.heap.size, 3, none⟩ = some (.bool xs) := fun w' e => by rw [e]; exact x3
                    have Y0 : ∀ w', w' = w8.drew → w'.cell? ⟨b2, o2 + z * 4, none⟩ = some (.int .i64 xc) := fun w' e => by rw [e]; exact y0
                    have Y1 : ∀ w', w' = w8.drew → w'.cell? ⟨b2, o2 + z * 4 + 1, none⟩ = some (.int .u16 xt) := fun w' e => by rw [e]; exact y1
                    have Y2 : ∀ w', w' = w8.drew → w'.cell? ⟨b2, o2 + z * 4 + 2, none⟩ = some (.int .u16 xo) := fun w' e => by rw [e]; exact y2
                    have Y3 : ∀ w', w' = w8.drew → w'.cell? ⟨b2, o2 + z * 4 + 3, none⟩ = some (.bool xs) := fun w' e => by rw [e]; exact y3
                    clear x0 x1 x2 x3 y0 y1 y2 y3 hcy hc2 hu2
                    have Hbi := Lib.hid hbi
                    have Hg2 := Lib.hid hg2
                    clear hbi hg2
                    go_wp2_with fail
                    rw [← Hw8.out]
                    clear dd
                    refine wp_region_script [0, 1, 2, 3, 4, 5] [0, 4] [.fs [0], .ps [1, 2, 3], .fs [4], .ps [5]] (fun w' => w' = w8.drew) rfl (by kernel_rfl) ?_
                    refine wpS_fs rfl (rfl) fun K hK => ?_
                    simp only [List.map_cons, List.map_nil, Option.getD_some, List.getElem?_toArray, List.getElem?_cons_zero, List.getElem?_cons_succ]
                    iterate 1 (first | (apply quietO_cons _ rfl; (intro w' hs; have c_0 := X0 w' hs; have c_1 := X1 w' hs; have c_2 := X2 w' hs; have c_3 := X3 w' hs; go_simp; rfl)) | apply quietO_skip rfl)
                    refine hK _ ?_
                    clear hK K
                    simp only [Act.put, List.setIfInBounds_toArray, List.set_cons_zero, List.set_cons_succ]
                    refine wpS_ps rfl fun K hK => ?_
                    simp only [List.map_cons, List.map_nil, Option.getD_some, List.getElem?_toArray, List.getElem?_cons_zero, List.getElem?_cons_succ]
                    iterate 3 (first | (apply quietO_cons _ rfl; (intro w' _; go_simp; rfl)) | apply quietO_skip rfl)
                    refine hK _ ?_
                    clear hK K
                    simp only [Act.put, List.setIfInBounds_toArray, List.set_cons_zero, List.set_cons_succ]
                    refine wpS_fs rfl (rfl) fun K hK => ?_
                    simp only [List.map_cons, List.map_nil, Option.getD_some, List.getElem?_toArray, List.getElem?_cons_zero, List.getElem?_cons_succ]
                    iterate 1 (first | (apply quietO_cons _ rfl; (intro w' hs; have c_0 := Y0 w' hs; have c_1 := Y1 w' hs; have c_2 := Y2 w' hs; have c_3 := Y3 w' hs; go_simp; rfl)) | apply quietO_skip rfl)
                    refine hK _ ?_
                    clear hK K
                    simp only [Act.put, List.setIfInBounds_toArray, List.set_cons_zero, List.set_cons_succ]
                    refine wpS_ps rfl fun K hK => ?_
                    simp only [List.map_cons, List.map_nil, Option.getD_some, List.getElem?_toArray, List.getElem?_cons_zero, List.getElem?_cons_succ]
                    iterate 1 (first | (apply quietO_cons _ rfl; (intro w' _; go_simp; rfl)) | apply quietO_skip rfl)
                    refine hK _ ?_
                    clear hK K
                    simp only [Act.put, List.setIfInBounds_toArray, List.set_cons_zero, List.set_cons_succ]
                    refine wpS_nil ?_
                    clear X0 X1 X2 X3 Y0 Y1 Y2 Y3 hci
                    have hr8d := Hr8.out.rd.keep (Keeps.refl nowhere w8).drew (fun _ _ h => h)
                    have hq8d := Hq8.out.same (Keeps.refl nowhere w8).drew
                    have Hr8d := Lib.hid hr8d
                    have Hq8d := Lib.hid hq8d
                    clear hr8d hq8d
                    go_wp2_with fail
                    refine (lwithout_any _ _ r z _ Hr8d.out hRl Hzl.out).mono ?_
                    rintro e w9 ⟨v9, rfl, hrow9, hab9, hk9⟩
                    have Hrow9 := Lib.hid hrow9
                    have Hab9 := Lib.hid hab9
                    have Hk9 := Lib.hid hk9
                    clear hrow9 hab9 hk9
                    go_wp2_with fail
                    go_meet
                    case rel => exact ⟨g, _, ⟨Hq8d.out.same Hk9.out, Hrow9.out, Hq8d.out.apart Hab9.out⟩, Ho.out.erase z, by have := HR.out; have := List.length_eraseIdx_le r z; omega⟩
            by_cases o3 : o = 3
            · as_aux_lemma =>
                have hRl : r.length ≤ 512 := by have := HR.out; omega

                subst o3
                go_wp2_with fail
                refine (own_cut jc jt Hst2.out.q hRl).mono ?_
                rintro e w3 ⟨rfl, hq3, hk3⟩
                have hr3 := Hst2.out.r.keep hk3 Hst2.out.ne
                clear a0 a1 a2 a3 a4 a5
                by_cases ha : a < 0
                · obtain ⟨rfl, -, hcu, hany⟩ := last_none Hla.out ha
                  rw [hany]
                  rw [hcu] at hq3
                  have Hq3 := Lib.hid hq3
                  have Hk3 := Lib.hid hk3
                  have Hr3 := Lib.hid hr3
                  have Hcu := Lib.hid hcu
                  have Hany := Lib.hid hany
                  clear hq3 hk3 hr3 hcu hany
                  go_wp2_with fail
                  go_meet
                  case rel => exact ⟨g, r, ⟨Hq3.out, Hr3.out, Hst2.out.ne⟩, Ho.out, by have := HR.out; omega⟩
                · obtain ⟨m, rfl, hm, hcu, hany⟩ := last_some Ho.out Hla.out ha
                  rw [hany]
                  rw [hcu] at hq3
                  have hm0 : (0 : Int) ≤ (m : Int) := by omega
                  have Hq3 := Lib.hid hq3
                  have Hk3 := Lib.hid hk3
                  have Hr3 := Lib.hid hr3
                  have Hcu := Lib.hid hcu
                  have Hany := Lib.hid hany
                  have Hm := Lib.hid hm
                  clear hq3 hk3 hr3 hcu hany hm
                  go_wp2_with fail
                  refine (lwithout_any _ _ r m _ Hr3.out.rd hRl Hm.out).mono ?_
                  rintro e w9 ⟨v9, rfl, hrow9, hab9, hk9⟩
                  have Hrow9 := Lib.hid hrow9
                  have Hab9 := Lib.hid hab9
                  have Hk9 := Lib.hid hk9
                  clear hrow9 hab9 hk9
                  go_wp2_with fail
                  go_meet
                  case rel => exact ⟨g, _, ⟨Hq3.out.same Hk9.out, Hrow9.out, Hq3.out.apart Hab9.out⟩, Ho.out.erase m, by have := HR.out; have := List.length_eraseIdx_le r m; omega⟩
            by_cases o4 : o = 4
            · as_aux_lemma =>
                have hRl : r.length ≤ 512 := by have := HR.out; omega

                subst o4
                obtain ⟨wX, rfl⟩ : ∃ wX, wX = wr := ⟨_, rfl⟩
                clear a0 a1 a2 a3 a4 a5
                go_wp2_with fail
                go_loopw [15, 16] (fun sv kv w9 => ∃ (k n0 c0 : Nat) (A0 : Option Addr), kv = .int .i64 k ∧ k ≤ R ∧ sv = .slice A0 n0 c0 ∧ n0 = ((r.take k).filter fun x => !ofC jc x).length ∧ JRow w9 sv ((r.take k).filter fun x => !ofC jc x) ∧ Above wX.heap.size sv.ownBlock ∧ Keeps nowhere wX w9) (fun _ kv _ => R - (intOf kv).toNat)
                case atStart => exact ⟨0, 0, 0, none, rfl, Nat.zero_le _, rfl, by simp, by simpa using JRow.nil _, fun b hb => by simp [Value.ownBlock] at hb, Keeps.refl _ _⟩
                case round =>
                  obtain ⟨k, n0, c0, A0, rfl, hk, rfl, hn0, hrow, hab, hk9⟩ := hrel
                  by_cases hkl : k < R
                  · have hkI : (k : Int) < R := by omega
                    have hk0 : (0 : Int) ≤ (k : Int) := by omega
                    have hk1 : IntKind.i64.wrap ((k : Int) + 1) = k + 1 := IntWalk.i64_in _ (by omega)
                    obtain ⟨_, _, hv2, -, -, hu2, hc2, -⟩ := Hst2.out.r.rd
                    injection hv2 with hA2 hn2 hcp2
                    clear hn2 hcp2
                    subst hA2
                    obtain ⟨b2, o2, rfl, hg2, hcy⟩ := hc2 (by have := HR.out; omega)
                    obtain ⟨y, hy⟩ : ∃ y, r[k]? = some y := ⟨_, List.getElem?_eq_getElem (by have := HR.out; omega)⟩
                    have hsucc := take_filter_succ hy (fun x => !ofC jc x)
                    obtain ⟨y0, y1, y2, y3⟩ := (hcy k y hy).keep hk9 (hu2 b2 hg2) (fun h => h)
                    obtain ⟨_, _, d2, _, _, _⟩ := ActBox25.cells (ActBox25.keep Hbx2.out hk9)
                    obtain ⟨yc, yt, yo, ys⟩ := y
                    simp only at y0 y1 y2 y3 d2
                    have hle : ((r.take k).filter fun x => !ofC jc x).length ≤ 512 := by
                      have h1 := List.length_filter_le (fun x => !ofC jc x) (r.take k)
                      rw [List.length_take] at h1
                      omega
                    have Y0 : ∀ w', w' = wr.drew → w'.cell? ⟨b2, o2 + k * 4, none⟩ = some (.int .i64 yc) := fun w' e => by rw [e]; exact y0
                    have D2 : ∀ w', w' = wr.drew → w'.cell? ⟨q, 2, none⟩ = some (.int .i64 jc) := fun w' e => by rw [e]; exact d2
                    clear hcy hc2 hu2 d2
                    by_cases hyc : yc = jc
                    · have hne : (yc != jc) = false := by simp [hyc]
                      have hs2 : ((r.take (k + 1)).filter fun x => !ofC jc x) = ((r.take k).filter fun x => !ofC jc x) := by rw [hsucc]; simp [ofC, hyc]
                      clear y0 y1 y2 y3
                      rw [← hs2] at hrow hn0
                      have Hn0 := Lib.hid hn0
                      have Hrow := Lib.hid hrow
                      have Hab := Lib.hid hab
                      have Hk9 := Lib.hid hk9
                      have Hy := Lib.hid hy
                      have Hsucc := Lib.hid hsucc
                      have Hs2 := Lib.hid hs2
                      have Hyc := Lib.hid hyc
                      have Hg2 := Lib.hid hg2
                      have Hle := Lib.hid hle
                      clear hn0 hrow hab hk9 hy hsucc hs2 hyc hg2 hle
                      go_wp2_with fail
                      refine wp_region_script [0, 1, 2, 3, 4, 5, 6, 7, 8] [4, 7] [.ps [0, 1, 2, 3], .fs [4], .ps [5, 6], .fs [7], .ps [8]] (fun w' => w' = wr.drew) rfl (by kernel_rfl) ?_
                      refine wpS_ps rfl fun K hK => ?_
                      simp only [List.map_cons, List.map_nil, Option.getD_some, List.getElem?_toArray, List.getElem?_cons_zero, List.getElem?_cons_succ]
                      iterate 4 (first | (apply quietO_cons _ rfl; (intro w' _; go_simp; rfl)) | apply quietO_skip rfl)
                      refine hK _ ?_
                      clear hK K
                      simp only [Act.put, List.setIfInBounds_toArray, List.set_cons_zero, List.set_cons_succ]
                      refine wpS_fs rfl (rfl) fun K hK => ?_
                      simp only [List.map_cons, List.map_nil, Option.getD_some, List.getElem?_toArray, List.getElem?_cons_zero, List.getElem?_cons_succ]
                      iterate 1 (first | (apply quietO_cons _ rfl; (intro w' hs; have c_0 := Y0 w' hs; go_simp; rfl)) | apply quietO_skip rfl)
                      refine hK _ ?_
                      clear hK K
                      simp only [Act.put, List.setIfInBounds_toArray, List.set_cons_zero, List.set_cons_succ]
                      refine wpS_ps rfl fun K hK => ?_
                      simp only [List.map_cons, List.map_nil, Option.getD_some, List.getElem?_toArray, List.getElem?_cons_zero, List.getElem?_cons_succ]
                      iterate 2 (first | (apply quietO_cons _ rfl; (intro w' _; go_simp; rfl)) | apply quietO_skip rfl)
                      refine hK _ ?_
                      clear hK K
                      simp only [Act.put, List.setIfInBounds_toArray, List.set_cons_zero, List.set_cons_succ]
                      refine wpS_fs rfl (rfl) fun K hK => ?_
                      simp only [List.map_cons, List.map_nil, Option.getD_some, List.getElem?_toArray, List.getElem?_cons_zero, List.getElem?_cons_succ]
                      iterate 1 (first | (apply quietO_cons _ rfl; (intro w' hs; have c_0 := D2 w' hs; go_simp; rfl)) | apply quietO_skip rfl)
                      refine hK _ ?_
                      clear hK K
                      simp only [Act.put, List.setIfInBounds_toArray, List.set_cons_zero, List.set_cons_succ]
                      refine wpS_ps rfl fun K hK => ?_
                      simp only [List.map_cons, List.map_nil, Option.getD_some, List.getElem?_toArray, List.getElem?_cons_zero, List.getElem?_cons_succ]
                      iterate 1 (first | (apply quietO_cons _ rfl; (intro w' _; go_simp; rfl)) | apply quietO_skip rfl)
                      refine hK _ ?_
                      clear hK K
                      simp only [Act.put, List.setIfInBounds_toArray, List.set_cons_zero, List.set_cons_succ]
                      refine wpS_nil ?_
                      go_wp2_with fail
                      go_roundw
                      case rel => exact ⟨k + 1, n0, c0, A0, by simp, by omega, rfl, Hn0.out, Hrow.out.keep (Keeps.refl nowhere wr).drew (fun _ _ h => h), Hab.out, Hk9.out.drew⟩
                      case measure => simp [intOf]; omega
                    · have hne : (yc != jc) = true := by simpa using hyc
                      have hs2 : ((r.take (k + 1)).filter fun x => !ofC jc x) = ((r.take k).filter fun x => !ofC jc x) ++ [⟨yc, yt, yo, ys⟩] := by rw [hsucc]; simp [ofC, hyc]
                      have hj1 := jrd_one wr.drew ⟨yc, yt, yo, ys⟩
                      have hrow1 := hrow.keep ((Keeps.refl nowhere wr).drew.alloc (.cells #[.int .i64 yc, .int .u16 yt, .int .u16 yo, .bool ys] 45)) (fun _ _ h => h)
                      have hkx1 : Keeps nowhere wX (wr.drew.alloc (.cells #[.int .i64 yc, .int .u16 yt, .int .u16 yo, .bool ys] 45)) := hk9.drew.alloc _
                      have y0d : wr.drew.cell? ⟨b2, o2 + k * 4, none⟩ = some (.int .i64 yc) := y0
                      have y1d : wr.drew.cell? ⟨b2, o2 + k * 4 + 1, none⟩ = some (.int .u16 yt) := y1
                      have y2d : wr.drew.cell? ⟨b2, o2 + k * 4 + 2, none⟩ = some (.int .u16 yo) := y2
                      have y3d : wr.drew.cell? ⟨b2, o2 + k * 4 + 3, none⟩ = some (.bool ys) := y3
                      have Hn0 := Lib.hid hn0
                      have Hrow := Lib.hid hrow
                      have Hab := Lib.hid hab
                      have Hk9 := Lib.hid hk9
                      have Hy := Lib.hid hy
                      have Hsucc := Lib.hid hsucc
                      have Hs2 := Lib.hid hs2
                      have Hyc := Lib.hid hyc
                      have Hg2 := Lib.hid hg2
                      have Hj1 := Lib.hid hj1
                      have Hrow1 := Lib.hid hrow1
                      have Hkx1 := Lib.hid hkx1
                      have Hle := Lib.hid hle
                      clear hn0 hrow hab hk9 hy hsucc hs2 hyc hg2 hj1 hrow1 hkx1 hle
                      go_wp2_with fail
                      refine wp_region_script [0, 1, 2, 3, 4, 5, 6, 7, 8] [4, 7] [.ps [0, 1, 2, 3], .fs [4], .ps [5, 6], .fs [7], .ps [8]] (fun w' => w' = wr.drew) rfl (by kernel_rfl) ?_
                      refine wpS_ps rfl fun K hK => ?_
                      simp only [List.map_cons, List.map_nil, Option.getD_some, List.getElem?_toArray, List.getElem?_cons_zero, List.getElem?_cons_succ]
                      iterate 4 (first | (apply quietO_cons _ rfl; (intro w' _; go_simp; rfl)) | apply quietO_skip rfl)
                      refine hK _ ?_
                      clear hK K
                      simp only [Act.put, List.setIfInBounds_toArray, List.set_cons_zero, List.set_cons_succ]
                      refine wpS_fs rfl (rfl) fun K hK => ?_
                      simp only [List.map_cons, List.map_nil, Option.getD_some, List.getElem?_toArray, List.getElem?_cons_zero, List.getElem?_cons_succ]
                      iterate 1 (first | (apply quietO_cons _ rfl; (intro w' hs; have c_0 := Y0 w' hs; go_simp; rfl)) | apply quietO_skip rfl)
                      refine hK _ ?_
                      clear hK K
                      simp only [Act.put, List.setIfInBounds_toArray, List.set_cons_zero, List.set_cons_succ]
                      refine wpS_ps rfl fun K hK => ?_
                      simp only [List.map_cons, List.map_nil, Option.getD_some, List.getElem?_toArray, List.getElem?_cons_zero, List.getElem?_cons_succ]
                      iterate 2 (first | (apply quietO_cons _ rfl; (intro w' _; go_simp; rfl)) | apply quietO_skip rfl)
                      refine hK _ ?_
                      clear hK K
                      simp only [Act.put, List.setIfInBounds_toArray, List.set_cons_zero, List.set_cons_succ]
                      refine wpS_fs rfl (rfl) fun K hK => ?_
                      simp only [List.map_cons, List.map_nil, Option.getD_some, List.getElem?_toArray, List.getElem?_cons_zero, List.getElem?_cons_succ]
                      iterate 1 (first | (apply quietO_cons _ rfl; (intro w' hs; have c_0 := D2 w' hs; go_simp; rfl)) | apply quietO_skip rfl)
                      refine hK _ ?_
                      clear hK K
                      simp only [Act.put, List.setIfInBounds_toArray, List.set_cons_zero, List.set_cons_succ]
                      refine wpS_ps rfl fun K hK => ?_
                      simp only [List.map_cons, List.map_nil, Option.getD_some, List.getElem?_toArray, List.getElem?_cons_zero, List.getElem?_cons_succ]
                      iterate 1 (first | (apply quietO_cons _ rfl; (intro w' _; go_simp; rfl)) | apply quietO_skip rfl)
                      refine hK _ ?_
                      clear hK K
                      simp only [Act.put, List.setIfInBounds_toArray, List.set_cons_zero, List.set_cons_succ]
                      refine wpS_nil ?_
                      clear Y0 D2
                      go_wp2_with (at_builtin; go_must (refine wpList_append_jobs rfl (.tmp 167) (.tmp 172) rfl _ _ rfl Hrow1.out _ _ [⟨yc, yt, yo, ys⟩] rfl Hj1.out (by have := Hle.out; simp at this ⊢; omega) ?_))
                      intro v7 w7 hrow7 hk7 hf7
                      rw [← Hs2.out] at hrow7
                      have hk8 : Keeps nowhere wX w7 := Hkx1.out.trans hk7 (fun b hb e => absurd (Hab.out b e) (by omega))
                      have hab7 : Above wX.heap.size v7.ownBlock := fun b hb => by
                        rcases hf7 b hb with h | h
                        · exact Hab.out b h
                        · have := Hkx1.out.size; simp at this h; omega
                      obtain ⟨A7, c7, rfl, -, -, -, -, -⟩ := hrow7.rd
                      clear hk7 hf7
                      have Hrow7 := Lib.hid hrow7
                      have Hk8 := Lib.hid hk8
                      have Hab7 := Lib.hid hab7
                      clear hrow7 hk8 hab7
                      go_wp2_with fail
                      go_roundw
                      case rel => exact ⟨k + 1, _, c7, A7, by simp, by omega, rfl, rfl, Hrow7.out, Hab7.out, Hk8.out⟩
                      case measure => simp [intOf]; omega
                  · obtain rfl : k = R := by omega
                    have hkI : ¬ (k : Int) < k := by omega
                    have htk : ((r.take k).filter fun x => !ofC jc x) = dropL r jc := by rw [HR.out, List.take_length]; rfl
                    rw [htk] at hrow hn0
                    have hst9 := Hst2.out.same hk9
                    have hbx9 := ActBox25.keep Hbx2.out hk9
                    obtain ⟨_, _, d2, _, _, _⟩ := ActBox25.cells hbx9
                    simp only at d2
                    have hD : n0 ≤ k := by
                      rw [hn0, HR.out]
                      exact List.length_filter_le _ _
                    have hwr : IntKind.i64.wrap ((k : Int) - n0) = k - n0 := IntWalk.i64_in _ (by omega)
                    have hnn : ((k : Int) - n0 != k - n0) = false := by simp
                    have hdr := own_drop jc hst9.q hRl
                    rw [← hn0, ← HR.out] at hdr
                    unfold qp at hdr
                    have Hrow := Lib.hid hrow
                    have Hn0 := Lib.hid hn0
                    have Hab := Lib.hid hab
                    have Hk9 := Lib.hid hk9
                    have Hst9 := Lib.hid hst9
                    have Hbx9 := Lib.hid hbx9
                    have Htk := Lib.hid htk
                    have Hdr := Lib.hid hdr
                    clear hrow hn0 hab hk9 hst9 hbx9 htk hdr
                    go_wp2_with fail
                    refine Hdr.out.mono ?_
                    rintro e w3 ⟨rfl, hq3, hk3⟩
                    have hap := Hst2.out.q.apart Hab.out
                    have hr3 := Hrow.out.keep hk3 hap
                    have Hq3 := Lib.hid hq3
                    have Hk3 := Lib.hid hk3
                    have Hap := Lib.hid hap
                    have Hr3 := Lib.hid hr3
                    clear hq3 hk3 hap hr3
                    go_wp2_with fail
                    go_meet
                    case rel => exact ⟨g, _, ⟨Hq3.out, Hr3.out, Hap.out⟩, Ho.out.filter _, by rw [← Hn0.out]; omega⟩
            as_aux_lemma =>
              have e1 : (o == 1) = false := by simp [o1]
              have e2 : (o == 2) = false := by simp [o2]
              have e3 : (o == 3) = false := by simp [o3]
              have e4 : (o == 4) = false := by simp [o4]
              go_wp2_with fail
              go_meet
              case rel => exact ⟨g, r, Hst2.out, Ho.out, by have := HR.out; omega⟩
          case rest =>
            as_aux_lemma =>
              obtain ⟨g2, l2, hst2, ho2, hl2⟩ := hcut
              obtain ⟨A2, c2, rfl, -, -, -, -, -⟩ := hst2.r.rd
              obtain ⟨R2, hR2⟩ : ∃ R2, R2 = l2.length := ⟨_, rfl⟩
              have hR2b : R2 ≤ 512 := by omega
              rw [← hR2] at hst2 hl2 ⊢
              have Hst2 := Lib.hid hst2
              have Ho2 := Lib.hid ho2
              have Hl2 := Lib.hid hl2
              have HR2 := Lib.hid hR2
              clear hst2 ho2 hl2 hR2
              go_wp2_with fail
              refine (lready_any _ _ l2 _ Hst2.out.r.rd (by rw [← HR2.out]; omega)).mono ?_
              rintro e w6 ⟨v6, rfl, hi6, ha6, hk6⟩
              rw [← HR2.out] at hi6
              obtain ⟨A6, c6, rfl⟩ := hi6.form
              obtain ⟨K, hK⟩ : ∃ K, K = (idxs l2 R2).length := ⟨_, rfl⟩
              rw [← hK]
              have hst6 := Hst2.out.same hk6
              have Hi6 := Lib.hid hi6
              have Ha6 := Lib.hid ha6
              have Hk6 := Lib.hid hk6
              have Hst6 := Lib.hid hst6
              have HK := Lib.hid hK
              clear hi6 ha6 hk6 hst6 hK
              go_wp2_with fail
              refine (own_ready Hst6.out.q (by rw [← HR2.out]; omega)).mono ?_
              rintro e w7 ⟨v7, g7, rfl, hr7, -, hq7, hk7⟩
              obtain ⟨A7, c7, rfl, -, -, hu7, hc7, -⟩ := hr7
              rw [ready_len, ← HR2.out, ← HK.out] at hc7 ⊢
              have hKK : ((K : Int) != (K : Int)) = false := by simp
              have hRR : ((R2 : Int) != (R2 : Int)) = false := by simp
              have hst7 := Hst6.out.same hk7
              have hi7 := Hi6.out.keep hk7 (fun _ _ h => h)
              rw [← HK.out] at hi7
              have hK63 : K ≤ 512 := by have := idxs_len l2 R2; rw [HK.out]; omega
              have hlen := own_len hst7.q
              rw [← HR2.out] at hlen
              unfold qp at hlen
              have Hu7 := Lib.hid hu7
              have Hc7 := Lib.hid hc7
              have Hq7 := Lib.hid hq7
              have Hk7 := Lib.hid hk7
              have Hst7 := Lib.hid hst7
              have Hi7 := Lib.hid hi7
              have Hlen := Lib.hid hlen
              clear hu7 hc7 hq7 hk7 hst7 hi7 hlen
              go_wp2_with fail
              refine Hlen.out.mono ?_
              rintro e w8 ⟨rfl, rfl⟩
              go_wp2_with fail
              go_loopw [19] (fun kv w9 => ∃ k : Nat, kv = .int .i64 k ∧ k ≤ K ∧ Keeps nowhere w7 w9) (fun kv _ => K - (intOf kv).toNat)
              case atStart => exact ⟨0, rfl, Nat.zero_le _, Keeps.refl _ _⟩
              case round =>
                obtain ⟨k, rfl, hkK, hk9⟩ := hrel
                by_cases hkl : k < K
                · have hkI : (k : Int) < K := by omega
                  have hk0 : (0 : Int) ≤ (k : Int) := by omega
                  have hk1 : IntKind.i64.wrap ((k : Int) + 1) = k + 1 := IntWalk.i64_in _ (by omega)
                  obtain ⟨z, hz⟩ : ∃ z, (idxs l2 R2)[k]? = some z := ⟨_, List.getElem?_eq_getElem (by rw [← HK.out]; exact hkl)⟩
                  obtain ⟨hy, hzl⟩ := idxs_get (l := l2) (k := k) (i := z) (by rw [← HR2.out]; exact hz)
                  obtain ⟨y, hy2⟩ : ∃ y, l2[z]? = some y := ⟨_, List.getElem?_eq_getElem hzl⟩
                  rw [hy2] at hy
                  obtain ⟨bi, rfl, hbi, hci⟩ := Hi7.out.at_ hz
                  obtain ⟨b7, o7, rfl, hg7, hcx⟩ := Hc7.out (by omega)
                  obtain ⟨_, _, hv2, -, -, hu2, hc2, -⟩ := Hst7.out.r.rd
                  injection hv2 with hA2 hn2 hcp2
                  clear hn2 hcp2
                  subst hA2
                  obtain ⟨b2, o2, rfl, hg2, hcy⟩ := hc2 (by omega)
                  have hjx := (hcx k y hy).keep hk9 (Hu7.out b7 hg7) (fun h => h)
                  have hjy := (hcy z y hy2).keep hk9 (hu2 b2 hg2) (fun h => h)
                  have hci9 := (hk9.cell (p := ⟨bi, k, none⟩) hbi (fun h => h)).trans hci
                  have hzI : (z : Int) < R2 := by have := HR2.out; omega
                  have hz0 : (0 : Int) ≤ (z : Int) := by omega
                  have hneq := jneq_same y
                  obtain ⟨yc, yt, yo, ys⟩ := y
                  obtain ⟨x0, x1, x2, x3⟩ := hjx
                  obtain ⟨y0, y1, y2, y3⟩ := hjy
                  simp only at x0 x1 x2 x3 y0 y1 y2 y3 hneq
                  have X0 : ∀ w', w' = wr.drew → w'.cell? ⟨b7, o7 + k * 4, none⟩ = some (.int .i64 yc) := fun w' e => by rw [e]; exact x0
                  have X1 : ∀ w', w' = wr.drew → w'.cell? ⟨b7, o7 + k * 4 + 1, none⟩ = some (.int .u16 yt) := fun w' e => by rw [e]; exact x1
                  have X2 : ∀ w', w' = wr.drew → w'.cell? ⟨b7, o7 + k * 4 + 2, none⟩ = some (.int .u16 yo) := fun w' e => by rw [e]; exact x2
                  have X3 : ∀ w', w' = wr.drew → w'.cell? ⟨b7, o7 + k * 4 + 3, none⟩ = some (.bool ys) := fun w' e => by rw [e]; exact x3
                  have Y0 : ∀ w', w' = wr.drew → w'.cell? ⟨b2, o2 + z * 4, none⟩ = some (.int .i64 yc) := fun w' e => by rw [e]; exact y0
                  have Y1 : ∀ w', w' = wr.drew → w'.cell? ⟨b2, o2 + z * 4 + 1, none⟩ = some (.int .u16 yt) := fun w' e => by rw [e]; exact y1
                  have Y2 : ∀ w', w' = wr.drew → w'.cell? ⟨b2, o2 + z * 4 + 2, none⟩ = some (.int .u16 yo) := fun w' e => by rw [e]; exact y2
                  have Y3 : ∀ w', w' = wr.drew → w'.cell? ⟨b2, o2 + z * 4 + 3, none⟩ = some (.bool ys) := fun w' e => by rw [e]; exact y3
                  have Z0 : ∀ w', w' = wr.drew → w'.cell? ⟨bi, k, none⟩ = some (.int .i64 z) := fun w' e => by rw [e]; exact hci9
                  clear x0 x1 x2 x3 y0 y1 y2 y3 hci9 hci hcx hcy hc2 hu2
                  have Hk9 := Lib.hid hk9
                  have Hz := Lib.hid hz
                  have Hy := Lib.hid hy
                  have Hzl := Lib.hid hzl
                  have Hy2 := Lib.hid hy2
                  have Hg7 := Lib.hid hg7
                  have Hg2 := Lib.hid hg2
                  have Hbi := Lib.hid hbi
                  clear hk9 hz hy hzl hy2 hg7 hg2 hbi
                  go_wp2_with fail
                  refine wp_region_script [0, 1, 2, 3, 4, 5, 6, 7, 8, 9, 10, 11] [3, 8, 10] [.ps [0, 1, 2], .fs [3], .ps [4, 5, 6, 7], .fs [8], .ps [9], .fs [10], .ps [11]] (fun w' => w' = wr.drew) rfl (by kernel_rfl) ?_
                  refine wpS_ps rfl fun K hK => ?_
                  simp only [List.map_cons, List.map_nil, Option.getD_some, List.getElem?_toArray, List.getElem?_cons_zero, List.getElem?_cons_succ]
                  iterate 3 (first | (apply quietO_cons _ rfl; (intro w' _; go_simp; rfl)) | apply quietO_skip rfl)
                  refine hK _ ?_
                  clear hK K
                  simp only [Act.put, List.setIfInBounds_toArray, List.set_cons_zero, List.set_cons_succ]
                  refine wpS_fs rfl (rfl) fun K hK => ?_
                  simp only [List.map_cons, List.map_nil, Option.getD_some, List.getElem?_toArray, List.getElem?_cons_zero, List.getElem?_cons_succ]
                  iterate 1 (first | (apply quietO_cons _ rfl; (intro w' hs; have c_0 := X0 w' hs; have c_1 := X1 w' hs; have c_2 := X2 w' hs; have c_3 := X3 w' hs; go_simp; rfl)) | apply quietO_skip rfl)
                  refine hK _ ?_
                  clear hK K
                  simp only [Act.put, List.setIfInBounds_toArray, List.set_cons_zero, List.set_cons_succ]
                  refine wpS_ps rfl fun K hK => ?_
                  simp only [List.map_cons, List.map_nil, Option.getD_some, List.getElem?_toArray, List.getElem?_cons_zero, List.getElem?_cons_succ]
                  iterate 4 (first | (apply quietO_cons _ rfl; (intro w' _; go_simp; rfl)) | apply quietO_skip rfl)
                  refine hK _ ?_
                  clear hK K
                  simp only [Act.put, List.setIfInBounds_toArray, List.set_cons_zero, List.set_cons_succ]
                  refine wpS_fs rfl (rfl) fun K hK => ?_
                  simp only [List.map_cons, List.map_nil, Option.getD_some, List.getElem?_toArray, List.getElem?_cons_zero, List.getElem?_cons_succ]
                  iterate 1 (first | (apply quietO_cons _ rfl; (intro w' hs; have c_0 := Z0 w' hs; go_simp; rfl)) | apply quietO_skip rfl)
                  refine hK _ ?_
                  clear hK K
                  simp only [Act.put, List.setIfInBounds_toArray, List.set_cons_zero, List.set_cons_succ]
                  refine wpS_ps rfl fun K hK => ?_
                  simp only [List.map_cons, List.map_nil, Option.getD_some, List.getElem?_toArray, List.getElem?_cons_zero, List.getElem?_cons_succ]
                  iterate 1 (first | (apply quietO_cons _ rfl; (intro w' _; go_simp; rfl)) | apply quietO_skip rfl)
                  refine hK _ ?_
                  clear hK K
                  simp only [Act.put, List.setIfInBounds_toArray, List.set_cons_zero, List.set_cons_succ]
                  refine wpS_fs rfl (rfl) fun K hK => ?_
                  simp only [List.map_cons, List.map_nil, Option.getD_some, List.getElem?_toArray, List.getElem?_cons_zero, List.getElem?_cons_succ]
                  iterate 1 (first | (apply quietO_cons _ rfl; (intro w' hs; have c_0 := Y0 w' hs; have c_1 := Y1 w' hs; have c_2 := Y2 w' hs; have c_3 := Y3 w' hs; go_simp; rfl)) | apply quietO_skip rfl)
                  refine hK _ ?_
                  clear hK K
                  simp only [Act.put, List.setIfInBounds_toArray, List.set_cons_zero, List.set_cons_succ]
                  refine wpS_ps rfl fun K hK => ?_
                  simp only [List.map_cons, List.map_nil, Option.getD_some, List.getElem?_toArray, List.getElem?_cons_zero, List.getElem?_cons_succ]
                  iterate 1 (first | (apply quietO_cons _ rfl; (intro w' _; go_simp; rfl)) | apply quietO_skip rfl)
                  refine hK _ ?_
                  clear hK K
                  simp only [Act.put, List.setIfInBounds_toArray, List.set_cons_zero, List.set_cons_succ]
                  refine wpS_nil ?_
                  go_wp2_with fail
                  go_roundw
                  case rel => exact ⟨k + 1, by simp, by omega, Hk9.out.drew⟩
                  case measure => simp [intOf]; omega
                · obtain rfl : k = K := by omega
                  have hst9 := Hst7.out.same hk9
                  have hkI : ¬ (k : Int) < k := by omega
                  have Hst9 := Lib.hid hst9
                  have Hk9 := Lib.hid hk9
                  clear hst9 hk9
                  go_wp2_with fail
                  go_roundw
                  case rel => exact ⟨i + 1, g2, l2, by simp, by omega, Hst9.out, Ho2.out, by rw [← HR2.out]; exact Hl2.out⟩
                  case measure => simp [intOf]; omega
    · obtain rfl : i = L := by omega
      have Hst := Lib.hid hst
      clear hst
      go_wp2_with fail
      go_ret
      exact ⟨rfl, Hst.out.q.k⟩
end Go.Proofs.Ytnccgmffgmfinaa
