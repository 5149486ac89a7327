/-
 Texts that the claim's last one rests on, joined.
-/
import Derived.Test.YtkgnhidkfdoimaaGreatBWorkFullj
import Derived.Test.YtkgnhidkfdoimaaGreatBWorkFullf
import Derived.Test.YtkgnhidkfdoimaaGreatBWorkFullh
import Derived.Shelf.SlIterI.Nil
import Derived.Shelf.SortM.Plain
import Derived.Shelf.SortM.SortNone
import Derived.Test.YtkgnhidkfdoimaaGreatBWorkFullc
import Derived.Test.YtkgnhidkfdoimaaGreatBWorkFullg
import Derived.Test.YtkgnhidkfdoimaaGreatRows
import Derived.Test.YtkgnhidkfdoimaaGreatBWorkFulli
import Derived.RangeFuncBox
import Derived.RangeFuncLeaves
import Derived.WalkKit
import Derived.OwnWalkIn
import Derived.TacticsInMore
import Derived.LoopNIn
import Derived.LoopIn

section
set_option maxRecDepth 10000
namespace Go.Lib
open Go.Vm Go.Dv
variable {p : Prog} {ext : Ext} {F : Nat → Nat}
section
variable {H : HpD} {bt bd bm bb br : Nat} {sb rs ds : D} {t : Tb} {k : Bk} {r : Rn}
structure HRes (p : Prog) (ext : Ext) (F : Nat → Nat) : Prop where
 h77 : Has p ext F 77 M77
 h374 : Has p ext F 374 M374
 h383 : Has p ext F 383 M383
theorem sem_exactO {Q : ResD → Prop} {H0 H : HpD} {sz : Nat} {s : D} {el : List (List D)} {l : List MO} {fz lv : List Nat} {K : List KD} {fr : FrD} (g : Gr H0 H sz s el) (hs : ∀ H', GrX H0 H' sz s el → (∀ x, ¬ s.hasB x → H'.blk x = H.blk x) → H'.next = H.next → Dv.Sem p ext Q (.ops l fz lv K .mk fr H')) : Dv.Sem p ext Q (.ops l fz lv K .mk fr H) := by
 obtain ⟨H', w, g', k, n⟩ := g.exact;exact sem_weak_ops (w _ _) (hs H' g' k n)
theorem splice_drop {x : D} : ∀ {cs : List D} {k m : Nat}, k + 1 ≤ m → (spliceD cs k [x]).drop m = cs.drop m
 | [], 0, m, h => by
  obtain ⟨m, rfl⟩ : ∃ n, m = n + 1 := ⟨m - 1, by omega⟩;simp [spliceD_zero]
 | [], k + 1, m, h => by simp [spliceD]
 | c :: cs, 0, m, h => by
  obtain ⟨m, rfl⟩ : ∃ n, m = n + 1 := ⟨m - 1, by omega⟩;simp [spliceD_zero]
 | c :: cs, k + 1, m, h => by
  obtain ⟨m, rfl⟩ : ∃ n, m = n + 1 := ⟨m - 1, by omega⟩;rw [spliceD_succ];simp only [List.drop_succ_cons];exact splice_drop (by omega)
theorem res_flats {l : List Rs} : ∀ e, e ∈ resE l → flatsD e = true := by
 intro e he; simp only [resE, List.mem_map] at he; obtain ⟨x, _, rfl⟩ := he; rfl
theorem clone_res (L : HRes p ext F) (h : OwnS H 3 rs (resE r.res)) (hl : r.res.length < 1000000) : WcD p ext (F 383) [rs] H (fun d H' => Gr H H' 3 d (resE r.res)) := by
 refine wc_of L.h383 (M := M383) rfl ok383 rfl (sem_run 9000 _ ?_);rcases h with ⟨rfl, h2⟩ | ⟨bl, ex, rfl, h2, h3⟩
 ·simp;refine sem_ret ?_;simp [M383, h2];exact .start
 ·simp;obtain ⟨s', H', e, g, _⟩ := (Gr.lit (el := []) (sz := 3) (H := H) (ex := true) (c := []) (n := 0) Sub.refl (by simp) rfl rfl).app (by_ := 40) (m := .p) (new := resE r.res) resE_3 res_flats (roomyD (by simp [resE_len]; omega) (by simp [resE_len]; omega));have e2 := appendD_sliceN (sz := 3) (by_ := 40) (b := bl) (cap := (resE r.res).length) (n := (resE r.res).length) (ex := ex) (ro := false) (el := resE r.res) (H := H.new (.cells [] false)) (s := .slice H.next 0 3 0 0 true) (by simp [ltn h2, h3]) resE_3 rfl;rw [e] at e2;simp [e2];refine sem_ret ?_;simp [M383];simpa using g
def RsI (H : HpD) (b : Nat) (ex : Bool) (l : List Rs) (w : Nat) (fr : FrD) (H' : HpD) : Prop :=
 ∃ (i : Nat) (cs : List D), w = l.length - i ∧ i ≤ l.length ∧ fr = [(3, .slice b 0 3 l.length l.length ex), (14, .slice b 0 3 l.length l.length ex), (15, .lit (.int .i64 (l.length : Int))), (16, .lit (.int .i64 (i : Int)))] ∧ b < H'.next ∧ Sub H H' ∧ H'.blk b = .cells cs false ∧ cs.length = l.length * 3 ∧ cs.drop (i * 3) = (resE l).flatten.drop (i * 3)
theorem clip_rsW (L : Has p ext F 77 M77) {s : D} (hs : s = .lit .nilslice ∨ ∃ b n ex, s = .slice b 0 3 n n ex) : WcD p ext (F 77) [s] H fun d H' => lenbD d = lenbD s ∧ H' = H := by
 refine wc_of L (M := M77) rfl ok77 rfl (sem_run 9000 _ ?_);rcases hs with rfl | ⟨b, n, ex, rfl⟩
 ·simp [slc_nil];refine sem_ret ?_;simp [M77]
 ·simp [slc_own];refine sem_ret ?_;simp [M77]
theorem work_results (L : HRes p ext F) (h : Wk H bt bd bm bb br sb rs ds t k r) (hl : r.res.length < 1000000) (hz : ∀ x, x ∈ r.res → x.rows = []) : WcD p ext (F 374) [.ptr br 0] H (fun d H' => lenbD d = some (.lit (.int .i64 (r.res.length : Int))) ∧ Sub H H') := by
 refine wc_of L.h374 (M := M374) rfl ok374 rfl (sem_run 9000 _ ?_);simp [h.f];refine sem_call (clone_res L h.r.res hl) fun d H1 g1 => ?_;refine sem_exactO g1 fun H2 gx k2 n2 => ?_;rcases gx.at_ with ⟨rfl, he⟩ | ⟨b, ex, rfl, y1, y2, y3⟩
 ·have h0 : r.res.length = 0 := (by have := congrArg List.length he; rw [resE_len] at this; exact this);refine sem_run 9000 _ ?_;simp;refine sem_loop (fun w fr H' => w = 0 ∧ fr = [(3, .lit .nilslice), (14, .lit .nilslice), (15, .lit (.int .i64 0)), (16, .lit (.int .i64 0))] ∧ H' = H2) ?_ (k := 0) ⟨rfl, rfl, rfl⟩;rintro w fr H' ⟨rfl, rfl, rfl⟩;refine sem_run 9000 _ ?_;simp;refine sem_exit (sem_run 9000 _ ?_);simp;refine sem_call (clip_rsW L.h77 (.inl rfl)) ?_;rintro d2 H3 ⟨e2, rfl⟩;refine sem_run 9000 _ ?_;simp;refine sem_ret ?_;simp [M374];exact ⟨by rw [e2, h0]; rfl, gx.gr.sub⟩
 ·rw [resE_len];refine sem_run 9000 _ ?_;simp;refine sem_loop (RsI H b ex r.res) ?_ (k := r.res.length) ⟨0, _, by simp, by simp, rfl, y2, gx.gr.sub, y3, by rw [flatten_len resE_3, resE_len], rfl⟩;rintro w fr H' ⟨i, cs, rfl, hi, rfl, hn, hsub, hb, hl3, hd⟩
  have hw : wr .i64 ((i : Int) + 1) = ((i + 1 : Nat) : Int) := by rw [wr_of] <;> omega
  by_cases c : i < r.res.length
  ·obtain ⟨x, hx⟩ : ∃ x, r.res[i]? = some x := ⟨_, List.getElem?_eq_getElem c⟩;have hxe : (resE r.res)[i]? = some x.c := (by simp [resE, hx]);have f1 := flat_slice resE_3 hxe;rw [← hd] at f1;have hz' := hz x (List.mem_of_getElem? hx);have f2 : i * 3 + 3 ≤ cs.length := (by omega);refine sem_run 9000 _ ?_;simp [c, hb, f1, f2, rs_c, hz'];refine sem_loop (fun w fr H3 => w = 0 ∧ fr = [(3, .slice b 0 3 r.res.length r.res.length ex), (4, .lit (.int .i64 (i : Int))), (6, .lit .nilslice), (14, .slice b 0 3 r.res.length r.res.length ex), (15, .lit (.int .i64 (r.res.length : Int))), (16, .lit (.int .i64 (i : Int))), (22, rowsD []), (23, .lit (.int .i64 0)), (24, .lit (.int .i64 0))] ∧ Sub H' H3) ?_ (k := 0) ⟨rfl, rfl, sR⟩
   rintro w fr H3 ⟨rfl, rfl, s3⟩;have hb3 := s3.blk b hn;rw [hb] at hb3;have n3 := s3.next;refine sem_run 9000 _ ?_;simp;refine sem_exit (sem_run 9000 _ ?_);have f3 : i * 3 + 2 + 1 ≤ cs.length := (by omega);simp [c, hb3, f3];refine sem_ok ?_;refine ⟨_, by omega, i + 1, spliceD cs (i * 3 + 2) [.lit .nilslice], rfl, by omega, by rw [hw], by simp; omega, (hsub.trans s3).put y1, by rw [put_blk, if_pos rfl], ?_, ?_⟩
   ·rw [spliceD_length (by simpa using f3), hl3]
   ·rw [splice_drop (by omega)];have : (i + 1) * 3 = i * 3 + 3 := (by omega);rw [this, ← List.drop_drop, ← List.drop_drop, hd]
  ·have : i = r.res.length := (by omega);subst this;refine sem_run 9000 _ ?_;simp;refine sem_exit (sem_run 9000 _ ?_);simp;refine sem_call (clip_rsW L.h77 (.inr ⟨b, _, ex, rfl⟩)) ?_;rintro d2 H3 ⟨e2, rfl⟩;refine sem_run 9000 _ ?_;simp;refine sem_ret ?_;simp [M374];exact ⟨by rw [e2]; rfl, hsub⟩
end
end Go.Lib
end

section
set_option maxRecDepth 10000
namespace Go.Lib
open Go.Vm Go.Dv
variable {p : Prog} {ext : Ext} {F : Nat → Nat}
attribute [-simp] bin_and
section
structure HFull (p : Prog) (ext : Ext) (F : Nat → Nat) : Prop where
 l20 : HLaw20 p ext F
 res : HRes p ext F
 awake : FnD p ext (F 423) [] (.lit (.bool true))
 h414 : Has p ext F 414 M414
 h415 : Has p ext F 415 M415
theorem s2_ok : OkS s2 := by
 have key : ∀ c, c ∈ s2 → NameOk c.name := (by unfold s2 NameOk; decide);refine ⟨key, fun i j c c' h1 h2 e => ?_, fun c hc => ?_, by decide, ⟨_, rfl, rfl, rfl⟩⟩
 ·have k2 : ∀ i j : Fin 2, (s2[i.val]?.map (·.name)) = (s2[j.val]?.map (·.name)) → i = j := (by decide);have l1 : i < 2 := (List.getElem?_eq_some_iff.1 h1).1;have l2 : j < 2 := (List.getElem?_eq_some_iff.1 h2).1;exact congrArg Fin.val (k2 ⟨i, l1⟩ ⟨j, l2⟩ (by simp [h1, h2, e]))
 ·have : ∀ c, c ∈ s2 → c.kind = 1 := (by decide);exact .inl (this c hc)
theorem full_num (L : HFull p ext F) {x : Int} {H : HpD} : Td p ext (F 415) [.lit (.int .i64 x)] H (.agg [.lit (.bool false), .lit (.int .i64 1), .lit (.int .i64 x), .lit .nilslice]) H := by
 refine td_of L.h415 (M := M415) rfl ok415 rfl (Nat.le_refl _) (fun h => h) (sem_run 9000 _ ?_);simp;refine sem_ret ?_;simp [M415];exact .le sR (D.le_refl _) (by simp)
theorem insP_ok {a b : Int} {H : HpD} : (insP a b).Ok H := ⟨.inl ⟨rfl, rfl⟩, by simp [insP], by simp [insP], by simp [insP], by simp [insP]⟩
def FuI (H0 : HpD) (f : Nat) (n m bt bb : Nat) (w : Nat) (fr : FrD) (H : HpD) : Prop :=
 ∃ (i : Nat) (s : D), w = m - i ∧ i ≤ m ∧ fr = [(0, .lit (.int .i64 ((n : Int) + 1))), (1, .lit (.int .i64 (m : Int))), (6, .ptr bt 0), (8, .ptr bb 0), (9, .func f [] []), (12, s), (13, .lit (.int .i64 (i : Int)))] ∧ Gr H0 H 14 s ((opsFull i).map PO.cs)
theorem opsFull_succ {i : Nat} : (opsFull (i + 1)).map PO.cs = (opsFull i).map PO.cs ++ [(insP (i : Int) (i : Int)).cs] := by
 unfold opsFull;rw [List.range_succ]; simp
theorem workFull (L : HFull p ext F) {a b : Int} {H : HpD} : WcD p ext (F 414) [.lit (.int .i64 a), .lit (.int .i64 b)] H (fun d _ => d = .lit (.bool true)) := by
 refine wc_of L.h414 (M := M414) rfl ok414 rfl (sem_run 9000 _ ?_);obtain ⟨n0, hn0, hn1⟩ := andI_small (a := a) (m := 7) (by simp);have hn0' : andI a 7 = n0 := hn0;obtain ⟨m0, hm0, hm1⟩ := andI_small (a := b) (m := 7) (by simp);have hm0' : andI b 7 = m0 := hm0;have hw : wr .i64 ((n0 : Int) + 1) = ((n0 + 1 : Nat) : Int) := (by rw [wr_of] <;> omega);simp [hn0', hm0', hw];have hT := L.l20.nw.w4.w3.w2.work.rows.view.pick.tabl;refine sem_call (WcD.args (tabl_new hT (s := s2) (a := ((n0 + 1 : Nat) : Int)) (b := 0) s2_ok) (by simp [D.les, D.le, schD, schR, schE, s2, Cl.c, D.less])) ?_;rintro _ H1 ⟨bt, bd, bm, rfl, tb, s1, _, _, _⟩
 refine sem_run 9000 _ ?_;simp;refine sem_td (txns_new L.l20.nw.w4.w3.w2.work.rows.view.txns) (by first | exact D.les_refl _ | simp) (sem_run 9000 _ ?_);simp;generalize hh : HpD.new _ _ = H2;have s2' : Sub H1 H2 := (by rw [← hh]; exact sW);have hb2 : H2.blk H1.next = .cells [.lit (.int .i64 0), .lit .nilslice] false := (by rw [← hh]; simp);have n2 : H2.next = H1.next + 1 := (by rw [← hh]; simp);clear hh;have h2 : TbAt H2 bt bd bm H1.next (.lit .nilslice) (tab0 ((n0 + 1 : Nat) : Int)) ⟨0, []⟩ := ⟨tb.mono s2', ⟨hb2, by omega, .inl ⟨rfl, rfl⟩⟩, ⟨fun v hv => (by cases hv), by simp [tab0]⟩, by simp⟩
 refine sem_td (full_num L (x := 50)) (by first | exact D.les_refl _ | simp) (sem_run 9000 _ ?_);simp;refine sem_td (full_num L (x := 0)) (by first | exact D.les_refl _ | simp) (sem_run 9000 _ ?_);simp;have hC := full_all ⟨n0, by omega⟩ ⟨m0, by omega⟩;simp only at hC;unfold fullC at hC
 cases hA : fullA (n0 + 1) with
 | none => rw [hA] at hC; cases hC
 | some sA =>
 rw [hA] at hC;simp only [Bool.and_eq_true, decide_eq_true_eq] at hC;obtain ⟨⟨hk1, ht1⟩, hC⟩ := hC;refine sem_call (WcD.args (law20_alone L.l20 (m := .p) (l := [insP 50 0]) h2 (by simp) (fun x hx => by simp at hx; subst hx; exact insP_ok) hA) (by simp [D.les, D.le, PO.cs, insP, plainO, plainP, rowD, rowE, nVl, Vl.c, byD, byE, sxsD, sxsE, intsD, D.less])) ?_;rintro _ H3 ⟨rfl, oA⟩;obtain ⟨sb3, rs3, ds3, w3, x3, f3⟩ := oA;refine sem_run 9000 _ ?_;simp;refine sem_loop (FuI H3 (F 415) n0 m0 bt H1.next) ?_ (k := m0) ⟨0, .lit .nilslice, by simp, by omega, by simp, .start⟩;rintro w fr H4 ⟨i, s, rfl, hi, rfl, g⟩
 have hwi : wr .i64 ((i : Int) + 1) = ((i + 1 : Nat) : Int) := by rw [wr_of] <;> omega
 by_cases c : i < m0
 ·refine sem_run 9000 _ ?_;simp [c];refine sem_td (full_num L (x := (i : Int))) (by first | exact D.les_refl _ | simp) (sem_run 9000 _ ?_);simp;refine sem_td (full_num L (x := (i : Int))) (by first | exact D.les_refl _ | simp) (sem_run 9000 _ ?_);simp;refine sem_push_le (insP (i : Int) (i : Int)).cs (g.mono sR) (by simp [D.les, D.le, PO.cs, insP, plainO, plainP, rowD, rowE, nVl, Vl.c, byD, byE, sxsD, sxsE, intsD, D.less]) rfl (by simp [flatsD]) (roomyD (by simp [opsFull]; omega) (by simp [opsFull]; omega)) fun s' H5 g5 _ _ => ?_;simp;refine sem_ok ?_;rw [← opsFull_succ] at g5;exact ⟨_, by omega, i + 1, s', rfl, by omega, by rw [hwi], g5⟩
 ·have : i = m0 := (by omega);subst this;refine sem_run 9000 _ ?_;simp;refine sem_exit (sem_run 2 _ ?_);simp;refine sem_turn_as [(0, .lit (.int .i64 ((n0 : Int) + 1))), (1, .lit (.int .i64 (i : Int))), (6, .ptr bt 0), (8, .ptr H1.next 0), (9, .func (F 415) [] []), (12, .row 14 .p ((opsFull i).map PO.cs)), (13, .lit (.int .i64 (i : Int)))] g 12 (by simp) (by simp [frLe_cons, frLe_nil, lk, D.le_refl]) fun H5 s5 k5 n5 => ?_;have h5 := w3.w.mono s5
  cases hB : fullB sA i with
  | none => rw [hB] at hC; cases hC
  | some sB =>
  rw [hB] at hC;simp only [Bool.and_eq_true, decide_eq_true_eq, List.all_eq_true] at hC;obtain ⟨⟨⟨hz, hk2⟩, ht2⟩, hC⟩ := hC;have hz' : ∀ x, x ∈ sB.r.res → x.rows = [] := fun x hx => List.isEmpty_iff.1 (hz x hx)
  have hok : ∀ x, x ∈ opsFull i → x.Ok H5 := fun x hx => by
   unfold opsFull at hx;rw [List.mem_map] at hx;obtain ⟨j, _, rfl⟩ := hx;exact insP_ok
  refine sem_run 9000 _ ?_;simp;refine sem_call (law20_alone L.l20 h5 (by simp [opsFull]; omega) hok hB) ?_;rintro _ H6 ⟨rfl, oB⟩;obtain ⟨sb6, rs6, ds6, w6, x6, f6⟩ := oB;have hP := L.l20.nw.w4.w3.w2.work.rows.view.pick
  by_cases cm : i < n0 + 1
  ·rw [if_pos cm] at hC;simp only [Bool.and_eq_true, decide_eq_true_eq] at hC;obtain ⟨c1, c2⟩ := hC;have cm' : (i : Int) < (n0 : Int) + 1 := (by omega);refine sem_run 9000 _ ?_;simp [cm'];refine sem_td (work_err L.l20.nw.w4.w3 w6) (by first | exact D.les_refl _ | simp) (sem_run 9000 _ ?_);simp [c1];refine sem_call (tabl_ids hP w6.w.tb w6.w.ids) fun d7 H7 g7 => ?_;have e7 := g7.lenb;simp only [intsE_len, idsF_len, c2] at e7;have hw1 : wr .i64 (1 + (i : Int)) = 1 + (i : Int) := (by rw [wr_of] <;> omega);refine sem_run 9000 _ ?_;simp [e7, hw1];refine sf L.awake ?_;simp;refine sem_ret ?_;simp [M414]
  ·rw [if_neg cm] at hC;simp only [Bool.and_eq_true, decide_eq_true_eq] at hC;obtain ⟨⟨c1, c2⟩, c3⟩ := hC;have cm' : ¬ (i : Int) < (n0 : Int) + 1 := (by omega);refine sem_run 9000 _ ?_;simp [cm'];refine sem_td (work_err L.l20.nw.w4.w3 w6) (by first | exact D.les_refl _ | simp) (sem_run 9000 _ ?_);simp [c1];refine sem_call (tabl_ids hP w6.w.tb w6.w.ids) fun d7 H7 g7 => ?_;have e7 := g7.lenb;simp only [intsE_len, idsF_len, c2] at e7;refine sem_run 9000 _ ?_;simp [e7];have w7 := w6.mono g7.sub;refine sem_call (work_results L.res w7 (by omega) hz') ?_;rintro d8 H8 ⟨e8, s8⟩;rw [c3] at e8;refine sem_run 9000 _ ?_
   simp [e8];refine sf L.awake ?_;simp;refine sem_ret ?_;simp [M414]
end
end Go.Lib
end

section
namespace Go.Lib
open Go.Vm Go.Dv
set_option maxRecDepth 100000
abbrev K334 (F : Nat → Nat) : KC := .seq (.region [⟨some 2,.p (.mov (.val (.nilslice))),none⟩] [] [0])
 (.seq (.region [⟨some 4,.p (.mov (.tmp 0)),none⟩,⟨some 5,.e (.call (F 424) [(.tmp 4)]),none⟩,⟨some 3,.p (.mov (.tmp 5)),none⟩] [] [3])
 (.seq (.region [⟨some 6,.p (.mov (.tmp 3)),none⟩,⟨some 7,.e (.call (F 331) [(.tmp 6)]),none⟩] [] [3])
 (.seq (.region [⟨some 8,.p (.mov (.tmp 3)),none⟩,⟨some 2,.p (.mov (.tmp 8)),none⟩] [] [2])
 (.ret))))
def M334 (F : Nat → Nat) : Fun := ⟨9,1,(K334 F).erase,[.tmp 2]⟩
theorem ok334 {F : Nat → Nat} : (K334 F).ok = true := by kernel_rfl
abbrev K424 (F : Nat → Nat) : KC := .seq (.region [⟨some 2,.p (.mov (.val (.nilslice))),none⟩] [] [0])
 (.seq (.region [⟨some 3,.p (.mov (.tmp 0)),none⟩,⟨some 4,.e (.call (F 425) [(.val (.nilslice)),(.tmp 3)]),none⟩,⟨some 2,.p (.mov (.tmp 4)),none⟩] [] [2])
 (.ret))
def M424 (F : Nat → Nat) : Fun := ⟨5,1,(K424 F).erase,[.tmp 2]⟩
theorem ok424 {F : Nat → Nat} : (K424 F).ok = true := by kernel_rfl
end Go.Lib
end

section
set_option maxRecDepth 10000
namespace Go.Lib
open Go.Vm Go.Dv
variable {p : Prog} {ext : Ext} {F : Nat → Nat}
theorem enterE {f : Nat} {m : Fun} {kc : KC} {args : List D} {H : HpD} (he : ∀ ψ S h vs, VDl h ψ S args vs → ext f vs h = none) (hf : p.funs.get f = some m) (hb : m.body = kc.erase) (hk : kc.ok = true) {R : D → HpD → Prop} (hn : args.length = m.nargs)
  (hs : Go.Dv.Sem p ext (endD m.results R) (.code kc [] .mk (argsD 0 args) H)) : WcD p ext f args H R := by
 intro ψ S h vs s k;refine enter (he _ _ _ _ k) hf (by rw [k.length, hn]) ?_;rw [hb];refine hs hk rfl ψ S h _ _ s (argsD_ok k) ?_;rintro r ⟨r', k1, k2⟩
 have fin : ∀ fr fv H' h', (∃ ψ' S', Ex h ψ S h' ψ' S' ∧ SR p.gl ψ' S' H' h' ∧ FrR h' ψ' S' fr fv) → optQ (resLD fr H' m.results) (fun l => R (tupD l) H') → ∃ v, resP fv h' m.results = some (v, h') ∧ ∃ ψ' S' d H', Ex h ψ S h' ψ' S' ∧ SR p.gl ψ' S' H' h' ∧ VD h' ψ' S' d v ∧ R d H' := by
  rintro fr fv H' h' ⟨ψ', S', x, s', kf⟩ k;unfold optQ at k;split at k
  case h_2 => exact k.elim
  rename_i l hl;obtain ⟨us, e1, k1⟩ := resLD_ok s' kf hl;exact ⟨tupOf us, by simp only [resP, e1], ψ', S', tupD l, H', x, s', tupD_ok k1, k⟩
 cases r with
 | fail => cases r' <;> exact k1.elim
 | ok fv h' => cases r' with
  | ok fr H' => exact fin fr fv H' h' k1 k2
  | exit => exact k1.elim
  | ret => exact k1.elim
 | ret fv h' => cases r' with
  | ret fr H' => exact fin fr fv H' h' k1 k2
  | exit => exact k1.elim
  | ok => exact k1.elim
 | exit id fv h' => cases r' with
  | exit => exact k2.elim
  | ok => exact k1.elim
  | ret => exact k1.elim
structure HSorted (p : Prog) (ext : Ext) (F : Nat → Nat) : Prop where
 g334 : p.funs.get (F 334) = some (M334 F)
 e334 : ∀ c h, ext (F 334) [.func (F 409) [] [.ptr c 0]] h = none
 h424 : Has p ext F 424 M424
 x425 : ∀ args h, ext (F 425) args h = valuesX (F 425) (F 409) (F 425) args h
 x331 : ∀ args h, ext (F 331) args h = sortX (F 331) (F 331) args h
theorem append_wc (L : HSorted p ext F) {b : Nat} {H : HpD} (hb : H.blk b = .cells [.lit .nilslice] false) : WcD p ext (F 425) [.lit .nilslice, .func (F 409) [] [.ptr b 0]] H fun d H' => d = .lit .nilslice ∧ H' = H := by
 intro ψ S h vs sr k;simp only [VDl] at k;obtain ⟨v0, r0, rfl, kv0, v, r, rfl, kv, rfl⟩ := k;simp only [VD, VDl] at kv kv0;obtain ⟨a', c', rfl, rfl, w, r2, rfl, ⟨c, hc, rfl⟩, rfl⟩ := kv;obtain ⟨hS, cs, hcb, kcs⟩ := sr.cells hc hb;simp only [VDl, VD] at kcs;obtain ⟨w, r2, rfl, ⟨rfl, _⟩, rfl⟩ := kcs;obtain ⟨rfl, _⟩ := kv0;have hrO : h.readO c = some [.nilslice] := (by unfold Hp.readO Hp.read; rw [hcb]; rfl);refine wpc_ext (v := .nilslice) (h' := h) ?_ ⟨ψ, S, .lit .nilslice, H, .refl, sr, by simp [VD, atomV], rfl, rfl⟩;rw [L.x425];simp only [valuesX];rw [show Nat.beq (F 425) (F 425) = true from nbeq.2 rfl, show Nat.beq (F 409) (F 409) = true from nbeq.2 rfl, cond_true, cond_true]
 simp only [hrO]
theorem collect_wc (L : HSorted p ext F) {b : Nat} {H : HpD} (hb : H.blk b = .cells [.lit .nilslice] false) : WcD p ext (F 424) [.func (F 409) [] [.ptr b 0]] H fun d H' => d = .lit .nilslice ∧ H' = H := by
 refine wc_of L.h424 (M := M424) rfl ok424 rfl (sem_run 9000 _ ?_);simp;refine sem_call (append_wc L hb) ?_;rintro d H' ⟨rfl, rfl⟩;refine sem_run 9000 _ ?_;simp;refine sem_ret ?_;simp [M424]
theorem sorted_nil_wc (L : HSorted p ext F) {b : Nat} {H : HpD} (hb : H.blk b = .cells [.lit .nilslice] false) : WcD p ext (F 334) [.func (F 409) [] [.ptr b 0]] H fun d H' => d = .lit .nilslice ∧ H' = H := by
 refine enterE (m := M334 F) ?_ L.g334 (kc := K334 F) rfl ok334 rfl (sem_run 9000 _ ?_)
 ·intro ψ S h vs k;simp only [VDl] at k;obtain ⟨v, r, rfl, kv, rfl⟩ := k;simp only [VD, VDl] at kv;obtain ⟨a', c', rfl, rfl, w, r2, rfl, ⟨c, hc, rfl⟩, rfl⟩ := kv;exact L.e334 _ _
 simp;refine sem_call (collect_wc L hb) ?_;rintro d H' ⟨rfl, rfl⟩;refine sem_run 9000 _ ?_;simp;refine sem_call (sort_wc L.x331 (H0 := H') (l := []) ⟨.nil .refl, .inl ⟨rfl, rfl⟩⟩ (fun _ h => by cases h) (by simp)) ?_;rintro d H3 ⟨rfl, gx, hk, hn⟩
 have e3 : H3 = H' := by
  rcases H3 with ⟨n3, b3⟩;rcases H' with ⟨n1, b1⟩;simp only at hk hn;subst hn;have : b3 = b1 := funext fun x => hk x (by simp [D.hasB]);rw [this]
 subst e3;refine sem_run 9000 _ ?_;simp;refine sem_ret ?_;simp [M334]
end Go.Lib
end

section
namespace Go.Vm
open Go.RowKit Go.Maps Go.Sort Go.Shelf Go.Proofs
variable {P : Program} {ρ σ : Ren}
theorem insert_perm {H : Type} (x : Lit × DataW H) : ∀ l : List (Lit × DataW H), (DataW.insert x l).Perm (x :: l)
 | [] => .refl _
 | y :: r => by
  simp only [DataW.insert];split
  ·exact .refl _
  ·exact ((insert_perm x r).cons y).trans (.swap x y r)
theorem foldr_insert_perm {H : Type} : ∀ l : List (Lit × DataW H), (l.foldr DataW.insert []).Perm l
 | [] => .refl _
 | x :: l => (insert_perm x _).trans ((foldr_insert_perm l).cons x)
theorem wf_of_wr {a : Int} (h : wr .i64 a = a) : (Lit.int .i64 a).wf = true := by
 rw [wr_eq] at h
 have hb : -9223372036854775808 ≤ a ∧ a ≤ 9223372036854775807 := by
  simp only [IntKind.wrap, IntKind.bits, IntKind.signed, Bool.true_and] at h;split at h <;> rename_i hc <;> simp at hc <;> omega
 simp only [Lit.wf, IntKind.min, IntKind.max, IntKind.bits, IntKind.signed];simp;exact hb
theorem owns_of {w : World} {k : TypeId} {b : Nat} {es : Array MapEntry} {clock : Nat} (hk : P.underlying k = some (.int .i64)) (hb : w.heap[b]? = some (.map es clock)) (hst : MapKept.Stamped es clock)
  (hkeys : ∀ x, x ∈ es.toList → ∃ a : Int, x.key = .int .i64 a ∧ wr .i64 a = a) (hsz : es.size ≤ 1000000) :
  ∃ D0 : DataW Unit, w.ownsMap P k (fun _ => some (.nil, [])) b es.size D0 ∧ Maps.size D0 ≤ 1000000 ∧ (intKeys D0).Perm (es.toList.map fun x => numKey x.key) := by
 have hrd : ∀ x, x ∈ es.toList → WideElems.rd (H := Unit) P k (fun _ => some (.nil, [])) x = some (.int .i64 (numKey x.key), .nil) := by
  intro x hx;obtain ⟨a, e1, e2⟩ := hkeys x hx;obtain ⟨key, val, born⟩ := x;simp only at e1;subst e1;exact WideElems.rd_mk (R := fun _ => some ((DataW.nil : DataW Unit), [])) (yv := (.nil, [])) (keyOf_int_mk hk (wf_of_wr e2)) rfl
 have hmax : (1000000 : Nat) ≤ maxLen := (by decide);refine ⟨.map ((es.toList.map (WideElems.rg P k fun _ => some (.nil, []))).foldr DataW.insert []), ⟨es, clock, hb, ⟨Nat.le_trans hsz hmax, hst, fun x hx => ⟨_, hrd x hx⟩⟩, Nat.le_refl _, rfl⟩, ?_, ?_⟩
 ·rw [Maps.size_eq, (foldr_insert_perm _).length_eq, List.length_map];simpa using hsz
 ·show (List.map (fun p : Lit × DataW Unit => Go.intOf p.1) _).Perm _;refine ((foldr_insert_perm _).map _).trans ?_;rw [List.map_map];refine List.Perm.of_eq (List.map_congr_left fun x hx => ?_);simp only [Function.comp, WideElems.rg_of (hrd x hx)];rfl
theorem keysSorted_of (K : SlLaysZI.n7 P ρ) (S : SlLaysZI.n6 P σ) (hs : ∀ m, AnyZI.SortsIn P σ Fence.wide m) (he : ∀ args w, (callFunc (σ.f 9) args).run P w = .ok (.enter (σ.f 9) args) w)
  (hk : ∀ args w, (callFunc (ρ.f 10) args).run P w = .ok (.enter (ρ.f 10) args) w) (hen : entered P (σ.f 6) = true) : KeysSorted P (σ.f 6) (ρ.f 10) where
 enters := hen
 some_ w Bm b es clock hm hb hst hkeys hsz := by
  refine (callsIn_wide (n := 6)).1 ?_;obtain ⟨D0, hown, hmax, hperm⟩ := owns_of K.t26 hb hst hkeys hsz
  have hBm : Bm < w.heap.size := by
   apply Classical.byContradiction;intro hn;have : w.heap[Bm]? = none := Array.getElem?_eq_none (by omega);simp [World.cell?, this] at hm
  have hseq := AnyZI.keys_gives (P := P) (ρ := ρ) { K with } Fence.wide 3 trivial rfl (by omega) Bm b es.size D0 w hBm hm hown;have hml : (1000000 : Nat) ≤ maxLen := (by decide);have cS := AnyZI.sorted_in S Fence.wide 6 trivial trivial trivial trivial rfl (by omega) (hs _) he (ρ.f 10) #[.pointer (some ⟨Bm, 0, none⟩)] trivial hk _ _ (Nat.le_trans hmax hml) (by omega) w hseq;refine cS.mono ?_;rintro e w' ⟨v, ss, rfl, hS, hrow, hnil, hb'⟩;exact ⟨v, ss, _, rfl, hS.trans hperm, hrow, hnil, hb'⟩
 none_ w Bm hm := by
  refine (callsIn_wide (n := 6)).1 ?_
  have hBm : Bm < w.heap.size := by
   apply Classical.byContradiction;intro hn;have : w.heap[Bm]? = none := Array.getElem?_eq_none (by omega);simp [World.cell?, this] at hm
  have hseq := AnyZI.keys_gives_nil (P := P) (ρ := ρ) { K with } Fence.wide 3 trivial rfl Bm w hBm hm;have cS := AnyZI.sorted_in S Fence.wide 6 trivial trivial trivial trivial rfl (by omega) (hs _) he (ρ.f 10) #[.pointer (some ⟨Bm, 0, none⟩)] trivial hk _ 0 (Nat.zero_le _) (by omega) w hseq;refine cS.mono ?_;rintro e w' ⟨v, ss, rfl, rfl, hrow, hnil, hb'⟩;exact ⟨by rw [hnil.2 rfl], hb'⟩
def SeqGivesB (n : Nat) (P : Program) (g : Nat) (lb : Array Value) (S : List Int → Prop) (N : Nat) (w : World) : Prop :=
 ∀ (l : Nat) (J : List Int → World → Prop) (W : World), Below w.heap.size w W → (∀ s W1, J s W1 → Below w.heap.size w W1) →
  (∀ pre x W1, J pre W1 → pre.length < N → YieldAt Fence.wide (n - 1) P l #[encZ x] W1 fun e W' => e = .returned (.bool true) ∧ J (pre ++ [x]) W' ∧ KeepsWalks W1 W') →
  J [] W →
  CallsIn Fence.wide n P g (#[.func (.yield l) #[] #[]] ++ lb) W fun e W' => (∃ v, e = .returned v) ∧ ∃ xs, S xs ∧ J xs W'
set_option maxRecDepth 100000 in
set_option maxHeartbeats 2000000 in
theorem appendB_in (L : SlLaysZI.n11 P ρ) (n : Nat) (hn : 2 ≤ n) (g : Nat) (lb : Array Value) (eg : ∀ args w, (callFunc g args).run P w = .ok (.enter g args) w)
  (S : List Int → Prop) (N : Nat) (hN : N ≤ maxLen) (hNb : N * 8 ≤ 140737488355328) (w : World) (hseq : SeqGivesB (n - 1) P g lb S N w) :
  CallsIn Fence.wide n P (ρ.f 11) #[.slice none 0 0, .func (.func g) #[] lb] w fun e w' => ∃ (v : Value) (ss : List Int), e = .returned v ∧ S ss ∧ w'.ownsRow w.heap.size (ρ.t 26) 1 v ss.length (ss.map encZ) ∧ (v = .slice none 0 0 ↔ ss = []) ∧ Below w.heap.size w w' := by
 have h1 : 1 ≤ n := (by omega);have hro : Fence.wide.round = none := rfl;have h11 : Fence.wide.fn (ρ.f 11) := trivial;have mixed := L.mixed; have t0 := L.t0; have a0 := L.a0; have z0 := L.z0; have v0 := L.v0; have t24 := L.t24; have a24 := L.a24; have z24 := L.z24; have v24 := L.v24; have t26 := L.t26; have a26 := L.a26; have z26 := L.z26; have v26 := L.v26; have t28 := L.t28; have a28 := L.a28; have z28 := L.z28; have v28 := L.v28;have hne : ρ.t 24 ≠ ρ.t 26 := fun e => (by have h := L.t24; rw [e, L.t26] at h; cases h);have u0 := run_underlying L.t0; have u24 := run_underlying L.t24; have u26 := run_underlying L.t26; have u28 := run_underlying L.t28
 obtain ⟨_, _, FG⟩ := L.f11;refine callsIn_of_wp_marks FG rfl h11 ?_ hro;simp only [SlBodyZ.n11_ntmps ρ, List.size_toArray, List.length_cons, List.length_nil, Nat.reduceAdd, Nat.reduceSub, Array.replicate_succ, Array.replicate_zero, List.push_toArray, List.append_toArray, List.nil_append, List.cons_append]
 gi_wp2
 refine wpIn_rangeFunc ?_;intro fn hfn;rw [hro];obtain ⟨W0, hW0⟩ : ∃ W0, w.alloc (.cells #[.slice none 0 0] (ρ.t 24)) = W0 := ⟨_, rfl⟩;have hs0 : W0.heap.size = w.heap.size + 1 := (by rw [← hW0]; simp);have hv0 : W0.heap[w.heap.size]? = some (.cells #[.slice none 0 0] (ρ.t 24) (0, 0)) := (by rw [← hW0]; exact World.alloc_heap_new w _);have hb0 : Below w.heap.size w W0 := (by rw [← hW0]; exact (Below.refl _ w).alloc (Nat.le_refl _) _);rw [hW0];obtain ⟨W1, hW1⟩ : ∃ W1, (W0.alloc (.deferred (some []))).alloc (.loop (AnyZI.apRec ρ fn (.func (.func g) #[] lb) w.heap.size W0.heap.size .ready none)) = W1 := ⟨_, rfl⟩
 have hold : ∀ k, k < W0.heap.size → W1.heap[k]? = W0.heap[k]? := fun k hk => by
  rw [← hW1]; exact (Below.heap_alloc _ _ k (by simp; omega)).trans (Below.heap_alloc _ _ k hk)
 have hb1 : Below w.heap.size w W1 := (by rw [← hW1]; exact (hb0.alloc hb0.size _).alloc (by have := hb0.size; simp; omega) _)
 have hs1 : W1.heap.size = W0.heap.size + 2 := by rw [← hW1]; simp
 have hM : AnyZI.ApAt ρ w fn (.func (.func g) #[] lb) w.heap.size (W0.heap.size + 1) W0.heap.size [] W1 :=
  ⟨⟨_, (hold w.heap.size (by omega)).trans hv0, ⟨rfl, .inl ⟨rfl, rfl⟩⟩, by simp⟩,
     by rw [← hW1]; have := World.alloc_heap_new (W0.alloc (.deferred (some []))) (.loop (AnyZI.apRec ρ fn (.func (.func g) #[] lb) w.heap.size W0.heap.size .ready none)); rwa [World.size_alloc] at this,
     by rw [← hW1]; exact (Below.heap_alloc _ _ _ (by simp)).trans (World.alloc_heap_new W0 _), hb1⟩
 refine ⟨W0.heap.size + 1, [{ target := .collected W0.heap.size, args := #[] }], W1, { target := .fn (.func g) lb, args := #[.func (.yield (W0.heap.size + 1)) #[] #[]] }, W1, g,
  #[.func (.yield (W0.heap.size + 1)) #[] #[]] ++ lb, W1, ?_, ?_, ?_, ?_, fun _ => h1, ?_⟩
 ·rw [← hW1]; exact run_enterLoop_outer _ _ _ _ _
 ·simp [resolve, go_sem]
 ·intro f' hf'; trivial
 ·simp [invoke, go_sem, eg]
 ·refine (hseq (W0.heap.size + 1) (AnyZI.ApAt ρ w fn (.func (.func g) #[] lb) w.heap.size (W0.heap.size + 1) W0.heap.size) W1 hb1 (fun _ _ hJ => hJ.below)
   (fun pre x W hJ hl => AnyZI.apYield { L with } Fence.wide (n - 1 - 1) w fn hfn _ w.heap.size (W0.heap.size + 1) W0.heap.size (by omega) (by omega) (by omega) (Nat.le_refl _) (by omega) N hN hNb pre x W hJ hl) hM).mono ?_
  rintro e W2 ⟨⟨v0, rfl⟩, ss, hS, h2⟩;obtain ⟨v, hv, hrow, hnil⟩ := h2.box;have hend := run_endLoop (P := P) h2.L (by simp [AnyZI.apRec]);obtain ⟨W3, hW3⟩ : ∃ W3, W2.putObj (W0.heap.size + 1) (.loop { AnyZI.apRec ρ fn (.func (.func g) #[] lb) w.heap.size W0.heap.size .ready none with state := .exhausted }) = W3 := ⟨_, rfl⟩;rw [hW3] at hend;have hg3 : W2.grownBy W3 (some (W0.heap.size + 1)) := (by rw [← hW3]; exact grownBy_putObj_a _ _ _);have hv3 : W3.heap[w.heap.size]? = some (.cells #[v] (ρ.t 24) (0, 0)) := (by rw [← hW3]; exact (World.putObj_heap_other (by omega)).trans hv);have hK3 : W3.heap[W0.heap.size]? = some (.deferred (some [])) := (by rw [← hW3]; exact (World.putObj_heap_other (by omega)).trans h2.K)
  have hrow3 := hrow.kept hg3 (ownsRow_ne_a hrow h2.L (fun cur e => by first | cases e | exact hne (Obj.cells.inj e).2.1));have hb3 : Below w.heap.size w W3 := h2.below.grown hg3 h2.below.size (fun k e => by cases e; omega);obtain ⟨hc3, hf3⟩ := cell_of_box_a hv3;clear hW3;refine ⟨none, W3, hend, ?_⟩
  gi_wp2
  rw [← hs0];refine ⟨by simp, .inl ⟨_, _, rfl, run_takeDeferred hK3, ?_⟩⟩;exact ⟨_, results_tmp rfl _ _ _, v, ss, rfl, hS, hrow3.kept (grownBy_putObj_a _ _ _) (ownsRow_ne_a hrow3 hK3 (fun cur e => by first | cases e | exact hne (Obj.cells.inj e).2.1)), hnil, hb3.grown (grownBy_putObj_a _ _ _) hb3.size (fun k e => by cases e; omega)⟩
theorem below_pair {w A B : World} {n : Nat} (a : Below n w A) (b : Below n w B) (hs : A.heap.size ≤ B.heap.size) : Below n A B :=
 ⟨b.os.trans a.os.symm, b.tape.trans a.tape.symm, b.output.trans a.output.symm, hs, fun k hk => (b.block k hk).trans (a.block k hk).symm⟩
end Go.Vm
end

section
namespace Go.Vm
def pickK (c a b : V) : Option V := match c with
 | .bool true => some a
 | .bool false => some b
 | _ => none
def nilchkK (x : V) : Option V := match x with
 | .ptr b o => some (.ptr b o)
 | .func f a c => some (.func f a c)
 | _ => none
def aggK (o : Option (List V)) : Option V := match o with
 | some c => some (.agg c)
 | none => none
def eqK (neg : Bool) (r : Option Bool) : Option V := match r with
 | some r => some (.bool (cond neg (!r) r))
 | none => none
def faddrK (off : Nat) (x : V) : Option V := match x with
 | .ptr b o => some (.ptr b (o + off))
 | _ => none
def iaddrK (sz : Nat) (x i : V) : Option V := match x with
 | .slice b o sz' len _ _ => match natOf i with
  | some n => cond (Nat.blt n len) (cond (Nat.beq sz sz') (some (.ptr b (o + n * sz))) none) none
  | none => none
 | _ => none
def extK (i : Nat) (x : V) : Option V := match x with
 | .tup l => getX l i
 | _ => none
def lenbK (x : V) : Option V := match x with
 | .nilslice => some (.int .i64 (.ofNat 0))
 | .slice _ _ _ len _ _ => some (.int .i64 (.ofNat len))
 | _ => none
def notK (x : V) : Option V := match x with
 | .bool b => some (.bool (!b))
 | _ => none
def fieldnK (off n : Nat) (x : V) : Option V := match x with
 | .agg l => match takeX n (l.drop off) with
  | some r => some (.agg r)
  | none => none
 | _ => none
def field1K (off : Nat) (x : V) : Option V := match x with
 | .agg l => getX l off
 | _ => none
def pK (env : Env) (fr : Fr) (o : POp) : Option V := match o with
 | .mov x => some (ev fr x)
 | .pick c a b => pickK (ev fr c) (ev fr a) (ev fr b)
 | .build c l => aggK (fillV c (evParts fr l))
 | .nilchk x => nilchkK (ev fr x)
 | .bin op x y => binV env.tab op (ev fr x) (ev fr y)
 | .eq ty neg x y => eqK neg (eqV ty (ev fr x) (ev fr y))
 | .faddr off x => faddrK off (ev fr x)
 | .iaddr sz x y => iaddrK sz (ev fr x) (ev fr y)
 | .ext x i => extK i (ev fr x)
 | .lenb x => lenbK (ev fr x)
 | .not x => notK (ev fr x)
 | .field1 n x => field1K n (ev fr x)
 | .fieldn off n x => fieldnK off n (ev fr x)
 | o => pV env fr o
theorem pK_eq (env : Env) (fr : Fr) (o : POp) : pK env fr o = pV env fr o := by cases o <;> rfl
def load1K (fr : Fr) (h : Hp) (x : Opd) : Option (V × Hp) := match ev fr x with
 | .ptr b o => match h.read b o 1 with
  | some (v :: _) => some (v, h)
  | _ => none
 | _ => none
def loadnK (fr : Fr) (h : Hp) (n : Nat) (x : Opd) : Option (V × Hp) := match ev fr x with
 | .ptr b o => match h.read b o n with
  | some l => some (.agg l, h)
  | none => none
 | _ => none
def storeK (fr : Fr) (h : Hp) (sz : Nat) (a x : Opd) : Option (V × Hp) := match ev fr a with
 | .ptr b o => cond (Nat.beq (ev fr x).cells.length sz) (match h.write b o (ev fr x).cells with
  | some h' => some (.tup [], h')
  | none => none) none
 | _ => none
def callvK (call : Nat → List V → Hp → Option (V × Hp)) (fr : Fr) (h : Hp) (x : Opd) (args : List Opd) : Option (V × Hp) := match ev fr x with
 | .func f first captured => call f (first ++ evs fr args ++ captured) h
 | _ => none
def eK (call : Nat → List V → Hp → Option (V × Hp)) (fr : Fr) (h : Hp) (o : EOp) : Option (V × Hp) := match o with
 | .store sz a x => storeK fr h sz a x
 | .call f args => call f (evs fr args) h
 | .callv x args => callvK call fr h x args
 | .append sz bytes s x => appendV sz bytes h (ev fr s) (ev fr x)
 | .extern f args => call f (evs fr args) h
 | o => eV call fr h o
theorem eK_eq (call : Nat → List V → Hp → Option (V × Hp)) (fr : Fr) (h : Hp) (o : EOp) : eK call fr h o = eV call fr h o := by cases o <;> rfl
def allocK (fr : Fr) (h : Hp) (o : AOp) : Option (V × Hp) := match aV fr o with
 | some (b, mk) => some (mk h.next, h.new b)
 | none => none
def pureK (env : Env) (fr : Fr) (h : Hp) (o : POp) : Option (V × Hp) := match pK env fr o with
 | some v => some (v, h)
 | none => none
def opK (env : Env) (call : Nat → List V → Hp → Option (V × Hp)) (fr : Fr) (h : Hp) (o : MOp) : Option (V × Hp) := match o with
 | .p o => pureK env fr h o
 | .a o => allocK fr h o
 | .load1 x => load1K fr h x
 | .loadn n x => loadnK fr h n x
 | .e o => eK call fr h o
theorem opK_eq (env : Env) (call : Nat → List V → Hp → Option (V × Hp)) (fr : Fr) (h : Hp) (o : MOp) : opK env call fr h o = opV env call fr h o := by
 cases o
 case p o => simp only [opK, pureK, pK_eq, opV]; rfl
 case e o => exact eK_eq call fr h o
 all_goals rfl
def goK {α : Type} (k : Fr → Hp → Option α) (fr : Fr) (dst : Option Nat) (r : Option (V × Hp)) : Option α := match r with
 | some (v, h') => k (putO fr dst v) h'
 | none => none
def gateK {α : Type} (fr : Fr) (g : Option (Nat × Bool)) (no yes : Option α) : Option α := match g with
 | none => yes
 | some g => match gate fr (some g) with
  | .no => no
  | .bad => none
  | .yes => yes
noncomputable def runK (env : Env) (call : Nat → List V → Hp → Option (V × Hp)) (l : List MO) : Fr → Hp → Option (Fr × Hp) :=
 List.rec (motive := fun _ => Fr → Hp → Option (Fr × Hp)) (fun fr h => some (fr, h))
  (fun o _ ih fr h => gateK fr o.guard (ih (putO fr o.dst (.tup [])) h) (goK ih fr o.dst (opK env call fr h o.op))) l
theorem runK_eq (env : Env) (call : Nat → List V → Hp → Option (V × Hp)) : ∀ (l : List MO) (fr : Fr) (h : Hp), runK env call l fr h = runOps env call l fr h
 | [], _, _ => rfl
 | o :: l, fr, h => by
  show gateK fr o.guard (runK env call l (putO fr o.dst (.tup [])) h) (goK (runK env call l) fr o.dst (opK env call fr h o.op)) = _;have ih : runK env call l = runOps env call l := funext fun fr => funext fun h => runK_eq env call l fr h;rw [ih, opK_eq];simp only [runOps]
  cases o.guard with
  | none => rfl
  | some g => rfl
def stK (e : Bool) (p : Nat) (h : Hp) (st : List (Nat × Hp)) : List (Nat × Hp) := cond e ((p, h) :: st) st
def goD (k : Nat → Fr → Hp → List (Nat × Hp) → List Rd → Option (Fr × Hp)) (p : Nat) (fr : Fr) (dst : Option Nat) (e : Bool) (st : List (Nat × Hp)) (rds : List Rd) (r : Option (V × Hp)) : Option (Fr × Hp) := match r with
 | some (v, h') => k (p + 1) (putO fr dst v) h' (stK e (p + 1) h' st) rds
 | none => none
def endD (fr : Fr) (h : Hp) (st : List (Nat × Hp)) (rds : List Rd) : Option (Fr × Hp) := cond (allStill st rds) (some (fr, h)) none
noncomputable def runDK (env : Env) (call : Nat → List V → Hp → Option (V × Hp)) (l : List DO) : Nat → Fr → Hp → List (Nat × Hp) → List Rd → Option (Fr × Hp) :=
 List.rec (motive := fun _ => Nat → Fr → Hp → List (Nat × Hp) → List Rd → Option (Fr × Hp)) (fun _ fr h st rds => endD fr h st rds)
  (fun d _ ih p fr h st rds => gateK fr d.o.guard (ih (p + 1) (putO fr d.o.dst (.tup [])) h (stK (isE d.o.op) (p + 1) h st) rds)
   (goD ih p fr d.o.dst (isE d.o.op) st (rdOf fr h d ++ rds) (opK env call fr h d.o.op))) l
theorem runDK_eq (env : Env) (call : Nat → List V → Hp → Option (V × Hp)) : ∀ (l : List DO) (p : Nat) (fr : Fr) (h : Hp) (st : List (Nat × Hp)) (rds : List Rd), runDK env call l p fr h st rds = runD env call l p fr h st rds
 | [], _, _, _, _, _ => rfl
 | d :: l, p, fr, h, st, rds => by
  show gateK fr d.o.guard (runDK env call l (p + 1) (putO fr d.o.dst (.tup [])) h (stK (isE d.o.op) (p + 1) h st) rds)
   (goD (runDK env call l) p fr d.o.dst (isE d.o.op) st (rdOf fr h d ++ rds) (opK env call fr h d.o.op)) = _
  have ih : runDK env call l = runD env call l := funext fun p => funext fun fr => funext fun h => funext fun st => funext fun rds => runDK_eq env call l p fr h st rds;rw [ih, opK_eq];simp only [runD]
  cases d.o.guard with
  | none => rfl
  | some g => rfl
def regK (r : Option (Fr × Hp)) : Res := match r with
 | some (fr', h') => .ok fr' h'
 | none => .fail
def seqK (k : Fr → Hp → Res) (r : Res) : Res := match r with
 | .ok fr' h' => k fr' h'
 | r => r
def condK (v : V) (a b : Res) : Res := match v with
 | .bool true => a
 | .bool false => b
 | _ => .fail
def blockK (id : Nat) (r : Res) : Res := match r with
 | .exit id' fr' h' => cond (Nat.beq id' id) (.ok fr' h') (.exit id' fr' h')
 | r => r
def resK (rs : List RV) (r : Res) : Option (V × Hp) := match r with
 | .ok fr h' => resP fr h' rs
 | .ret fr h' => resP fr h' rs
 | _ => none
def funK (ex : MCode → Fr → Hp → Res) (args : List V) (h : Hp) (fn : Option Fun) : Option (V × Hp) := match fn with
 | none => none
 | some fn => cond (Nat.beq args.length fn.nargs) (resK fn.results (ex fn.body (argsFr args 0 .leaf) h)) none
def orK (a b : Option (V × Hp)) : Option (V × Hp) := match a with
 | some r => some r
 | none => b
def callK (p : Prog) (ext : Ext) (ex : MCode → Fr → Hp → Res) (f : Nat) (args : List V) (h : Hp) : Option (V × Hp) := orK (ext f args h) (funK ex args h (p.funs.get f))
theorem callK_eq (p : Prog) (ext : Ext) (ex : MCode → Fr → Hp → Res) : callK p ext ex = callV p ext ex := by
 funext f args h;unfold callK callV orK funK resK
 cases ext f args h with
 | some r => rfl
 | none => cases p.funs.get f <;> rfl
noncomputable def stepK (p : Prog) (ext : Ext) (ex : MCode → Fr → Hp → Res) (c : MCode) (fr : Fr) (h : Hp) : Res := match c with
 | .skip => .ok fr h
 | .region ops => regK (runK p.env (callK p ext ex) ops fr h)
 | .dregion ops => regK (runDK p.env (callK p ext ex) ops 0 fr h [(0, h)] [])
 | .seq a b => seqK (ex b) (ex a fr h)
 | .cond c a b => condK (ev fr c) (ex a fr h) (ex b fr h)
 | .block id c => blockK id (ex c fr h)
 | .loop c => seqK (ex (.loop c)) (ex c fr h)
 | .exit id => .exit id fr h
 | .ret => .ret fr h
noncomputable def execK (p : Prog) (ext : Ext) (n : Nat) : MCode → Fr → Hp → Res :=
 Nat.rec (motive := fun _ => MCode → Fr → Hp → Res) (fun _ _ _ => .fail) (fun _ ih c fr h => stepK p ext ih c fr h) n
theorem execK_eq (p : Prog) (ext : Ext) : ∀ (n : Nat) (c : MCode) (fr : Fr) (h : Hp), execK p ext n c fr h = exec p ext n c fr h
 | 0, _, _, _ => rfl
 | n + 1, c, fr, h => by
  show stepK p ext (execK p ext n) c fr h = _;have ih : execK p ext n = exec p ext n := funext fun c => funext fun fr => funext fun h => execK_eq p ext n c fr h;rw [ih]
  cases c with
  | region ops =>
   show regK (runK p.env (callK p ext (exec p ext n)) ops fr h) = _;rw [callK_eq, runK_eq];rfl
  | dregion ops =>
   show regK (runDK p.env (callK p ext (exec p ext n)) ops 0 fr h [(0, h)] []) = _;rw [callK_eq, runDK_eq];rfl
  | _ => rfl
noncomputable def runsK (p : Prog) (ext : Ext) (n f : Nat) (args : List V) (g : Nat) : Bool :=
 match callK p ext (execK p ext n) f args (h00 g) with
 | some (.bool true, _) => true
 | _ => false
theorem runs_of {p : Prog} {ext : Ext} {n f : Nat} {args : List V} {g : Nat} (h : runsK p ext n f args g = true) : runs p ext n f args g = true := by
 have ih : execK p ext n = exec p ext n := funext fun c => funext fun fr => funext fun h => execK_eq p ext n c fr h;unfold runsK at h;rw [ih, callK_eq] at h;exact h
end Go.Vm
end

section
namespace Go.Proofs.YtkgnhidkfdoimaaGreat.sa
def F0 (i : Nat) : Nat := ([0, 186, 201, 140, 56, 72, 0, 0, 204, 177, 176, 205, 215, 88, 101, 0, 0, 0, 164, 198, 220, 0, 0, 11, 15, 40, 184, 203, 218, 219, 224, 231, 149, 181, 148, 145, 182, 183, 185, 187, 178, 202, 199, 216, 217, 214, 167, 135, 60, 32, 64, 0, 0, 92, 94, 95, 93, 137, 138, 136, 168, 0, 0, 0, 0, 192, 208, 207, 209, 210, 0, 0, 0, 0, 0, 0, 0, 57, 0, 0, 0, 0, 0, 0, 0, 0, 0, 134, 0, 166, 165, 0, 59, 27, 28, 90, 91, 58, 26, 89, 0, 0, 0, 0, 0, 0, 0, 0, 0, 0, 0, 0, 0, 0, 0, 0, 0, 0, 0, 0, 0, 0, 0, 0, 0, 0, 0, 0, 0, 0, 0, 0, 0, 0, 0, 0, 0, 0, 0, 0, 0, 0, 0, 0, 0, 0, 0, 0, 0, 0, 0, 0, 0, 0, 0, 0, 0, 0, 0, 0, 0, 0, 0, 0, 0, 0, 0, 0, 0, 0, 0, 0, 0, 0, 0, 0, 0, 0, 0, 0, 0, 0, 0, 0, 0, 0, 0, 0, 0, 0, 0, 0, 0, 0, 0, 0, 0, 0, 0, 0, 0, 0, 0, 0, 0, 0, 0, 0, 0, 0, 0, 0, 0, 0, 0, 0, 0, 0, 0, 0, 222, 0, 0, 0, 0, 0, 0, 0, 0, 0, 0, 0, 0, 0, 0, 0, 0, 0, 0, 99, 0, 0, 0, 0, 0, 0, 0, 0, 0, 0, 0, 0, 0, 0, 0, 37, 0, 0, 0, 0, 0, 0, 0, 0, 67, 68, 69, 0, 195, 0, 0, 0, 0, 0, 0, 0, 0, 0, 0, 211, 0, 0, 0, 0, 0, 0, 0, 0, 0, 0, 0, 0, 0, 0, 0, 0, 0, 0, 0, 0, 0, 0, 0, 12, 170, 0, 30, 179, 110, 109, 24, 153, 141, 0, 38, 39, 196, 61, 63, 200, 152, 150, 51, 54, 188, 191, 190, 98, 62, 151, 52, 53, 96, 85, 84, 189, 122, 172, 114, 180, 43, 42, 47, 118, 111, 13, 44, 34, 155, 169, 74, 73, 79, 76, 75, 193, 115, 112, 139, 144, 80, 113, 173, 174, 154, 197, 175, 212, 213, 223, 230, 17, 18, 19, 25, 31, 33, 35, 41, 45, 46, 48, 49, 55, 65, 70, 71, 77, 78, 81, 82, 83, 100, 102, 103, 104, 105, 106, 108, 107, 117, 116, 119, 120, 142, 143, 146, 147, 157, 156, 171, 0, 0, 14, 5, 23, 3, 16, 7, 29, 4, 21, 22, 20, 121, 158] : List Nat).getD i 0
end Go.Proofs.YtkgnhidkfdoimaaGreat.sa
end

section
set_option maxRecDepth 100000
namespace Go.Proofs.YtkgnhidkfdoimaaGreat
open Go.Vm
def m5 : Fun := Go.Lib.M414 Go.Proofs.YtkgnhidkfdoimaaGreat.sa.F0
theorem v5 : IsFun Tryz.prog 5 m5 := ⟨_, Tryz.func5, by kernel_rfl, by kernel_rfl⟩
def m12 : Fun := Go.Lib.M303 Go.Proofs.YtkgnhidkfdoimaaGreat.sa.F0
theorem v12 : IsFun Tryz.prog 12 m12 := ⟨_, Tryz.func12, by kernel_rfl, by kernel_rfl⟩
def m13 : Fun := Go.Lib.M345 Go.Proofs.YtkgnhidkfdoimaaGreat.sa.F0
theorem v13 : IsFun Tryz.prog 13 m13 := ⟨_, Tryz.func13, by kernel_rfl, by kernel_rfl⟩
def m14 : Fun := Go.Lib.M413 Go.Proofs.YtkgnhidkfdoimaaGreat.sa.F0
theorem v14 : IsFun Tryz.prog 14 m14 := ⟨_, Tryz.func14, by kernel_rfl, by kernel_rfl⟩
def m17 : Fun := Go.Lib.M371 Go.Proofs.YtkgnhidkfdoimaaGreat.sa.F0
theorem v17 : IsFun Tryz.prog 17 m17 := ⟨_, Tryz.func17, by kernel_rfl, by kernel_rfl⟩
def m18 : Fun := Go.Lib.M372 Go.Proofs.YtkgnhidkfdoimaaGreat.sa.F0
theorem v18 : IsFun Tryz.prog 18 m18 := ⟨_, Tryz.func18, by kernel_rfl, by kernel_rfl⟩
def m19 : Fun := Go.Lib.M373 Go.Proofs.YtkgnhidkfdoimaaGreat.sa.F0
theorem v19 : IsFun Tryz.prog 19 m19 := ⟨_, Tryz.func19, by kernel_rfl, by kernel_rfl⟩
def m20 : Fun := ⟨140,0,.seq (.region [⟨some 0,.p (.mov (.val (.bool false))),none⟩])
 (.seq (.region [⟨some 13,.p (.build [.str [],.int .i64 (.ofNat 0),.bool false] [(0,1,(.val (.str [107,101,121]))),(1,1,(.val (.int .i64 (.ofNat 1))))]),none⟩,⟨some 14,.p (.build [.str [],.int .i64 (.ofNat 0),.bool false] [(0,1,(.val (.str [97]))),(1,1,(.val (.int .i64 (.ofNat 1))))]),none⟩,⟨some 15,.a (.bslice [.str [],.int .i64 (.ofNat 0),.bool false,.str [],.int .i64 (.ofNat 0),.bool false] 3 2 [(0,3,(.tmp 13)),(3,3,(.tmp 14))]),none⟩,⟨some 16,.p (.build [.nilslice] [(0,1,(.tmp 15))]),none⟩,⟨some 1,.a (.new [.nilslice]),none⟩,⟨none,.e (.store 1 (.tmp 1) (.tmp 16)),none⟩])
 (.seq (.region [⟨some 18,.loadn 1 (.tmp 1),none⟩,⟨some 19,.e (.call 12 [(.tmp 18),(.val (.int .i64 (.ofNat 10))),(.val (.int .i64 (.ofNat 2)))]),none⟩,⟨some 17,.p (.mov (.tmp 19)),none⟩,⟨some 20,.p (.ext (.tmp 17) 0),none⟩,⟨some 21,.p (.ext (.tmp 17) 1),none⟩,⟨some 2,.p (.mov (.tmp 20)),none⟩,⟨some 3,.p (.mov (.tmp 21)),none⟩])
 (.seq (.region [⟨some 22,.e (.call 13 []),none⟩,⟨some 4,.p (.mov (.tmp 22)),none⟩])
 (.seq (.seq (.region [⟨some 23,.p (.mov (.tmp 3)),none⟩,⟨some 24,.p (.not (.tmp 23)),none⟩,⟨some 25,.p (.mov (.tmp 24)),none⟩,⟨some 26,.p (.mov (.tmp 2)),(some (25,false))⟩,⟨some 27,.p (.eq .ptr false (.tmp 26) (.val (.nilptr))),(some (25,false))⟩,⟨some 28,.p (.pick (.tmp 25) (.val (.bool true)) (.tmp 27)),none⟩,⟨some 29,.p (.mov (.tmp 28)),none⟩,⟨some 30,.p (.mov (.tmp 4)),(some (29,false))⟩,⟨some 31,.p (.eq .ptr false (.tmp 30) (.val (.nilptr))),(some (29,false))⟩,⟨some 32,.p (.pick (.tmp 29) (.val (.bool true)) (.tmp 31)),none⟩])
 (.cond (.tmp 32) (.seq (.region [⟨some 0,.p (.mov (.val (.bool false))),none⟩])
 (.ret))
 (.skip)))
 (.seq (.region [⟨some 5,.p (.mov (.val (.func 50 [] []))),none⟩])
 (.seq (.region [⟨some 33,.p (.build [.int .i64 (.ofNat 0),.int .i64 (.ofNat 0),.int .i64 (.ofNat 0),.bool false,.int .i64 (.ofNat 0),.int .i64 (.ofNat 0),.nilslice,.nilslice] [(0,1,(.val (.int .i64 (.ofNat 1))))]),none⟩,⟨some 6,.a (.new [.int .i64 (.ofNat 0),.int .i64 (.ofNat 0),.int .i64 (.ofNat 0),.bool false,.int .i64 (.ofNat 0),.int .i64 (.ofNat 0),.nilslice,.nilslice]),none⟩,⟨none,.e (.store 8 (.tmp 6) (.tmp 33)),none⟩])
 (.seq (.dregion [⟨⟨some 35,.p (.mov (.tmp 5)),none⟩,0,1⟩,⟨⟨some 36,.e (.callv (.tmp 35) [(.val (.int .i64 (.ofNat 1)))]),none⟩,0,7⟩,⟨⟨some 34,.loadn 8 (.tmp 6),none⟩,0,7⟩,⟨⟨some 37,.p (.build [.int .i64 (.ofNat 0),.bool false,.bool false,.int .i64 (.ofNat 0),.int .i64 (.ofNat 0),.nilslice] [(0,1,(.val (.int .i64 (.ofNat 1)))),(1,1,(.val (.bool true))),(2,4,(.tmp 36))]),none⟩,2,7⟩,⟨⟨some 38,.a (.bslice [.int .i64 (.ofNat 0),.bool false,.bool false,.int .i64 (.ofNat 0),.int .i64 (.ofNat 0),.nilslice] 6 1 [(0,6,(.tmp 37))]),none⟩,2,7⟩,⟨⟨some 39,.p (.build [.int .i64 (.ofNat 0),.nilslice,.int .i64 (.ofNat 0),.int .i64 (.ofNat 0),.int .i64 (.ofNat 0),.bool false,.int .i64 (.ofNat 0),.int .i64 (.ofNat 0),.nilslice,.nilslice,.nilslice,.nilslice,.int .i64 (.ofNat 0),.nilslice] [(0,1,(.val (.int .i64 (.ofNat 2)))),(2,8,(.tmp 34)),(10,1,(.tmp 38))]),none⟩,2,7⟩,⟨⟨some 7,.a (.new [.int .i64 (.ofNat 0),.nilslice,.int .i64 (.ofNat 0),.int .i64 (.ofNat 0),.int .i64 (.ofNat 0),.bool false,.int .i64 (.ofNat 0),.int .i64 (.ofNat 0),.nilslice,.nilslice,.nilslice,.nilslice,.int .i64 (.ofNat 0),.nilslice]),none⟩,0,7⟩,⟨⟨none,.e (.store 14 (.tmp 7) (.tmp 39)),none⟩,2,8⟩])
 (.seq (.dregion [⟨⟨some 42,.p (.mov (.tmp 5)),none⟩,0,1⟩,⟨⟨some 43,.e (.callv (.tmp 42) [(.val (.int .i64 (.ofNat 1)))]),none⟩,0,3⟩,⟨⟨some 44,.p (.mov (.tmp 5)),none⟩,0,3⟩,⟨⟨some 45,.e (.callv (.tmp 44) [(.val (.int .i64 (.ofNat 5)))]),none⟩,2,10⟩,⟨⟨some 40,.p (.mov (.tmp 2)),none⟩,0,10⟩,⟨⟨some 41,.p (.mov (.tmp 4)),none⟩,0,10⟩,⟨⟨some 46,.a (.bslice [.bool false,.int .i64 (.ofNat 0),.int .i64 (.ofNat 0),.nilslice,.bool false,.int .i64 (.ofNat 0),.int .i64 (.ofNat 0),.nilslice] 4 2 [(0,4,(.tmp 43)),(4,4,(.tmp 45))]),none⟩,4,10⟩,⟨⟨some 47,.p (.build [.int .i64 (.ofNat 0),.nilslice,.int .i64 (.ofNat 0),.int .i64 (.ofNat 0),.int .i64 (.ofNat 0),.bool false,.int .i64 (.ofNat 0),.int .i64 (.ofNat 0),.nilslice,.nilslice,.nilslice,.nilslice,.int .i64 (.ofNat 0),.nilslice] [(0,1,(.val (.int .i64 (.ofNat 1)))),(1,1,(.tmp 46))]),none⟩,4,10⟩,⟨⟨some 48,.loadn 14 (.tmp 7),none⟩,0,10⟩,⟨⟨some 49,.a (.bslice [.int .i64 (.ofNat 0),.nilslice,.int .i64 (.ofNat 0),.int .i64 (.ofNat 0),.int .i64 (.ofNat 0),.bool false,.int .i64 (.ofNat 0),.int .i64 (.ofNat 0),.nilslice,.nilslice,.nilslice,.nilslice,.int .i64 (.ofNat 0),.nilslice,.int .i64 (.ofNat 0),.nilslice,.int .i64 (.ofNat 0),.int .i64 (.ofNat 0),.int .i64 (.ofNat 0),.bool false,.int .i64 (.ofNat 0),.int .i64 (.ofNat 0),.nilslice,.nilslice,.nilslice,.nilslice,.int .i64 (.ofNat 0),.nilslice] 14 2 [(0,14,(.tmp 47)),(14,14,(.tmp 48))]),none⟩,4,10⟩,⟨⟨some 50,.e (.call 17 [(.tmp 40),(.tmp 41),(.tmp 49)]),none⟩,4,12⟩,⟨⟨some 8,.p (.mov (.tmp 50)),none⟩,11,12⟩])
 (.seq (.seq (.region [⟨some 51,.p (.mov (.tmp 8)),none⟩,⟨some 52,.p (.eq .ptr false (.tmp 51) (.val (.nilptr))),none⟩])
 (.cond (.tmp 52) (.seq (.region [⟨some 0,.p (.mov (.val (.bool false))),none⟩])
 (.ret))
 (.skip)))
 (.seq (.region [⟨some 9,.p (.mov (.val (.int .i64 (.ofNat 0)))),none⟩])
 (.seq (.block 0 (.loop (.seq (.seq (.region [⟨some 53,.p (.mov (.tmp 9)),none⟩,⟨some 54,.p (.bin .lss (.tmp 53) (.val (.int .i64 (.ofNat 20)))),none⟩,⟨some 55,.p (.mov (.tmp 54)),none⟩,⟨some 56,.p (.mov (.tmp 8)),(some (55,true))⟩,⟨some 57,.e (.call 18 [(.tmp 56)]),(some (55,true))⟩,⟨some 58,.p (.bin .neq (.tmp 57) (.val (.int .i64 (.ofNat 3)))),(some (55,true))⟩,⟨some 59,.p (.pick (.tmp 55) (.tmp 58) (.val (.bool false))),none⟩])
 (.cond (.tmp 59) (.skip)
 (.exit 0)))
 (.block 1 (.region [⟨some 60,.p (.mov (.tmp 9)),none⟩,⟨some 61,.p (.bin .add (.tmp 60) (.val (.int .i64 (.ofNat 1)))),none⟩,⟨some 9,.p (.mov (.tmp 61)),none⟩])))))
 (.seq (.dregion [⟨⟨some 62,.p (.mov (.tmp 2)),none⟩,0,4⟩,⟨⟨some 63,.p (.mov (.tmp 4)),none⟩,0,4⟩,⟨⟨some 64,.loadn 14 (.tmp 7),none⟩,0,4⟩,⟨⟨some 65,.a (.bslice [.int .i64 (.ofNat 0),.nilslice,.int .i64 (.ofNat 0),.int .i64 (.ofNat 0),.int .i64 (.ofNat 0),.bool false,.int .i64 (.ofNat 0),.int .i64 (.ofNat 0),.nilslice,.nilslice,.nilslice,.nilslice,.int .i64 (.ofNat 0),.nilslice] 14 1 [(0,14,(.tmp 64))]),none⟩,0,4⟩,⟨⟨some 66,.e (.call 17 [(.tmp 62),(.tmp 63),(.tmp 65)]),none⟩,0,9⟩,⟨⟨some 67,.p (.mov (.tmp 2)),none⟩,0,9⟩,⟨⟨some 68,.p (.mov (.tmp 4)),none⟩,0,9⟩,⟨⟨some 69,.loadn 14 (.tmp 7),none⟩,0,9⟩,⟨⟨some 70,.a (.bslice [.int .i64 (.ofNat 0),.nilslice,.int .i64 (.ofNat 0),.int .i64 (.ofNat 0),.int .i64 (.ofNat 0),.bool false,.int .i64 (.ofNat 0),.int .i64 (.ofNat 0),.nilslice,.nilslice,.nilslice,.nilslice,.int .i64 (.ofNat 0),.nilslice] 14 1 [(0,14,(.tmp 69))]),none⟩,0,9⟩,⟨⟨some 71,.e (.call 17 [(.tmp 67),(.tmp 68),(.tmp 70)]),none⟩,5,12⟩,⟨⟨some 10,.p (.mov (.tmp 66)),none⟩,10,12⟩,⟨⟨some 11,.p (.mov (.tmp 71)),none⟩,10,12⟩])
 (.seq (.seq (.region [⟨some 72,.p (.mov (.tmp 10)),none⟩,⟨some 73,.p (.eq .ptr false (.tmp 72) (.val (.nilptr))),none⟩,⟨some 74,.p (.mov (.tmp 73)),none⟩,⟨some 75,.p (.mov (.tmp 11)),(some (74,false))⟩,⟨some 76,.p (.eq .ptr false (.tmp 75) (.val (.nilptr))),(some (74,false))⟩,⟨some 77,.p (.pick (.tmp 74) (.val (.bool true)) (.tmp 76)),none⟩])
 (.cond (.tmp 77) (.seq (.region [⟨some 0,.p (.mov (.val (.bool false))),none⟩])
 (.ret))
 (.skip)))
 (.seq (.region [⟨some 78,.p (.mov (.tmp 10)),none⟩,⟨some 79,.e (.call 18 [(.tmp 78)]),none⟩])
 (.seq (.region [⟨some 80,.p (.mov (.tmp 11)),none⟩,⟨some 81,.e (.call 18 [(.tmp 80)]),none⟩])
 (.seq (.region [⟨some 82,.p (.mov (.tmp 10)),none⟩,⟨some 83,.e (.call 18 [(.tmp 82)]),none⟩])
 (.seq (.region [⟨some 84,.p (.mov (.tmp 11)),none⟩,⟨some 85,.e (.call 18 [(.tmp 84)]),none⟩,⟨some 12,.p (.mov (.tmp 85)),none⟩])
 (.seq (.region [⟨some 86,.p (.mov (.tmp 9)),none⟩,⟨some 87,.p (.bin .eql (.tmp 86) (.val (.int .i64 (.ofNat 6)))),none⟩,⟨some 88,.p (.mov (.tmp 87)),none⟩,⟨some 89,.p (.mov (.tmp 8)),(some (88,true))⟩,⟨some 90,.e (.call 19 [(.tmp 89)]),(some (88,true))⟩,⟨some 91,.p (.bin .eql (.tmp 90) (.val (.int .i64 (.ofNat 0)))),(some (88,true))⟩,⟨some 92,.p (.pick (.tmp 88) (.tmp 91) (.val (.bool false))),none⟩,⟨some 93,.p (.mov (.tmp 92)),none⟩,⟨some 94,.p (.mov (.tmp 8)),(some (93,true))⟩,⟨some 95,.e (.call 31 [(.tmp 94)]),(some (93,true))⟩,⟨some 96,.p (.bin .eql (.tmp 95) (.val (.int .i64 (.ofNat 2)))),(some (93,true))⟩,⟨some 97,.p (.pick (.tmp 93) (.tmp 96) (.val (.bool false))),none⟩,⟨some 98,.p (.mov (.tmp 97)),none⟩,⟨some 99,.p (.mov (.tmp 8)),(some (98,true))⟩,⟨some 100,.e (.call 25 [(.tmp 99)]),(some (98,true))⟩,⟨some 101,.p (.lenb (.tmp 100)),(some (98,true))⟩,⟨some 102,.p (.bin .eql (.tmp 101) (.val (.int .i64 (.ofNat 2)))),(some (98,true))⟩,⟨some 103,.p (.pick (.tmp 98) (.tmp 102) (.val (.bool false))),none⟩,⟨some 104,.p (.mov (.tmp 103)),none⟩,⟨some 105,.p (.mov (.tmp 8)),(some (104,true))⟩,⟨some 106,.e (.call 25 [(.tmp 105)]),(some (104,true))⟩,⟨some 107,.p (.iaddr 3 (.tmp 106) (.val (.int .i64 (.ofNat 1)))),(some (104,true))⟩,⟨some 108,.p (.faddr 1 (.tmp 107)),(some (104,true))⟩,⟨some 109,.load1 (.tmp 108),(some (104,true))⟩,⟨some 110,.p (.bin .eql (.tmp 109) (.val (.int .i64 (.ofNat 1)))),(some (104,true))⟩,⟨some 111,.p (.pick (.tmp 104) (.tmp 110) (.val (.bool false))),none⟩,⟨some 112,.p (.mov (.tmp 111)),none⟩,⟨some 113,.p (.mov (.tmp 12)),(some (112,true))⟩,⟨some 114,.p (.bin .eql (.tmp 113) (.val (.int .i64 (.ofNat 3)))),(some (112,true))⟩,⟨some 115,.p (.pick (.tmp 112) (.tmp 114) (.val (.bool false))),none⟩,⟨some 116,.p (.mov (.tmp 115)),none⟩,⟨some 117,.p (.mov (.tmp 11)),(some (116,true))⟩,⟨some 118,.e (.call 19 [(.tmp 117)]),(some (116,true))⟩,⟨some 119,.p (.bin .eql (.tmp 118) (.val (.int .i64 (.ofNat 5)))),(some (116,true))⟩,⟨some 120,.p (.pick (.tmp 116) (.tmp 119) (.val (.bool false))),none⟩,⟨some 121,.p (.mov (.tmp 120)),none⟩,⟨some 122,.p (.mov (.tmp 10)),(some (121,true))⟩,⟨some 123,.e (.call 19 [(.tmp 122)]),(some (121,true))⟩,⟨some 124,.p (.bin .eql (.tmp 123) (.val (.int .i64 (.ofNat 0)))),(some (121,true))⟩,⟨some 125,.p (.pick (.tmp 121) (.tmp 124) (.val (.bool false))),none⟩,⟨some 126,.p (.mov (.tmp 125)),none⟩,⟨some 127,.p (.mov (.tmp 11)),(some (126,true))⟩,⟨some 128,.e (.call 25 [(.tmp 127)]),(some (126,true))⟩,⟨some 129,.p (.lenb (.tmp 128)),(some (126,true))⟩,⟨some 130,.p (.bin .eql (.tmp 129) (.val (.int .i64 (.ofNat 1)))),(some (126,true))⟩,⟨some 131,.p (.pick (.tmp 126) (.tmp 130) (.val (.bool false))),none⟩,⟨some 132,.p (.mov (.tmp 131)),none⟩,⟨some 133,.p (.mov (.tmp 11)),(some (132,true))⟩,⟨some 134,.e (.call 25 [(.tmp 133)]),(some (132,true))⟩,⟨some 135,.p (.iaddr 3 (.tmp 134) (.val (.int .i64 (.ofNat 0)))),(some (132,true))⟩,⟨some 136,.p (.faddr 0 (.tmp 135)),(some (132,true))⟩,⟨some 137,.load1 (.tmp 136),(some (132,true))⟩,⟨some 138,.p (.bin .eql (.tmp 137) (.val (.int .i64 (.ofNat 5)))),(some (132,true))⟩,⟨some 139,.p (.pick (.tmp 132) (.tmp 138) (.val (.bool false))),none⟩,⟨some 0,.p (.mov (.tmp 139)),none⟩])
 (.ret))))))))))))))))))),[.tmp 0]⟩
theorem v20 : IsFun Tryz.prog 20 m20 := ⟨_, Tryz.func20, by kernel_rfl, by kernel_rfl⟩
def m23 : Fun := Go.Lib.M415 Go.Proofs.YtkgnhidkfdoimaaGreat.sa.F0
theorem v23 : IsFun Tryz.prog 23 m23 := ⟨_, Tryz.func23, by kernel_rfl, by kernel_rfl⟩
def m24 : Fun := Go.Lib.M310 Go.Proofs.YtkgnhidkfdoimaaGreat.sa.F0
theorem v24 : IsFun Tryz.prog 24 m24 := ⟨_, Tryz.func24, by kernel_rfl, by kernel_rfl⟩
def m25 : Fun := Go.Lib.M374 Go.Proofs.YtkgnhidkfdoimaaGreat.sa.F0
theorem v25 : IsFun Tryz.prog 25 m25 := ⟨_, Tryz.func25, by kernel_rfl, by kernel_rfl⟩
def m30 : Fun := Go.Lib.M306 Go.Proofs.YtkgnhidkfdoimaaGreat.sa.F0
theorem v30 : IsFun Tryz.prog 30 m30 := ⟨_, Tryz.func30, by kernel_rfl, by kernel_rfl⟩
def m31 : Fun := ⟨7,1,.seq (.region [⟨some 2,.p (.mov (.val (.int .i64 (.ofNat 0)))),none⟩])
 (.seq (.region [⟨some 3,.p (.mov (.tmp 0)),none⟩,⟨some 4,.p (.nilchk (.tmp 3)),none⟩,⟨some 5,.p (.faddr 7 (.tmp 4)),none⟩,⟨some 6,.load1 (.tmp 5),none⟩,⟨some 2,.p (.mov (.tmp 6)),none⟩])
 (.ret)),[.tmp 2]⟩
theorem v31 : IsFun Tryz.prog 31 m31 := ⟨_, Tryz.func31, by kernel_rfl, by kernel_rfl⟩
def m34 : Fun := Go.Lib.M347 Go.Proofs.YtkgnhidkfdoimaaGreat.sa.F0
theorem v34 : IsFun Tryz.prog 34 m34 := ⟨_, Tryz.func34, by kernel_rfl, by kernel_rfl⟩
def m37 : Fun := Go.Lib.M255 Go.Proofs.YtkgnhidkfdoimaaGreat.sa.F0
theorem v37 : IsFun Tryz.prog 37 m37 := ⟨_, Tryz.func37, by kernel_rfl, by kernel_rfl⟩
def m38 : Fun := Go.Lib.M314 Go.Proofs.YtkgnhidkfdoimaaGreat.sa.F0
theorem v38 : IsFun Tryz.prog 38 m38 := ⟨_, Tryz.func38, by kernel_rfl, by kernel_rfl⟩
def m39 : Fun := Go.Lib.M315 Go.Proofs.YtkgnhidkfdoimaaGreat.sa.F0
theorem v39 : IsFun Tryz.prog 39 m39 := ⟨_, Tryz.func39, by kernel_rfl, by kernel_rfl⟩
def m41 : Fun := Go.Lib.M378 Go.Proofs.YtkgnhidkfdoimaaGreat.sa.F0
theorem v41 : IsFun Tryz.prog 41 m41 := ⟨_, Tryz.func41, by kernel_rfl, by kernel_rfl⟩
def m42 : Fun := Go.Lib.M341 Go.Proofs.YtkgnhidkfdoimaaGreat.sa.F0
theorem v42 : IsFun Tryz.prog 42 m42 := ⟨_, Tryz.func42, by kernel_rfl, by kernel_rfl⟩
def m43 : Fun := Go.Lib.M340 Go.Proofs.YtkgnhidkfdoimaaGreat.sa.F0
theorem v43 : IsFun Tryz.prog 43 m43 := ⟨_, Tryz.func43, by kernel_rfl, by kernel_rfl⟩
def m44 : Fun := Go.Lib.M346 Go.Proofs.YtkgnhidkfdoimaaGreat.sa.F0
theorem v44 : IsFun Tryz.prog 44 m44 := ⟨_, Tryz.func44, by kernel_rfl, by kernel_rfl⟩
def m45 : Fun := Go.Lib.M379 Go.Proofs.YtkgnhidkfdoimaaGreat.sa.F0
theorem v45 : IsFun Tryz.prog 45 m45 := ⟨_, Tryz.func45, by kernel_rfl, by kernel_rfl⟩
def m46 : Fun := Go.Lib.M380 Go.Proofs.YtkgnhidkfdoimaaGreat.sa.F0
theorem v46 : IsFun Tryz.prog 46 m46 := ⟨_, Tryz.func46, by kernel_rfl, by kernel_rfl⟩
def m47 : Fun := Go.Lib.M342 Go.Proofs.YtkgnhidkfdoimaaGreat.sa.F0
theorem v47 : IsFun Tryz.prog 47 m47 := ⟨_, Tryz.func47, by kernel_rfl, by kernel_rfl⟩
def m48 : Fun := Go.Lib.M381 Go.Proofs.YtkgnhidkfdoimaaGreat.sa.F0
theorem v48 : IsFun Tryz.prog 48 m48 := ⟨_, Tryz.func48, by kernel_rfl, by kernel_rfl⟩
def m49 : Fun := Go.Lib.M382 Go.Proofs.YtkgnhidkfdoimaaGreat.sa.F0
theorem v49 : IsFun Tryz.prog 49 m49 := ⟨_, Tryz.func49, by kernel_rfl, by kernel_rfl⟩
def m50 : Fun := ⟨5,1,.seq (.region [⟨some 2,.a (.new [.bool false,.int .i64 (.ofNat 0),.int .i64 (.ofNat 0),.nilslice]),none⟩])
 (.seq (.region [⟨some 3,.p (.mov (.tmp 0)),none⟩,⟨some 4,.p (.build [.bool false,.int .i64 (.ofNat 0),.int .i64 (.ofNat 0),.nilslice] [(1,1,(.val (.int .i64 (.ofNat 1)))),(2,1,(.tmp 3))]),none⟩,⟨none,.e (.store 4 (.tmp 2) (.tmp 4)),none⟩])
 (.ret)),[.celln 4 2]⟩
theorem v50 : IsFun Tryz.prog 50 m50 := ⟨_, Tryz.func50, by kernel_rfl, by kernel_rfl⟩
def m51 : Fun := Go.Lib.M322 Go.Proofs.YtkgnhidkfdoimaaGreat.sa.F0
theorem v51 : IsFun Tryz.prog 51 m51 := ⟨_, Tryz.func51, by kernel_rfl, by kernel_rfl⟩
def m54 : Fun := Go.Lib.M323 Go.Proofs.YtkgnhidkfdoimaaGreat.sa.F0
theorem v54 : IsFun Tryz.prog 54 m54 := ⟨_, Tryz.func54, by kernel_rfl, by kernel_rfl⟩
def m55 : Fun := Go.Lib.M383 Go.Proofs.YtkgnhidkfdoimaaGreat.sa.F0
theorem v55 : IsFun Tryz.prog 55 m55 := ⟨_, Tryz.func55, by kernel_rfl, by kernel_rfl⟩
def m56 : Fun := Go.Lib.M4 Go.Proofs.YtkgnhidkfdoimaaGreat.sa.F0
theorem v56 : IsFun Tryz.prog 56 m56 := ⟨_, Tryz.func56, by kernel_rfl, by kernel_rfl⟩
def m57 : Fun := Go.Lib.M77 Go.Proofs.YtkgnhidkfdoimaaGreat.sa.F0
theorem v57 : IsFun Tryz.prog 57 m57 := ⟨_, Tryz.func57, by kernel_rfl, by kernel_rfl⟩
def m61 : Fun := Go.Lib.M317 Go.Proofs.YtkgnhidkfdoimaaGreat.sa.F0
theorem v61 : IsFun Tryz.prog 61 m61 := ⟨_, Tryz.func61, by kernel_rfl, by kernel_rfl⟩
def m63 : Fun := Go.Lib.M318 Go.Proofs.YtkgnhidkfdoimaaGreat.sa.F0
theorem v63 : IsFun Tryz.prog 63 m63 := ⟨_, Tryz.func63, by kernel_rfl, by kernel_rfl⟩
def m65 : Fun := Go.Lib.M384 Go.Proofs.YtkgnhidkfdoimaaGreat.sa.F0
theorem v65 : IsFun Tryz.prog 65 m65 := ⟨_, Tryz.func65, by kernel_rfl, by kernel_rfl⟩
def m67 : Fun := Go.Lib.M264 Go.Proofs.YtkgnhidkfdoimaaGreat.sa.F0
theorem v67 : IsFun Tryz.prog 67 m67 := ⟨_, Tryz.func67, by kernel_rfl, by kernel_rfl⟩
def m68 : Fun := Go.Lib.M265 Go.Proofs.YtkgnhidkfdoimaaGreat.sa.F0
theorem v68 : IsFun Tryz.prog 68 m68 := ⟨_, Tryz.func68, by kernel_rfl, by kernel_rfl⟩
def m69 : Fun := Go.Lib.M266 Go.Proofs.YtkgnhidkfdoimaaGreat.sa.F0
theorem v69 : IsFun Tryz.prog 69 m69 := ⟨_, Tryz.func69, by kernel_rfl, by kernel_rfl⟩
def m70 : Fun := Go.Lib.M385 Go.Proofs.YtkgnhidkfdoimaaGreat.sa.F0
theorem v70 : IsFun Tryz.prog 70 m70 := ⟨_, Tryz.func70, by kernel_rfl, by kernel_rfl⟩
def m71 : Fun := Go.Lib.M386 Go.Proofs.YtkgnhidkfdoimaaGreat.sa.F0
theorem v71 : IsFun Tryz.prog 71 m71 := ⟨_, Tryz.func71, by kernel_rfl, by kernel_rfl⟩
def m72 : Fun := Go.Lib.M5 Go.Proofs.YtkgnhidkfdoimaaGreat.sa.F0
theorem v72 : IsFun Tryz.prog 72 m72 := ⟨_, Tryz.func72, by kernel_rfl, by kernel_rfl⟩
def m73 : Fun := Go.Lib.M351 Go.Proofs.YtkgnhidkfdoimaaGreat.sa.F0
theorem v73 : IsFun Tryz.prog 73 m73 := ⟨_, Tryz.func73, by kernel_rfl, by kernel_rfl⟩
def m74 : Fun := Go.Lib.M350 Go.Proofs.YtkgnhidkfdoimaaGreat.sa.F0
theorem v74 : IsFun Tryz.prog 74 m74 := ⟨_, Tryz.func74, by kernel_rfl, by kernel_rfl⟩
def m75 : Fun := Go.Lib.M354 Go.Proofs.YtkgnhidkfdoimaaGreat.sa.F0
theorem v75 : IsFun Tryz.prog 75 m75 := ⟨_, Tryz.func75, by kernel_rfl, by kernel_rfl⟩
def m76 : Fun := Go.Lib.M353 Go.Proofs.YtkgnhidkfdoimaaGreat.sa.F0
theorem v76 : IsFun Tryz.prog 76 m76 := ⟨_, Tryz.func76, by kernel_rfl, by kernel_rfl⟩
def m77 : Fun := Go.Lib.M387 Go.Proofs.YtkgnhidkfdoimaaGreat.sa.F0
theorem v77 : IsFun Tryz.prog 77 m77 := ⟨_, Tryz.func77, by kernel_rfl, by kernel_rfl⟩
def m78 : Fun := Go.Lib.M388 Go.Proofs.YtkgnhidkfdoimaaGreat.sa.F0
theorem v78 : IsFun Tryz.prog 78 m78 := ⟨_, Tryz.func78, by kernel_rfl, by kernel_rfl⟩
def m79 : Fun := Go.Lib.M352 Go.Proofs.YtkgnhidkfdoimaaGreat.sa.F0
theorem v79 : IsFun Tryz.prog 79 m79 := ⟨_, Tryz.func79, by kernel_rfl, by kernel_rfl⟩
def m80 : Fun := Go.Lib.M360 Go.Proofs.YtkgnhidkfdoimaaGreat.sa.F0
theorem v80 : IsFun Tryz.prog 80 m80 := ⟨_, Tryz.func80, by kernel_rfl, by kernel_rfl⟩
def m81 : Fun := Go.Lib.M389 Go.Proofs.YtkgnhidkfdoimaaGreat.sa.F0
theorem v81 : IsFun Tryz.prog 81 m81 := ⟨_, Tryz.func81, by kernel_rfl, by kernel_rfl⟩
def m82 : Fun := Go.Lib.M390 Go.Proofs.YtkgnhidkfdoimaaGreat.sa.F0
theorem v82 : IsFun Tryz.prog 82 m82 := ⟨_, Tryz.func82, by kernel_rfl, by kernel_rfl⟩
def m83 : Fun := Go.Lib.M391 Go.Proofs.YtkgnhidkfdoimaaGreat.sa.F0
theorem v83 : IsFun Tryz.prog 83 m83 := ⟨_, Tryz.func83, by kernel_rfl, by kernel_rfl⟩
def m84 : Fun := ⟨9,1,.seq (.region [⟨some 2,.p (.mov (.val (.nilslice))),none⟩])
 (.seq (.region [⟨some 4,.p (.mov (.tmp 0)),none⟩,⟨some 5,.e (.call 121 [(.tmp 4)]),none⟩,⟨some 3,.p (.mov (.tmp 5)),none⟩])
 (.seq (.region [⟨some 6,.p (.mov (.tmp 3)),none⟩,⟨some 7,.e (.call 53 [(.tmp 6)]),none⟩])
 (.seq (.region [⟨some 8,.p (.mov (.tmp 3)),none⟩,⟨some 2,.p (.mov (.tmp 8)),none⟩])
 (.ret)))),[.tmp 2]⟩
theorem v84 : IsFun Tryz.prog 84 m84 := ⟨_, Tryz.func84, by kernel_rfl, by kernel_rfl⟩
def m85 : Fun := Go.Lib.M333 Go.Proofs.YtkgnhidkfdoimaaGreat.sa.F0
theorem v85 : IsFun Tryz.prog 85 m85 := ⟨_, Tryz.func85, by kernel_rfl, by kernel_rfl⟩
def m88 : Fun := Go.Lib.M13 Go.Proofs.YtkgnhidkfdoimaaGreat.sa.F0
theorem v88 : IsFun Tryz.prog 88 m88 := ⟨_, Tryz.func88, by kernel_rfl, by kernel_rfl⟩
def m98 : Fun := Go.Lib.M327 Go.Proofs.YtkgnhidkfdoimaaGreat.sa.F0
theorem v98 : IsFun Tryz.prog 98 m98 := ⟨_, Tryz.func98, by kernel_rfl, by kernel_rfl⟩
def m99 : Fun := Go.Lib.M239 Go.Proofs.YtkgnhidkfdoimaaGreat.sa.F0
theorem v99 : IsFun Tryz.prog 99 m99 := ⟨_, Tryz.func99, by kernel_rfl, by kernel_rfl⟩
def m100 : Fun := Go.Lib.M392 Go.Proofs.YtkgnhidkfdoimaaGreat.sa.F0
theorem v100 : IsFun Tryz.prog 100 m100 := ⟨_, Tryz.func100, by kernel_rfl, by kernel_rfl⟩
def m101 : Fun := Go.Lib.M14 Go.Proofs.YtkgnhidkfdoimaaGreat.sa.F0
theorem v101 : IsFun Tryz.prog 101 m101 := ⟨_, Tryz.func101, by kernel_rfl, by kernel_rfl⟩
def m102 : Fun := Go.Lib.M393 Go.Proofs.YtkgnhidkfdoimaaGreat.sa.F0
theorem v102 : IsFun Tryz.prog 102 m102 := ⟨_, Tryz.func102, by kernel_rfl, by kernel_rfl⟩
def m103 : Fun := Go.Lib.M394 Go.Proofs.YtkgnhidkfdoimaaGreat.sa.F0
theorem v103 : IsFun Tryz.prog 103 m103 := ⟨_, Tryz.func103, by kernel_rfl, by kernel_rfl⟩
def m104 : Fun := ⟨59,3,.seq (.region [⟨some 5,.a (.box (.tmp 2)),none⟩,⟨some 6,.a (.new [.int .i64 (.ofNat 0),.int .i64 (.ofNat 0),.nilslice]),none⟩])
 (.seq (.region [⟨some 7,.p (.mov (.val (.nilslice))),none⟩])
 (.seq (.seq (.region [⟨some 15,.p (.mov (.tmp 1)),none⟩,⟨some 16,.p (.lenb (.tmp 15)),none⟩,⟨some 17,.p (.mov (.val (.int .i64 (.ofNat 0)))),none⟩])
 (.block 0 (.loop (.seq (.region [⟨some 18,.p (.bin .lss (.tmp 17) (.tmp 16)),none⟩])
 (.seq (.cond (.tmp 18) (.skip)
 (.exit 0))
 (.seq (.block 1 (.seq (.region [⟨some 19,.p (.iaddr 6 (.tmp 15) (.tmp 17)),none⟩,⟨some 20,.loadn 6 (.tmp 19),none⟩,⟨some 9,.a (.new [.int .i64 (.ofNat 0),.nilslice,.int .i64 (.ofNat 0),.int .i64 (.ofNat 0),.int .i64 (.ofNat 0),.int .i64 (.ofNat 0)]),none⟩,⟨none,.e (.store 6 (.tmp 9) (.tmp 20)),none⟩])
 (.seq (.region [⟨some 22,.p (.faddr 1 (.tmp 9)),none⟩,⟨some 23,.load1 (.tmp 22),none⟩,⟨some 24,.p (.faddr 10 (.tmp 5)),none⟩,⟨some 25,.load1 (.tmp 24),none⟩,⟨some 26,.e (.call 145 [(.tmp 23),(.tmp 25)]),none⟩,⟨some 21,.p (.mov (.tmp 26)),none⟩,⟨some 27,.p (.ext (.tmp 21) 0),none⟩,⟨some 28,.p (.ext (.tmp 21) 1),none⟩,⟨some 10,.p (.mov (.tmp 27)),none⟩,⟨some 11,.p (.mov (.tmp 28)),none⟩])
 (.seq (.seq (.region [⟨some 29,.p (.mov (.tmp 11)),none⟩,⟨some 30,.p (.not (.tmp 29)),none⟩])
 (.cond (.tmp 30) (.seq (.region [⟨some 31,.p (.build [.int .i64 (.ofNat 0),.int .i64 (.ofNat 0),.nilslice] [(0,1,(.val (.int .i64 (.ofNat 2))))]),none⟩,⟨none,.e (.store 3 (.tmp 6) (.tmp 31)),none⟩])
 (.ret))
 (.skip)))
 (.region [⟨some 32,.p (.mov (.tmp 7)),none⟩,⟨some 33,.p (.mov (.tmp 10)),none⟩,⟨some 34,.a (.bslice [.nilslice] 1 1 [(0,1,(.tmp 33))]),none⟩,⟨some 35,.e (.append 1 24 (.tmp 32) (.tmp 34)),none⟩,⟨some 7,.p (.mov (.tmp 35)),none⟩])))))
 (.region [⟨some 36,.p (.bin .add (.tmp 17) (.val (.int .i64 (.ofNat 1)))),none⟩,⟨some 17,.p (.mov (.tmp 36)),none⟩])))))))
 (.seq (.seq (.region [⟨some 37,.p (.mov (.tmp 1)),none⟩,⟨some 38,.p (.lenb (.tmp 37)),none⟩,⟨some 39,.p (.mov (.val (.int .i64 (.ofNat 0)))),none⟩])
 (.block 2 (.loop (.seq (.region [⟨some 40,.p (.bin .lss (.tmp 39) (.tmp 38)),none⟩])
 (.seq (.cond (.tmp 40) (.skip)
 (.exit 2))
 (.seq (.block 3 (.seq (.region [⟨some 41,.p (.mov (.tmp 39)),none⟩,⟨some 42,.p (.iaddr 6 (.tmp 37) (.tmp 39)),none⟩,⟨some 43,.loadn 6 (.tmp 42),none⟩,⟨some 13,.a (.new [.int .i64 (.ofNat 0),.nilslice,.int .i64 (.ofNat 0),.int .i64 (.ofNat 0),.int .i64 (.ofNat 0),.int .i64 (.ofNat 0)]),none⟩,⟨some 12,.p (.mov (.tmp 41)),none⟩,⟨none,.e (.store 6 (.tmp 13) (.tmp 43)),none⟩])
 (.seq (.dregion [⟨⟨some 44,.p (.mov (.tmp 0)),none⟩,0,6⟩,⟨⟨some 45,.loadn 6 (.tmp 13),none⟩,0,6⟩,⟨⟨some 46,.p (.mov (.tmp 7)),none⟩,0,6⟩,⟨⟨some 47,.p (.mov (.tmp 12)),none⟩,0,6⟩,⟨⟨some 48,.p (.iaddr 1 (.tmp 46) (.tmp 47)),none⟩,0,6⟩,⟨⟨some 49,.load1 (.tmp 48),none⟩,0,6⟩,⟨⟨some 50,.e (.call 146 [(.tmp 44),(.tmp 45),(.tmp 49)]),none⟩,0,8⟩,⟨⟨some 14,.p (.mov (.tmp 50)),none⟩,7,8⟩])
 (.seq (.region [⟨some 51,.p (.mov (.tmp 14)),none⟩,⟨some 52,.p (.bin .neq (.tmp 51) (.val (.int .i64 (.ofNat 0)))),none⟩])
 (.cond (.tmp 52) (.seq (.region [⟨some 53,.p (.mov (.tmp 14)),none⟩,⟨some 54,.p (.build [.int .i64 (.ofNat 0),.int .i64 (.ofNat 0),.nilslice] [(0,1,(.tmp 53))]),none⟩,⟨none,.e (.store 3 (.tmp 6) (.tmp 54)),none⟩])
 (.ret))
 (.skip))))))
 (.region [⟨some 55,.p (.bin .add (.tmp 39) (.val (.int .i64 (.ofNat 1)))),none⟩,⟨some 39,.p (.mov (.tmp 55)),none⟩])))))))
 (.seq (.region [⟨some 56,.p (.mov (.tmp 1)),none⟩,⟨some 57,.p (.lenb (.tmp 56)),none⟩,⟨some 58,.p (.build [.int .i64 (.ofNat 0),.int .i64 (.ofNat 0),.nilslice] [(1,1,(.tmp 57))]),none⟩,⟨none,.e (.store 3 (.tmp 6) (.tmp 58)),none⟩])
 (.ret))))),[.celln 3 6]⟩
theorem v104 : IsFun Tryz.prog 104 m104 := ⟨_, Tryz.func104, by kernel_rfl, by kernel_rfl⟩
def m107 : Fun := Go.Lib.M399 Go.Proofs.YtkgnhidkfdoimaaGreat.sa.F0
theorem v107 : IsFun Tryz.prog 107 m107 := ⟨_, Tryz.func107, by kernel_rfl, by kernel_rfl⟩
def m108 : Fun := Go.Lib.M398 Go.Proofs.YtkgnhidkfdoimaaGreat.sa.F0
theorem v108 : IsFun Tryz.prog 108 m108 := ⟨_, Tryz.func108, by kernel_rfl, by kernel_rfl⟩
end Go.Proofs.YtkgnhidkfdoimaaGreat
end

section
set_option maxRecDepth 100000
namespace Go.Proofs.YtkgnhidkfdoimaaGreat
open Go.Vm
def m109 : Fun := Go.Lib.M309 Go.Proofs.YtkgnhidkfdoimaaGreat.sa.F0
theorem v109 : IsFun Tryz.prog 109 m109 := ⟨_, Tryz.func109, by kernel_rfl, by kernel_rfl⟩
def m110 : Fun := Go.Lib.M308 Go.Proofs.YtkgnhidkfdoimaaGreat.sa.F0
theorem v110 : IsFun Tryz.prog 110 m110 := ⟨_, Tryz.func110, by kernel_rfl, by kernel_rfl⟩
def m111 : Fun := Go.Lib.M344 Go.Proofs.YtkgnhidkfdoimaaGreat.sa.F0
theorem v111 : IsFun Tryz.prog 111 m111 := ⟨_, Tryz.func111, by kernel_rfl, by kernel_rfl⟩
def m112 : Fun := Go.Lib.M357 Go.Proofs.YtkgnhidkfdoimaaGreat.sa.F0
theorem v112 : IsFun Tryz.prog 112 m112 := ⟨_, Tryz.func112, by kernel_rfl, by kernel_rfl⟩
def m113 : Fun := Go.Lib.M361 Go.Proofs.YtkgnhidkfdoimaaGreat.sa.F0
theorem v113 : IsFun Tryz.prog 113 m113 := ⟨_, Tryz.func113, by kernel_rfl, by kernel_rfl⟩
def m114 : Fun := Go.Lib.M338 Go.Proofs.YtkgnhidkfdoimaaGreat.sa.F0
theorem v114 : IsFun Tryz.prog 114 m114 := ⟨_, Tryz.func114, by kernel_rfl, by kernel_rfl⟩
def m115 : Fun := Go.Lib.M356 Go.Proofs.YtkgnhidkfdoimaaGreat.sa.F0
theorem v115 : IsFun Tryz.prog 115 m115 := ⟨_, Tryz.func115, by kernel_rfl, by kernel_rfl⟩
def m116 : Fun := Go.Lib.M401 Go.Proofs.YtkgnhidkfdoimaaGreat.sa.F0
theorem v116 : IsFun Tryz.prog 116 m116 := ⟨_, Tryz.func116, by kernel_rfl, by kernel_rfl⟩
def m117 : Fun := Go.Lib.M400 Go.Proofs.YtkgnhidkfdoimaaGreat.sa.F0
theorem v117 : IsFun Tryz.prog 117 m117 := ⟨_, Tryz.func117, by kernel_rfl, by kernel_rfl⟩
def m118 : Fun := Go.Lib.M343 Go.Proofs.YtkgnhidkfdoimaaGreat.sa.F0
theorem v118 : IsFun Tryz.prog 118 m118 := ⟨_, Tryz.func118, by kernel_rfl, by kernel_rfl⟩
def m119 : Fun := Go.Lib.M402 Go.Proofs.YtkgnhidkfdoimaaGreat.sa.F0
theorem v119 : IsFun Tryz.prog 119 m119 := ⟨_, Tryz.func119, by kernel_rfl, by kernel_rfl⟩
def m120 : Fun := Go.Lib.M403 Go.Proofs.YtkgnhidkfdoimaaGreat.sa.F0
theorem v120 : IsFun Tryz.prog 120 m120 := ⟨_, Tryz.func120, by kernel_rfl, by kernel_rfl⟩
def m121 : Fun := Go.Lib.M424 Go.Proofs.YtkgnhidkfdoimaaGreat.sa.F0
theorem v121 : IsFun Tryz.prog 121 m121 := ⟨_, Tryz.func121, by kernel_rfl, by kernel_rfl⟩
def m139 : Fun := Go.Lib.M358 Go.Proofs.YtkgnhidkfdoimaaGreat.sa.F0
theorem v139 : IsFun Tryz.prog 139 m139 := ⟨_, Tryz.func139, by kernel_rfl, by kernel_rfl⟩
def m140 : Fun := Go.Lib.M3 Go.Proofs.YtkgnhidkfdoimaaGreat.sa.F0
theorem v140 : IsFun Tryz.prog 140 m140 := ⟨_, Tryz.func140, by kernel_rfl, by kernel_rfl⟩
def m141 : Fun := Go.Lib.M312 Go.Proofs.YtkgnhidkfdoimaaGreat.sa.F0
theorem v141 : IsFun Tryz.prog 141 m141 := ⟨_, Tryz.func141, by kernel_rfl, by kernel_rfl⟩
def m142 : Fun := Go.Lib.M404 Go.Proofs.YtkgnhidkfdoimaaGreat.sa.F0
theorem v142 : IsFun Tryz.prog 142 m142 := ⟨_, Tryz.func142, by kernel_rfl, by kernel_rfl⟩
def m143 : Fun := Go.Lib.M405 Go.Proofs.YtkgnhidkfdoimaaGreat.sa.F0
theorem v143 : IsFun Tryz.prog 143 m143 := ⟨_, Tryz.func143, by kernel_rfl, by kernel_rfl⟩
def m144 : Fun := Go.Lib.M359 Go.Proofs.YtkgnhidkfdoimaaGreat.sa.F0
theorem v144 : IsFun Tryz.prog 144 m144 := ⟨_, Tryz.func144, by kernel_rfl, by kernel_rfl⟩
def m145 : Fun := ⟨68,2,.seq (.region [⟨some 4,.p (.mov (.val (.nilslice))),none⟩,⟨some 5,.p (.mov (.val (.bool false))),none⟩])
 (.seq (.region [⟨some 12,.p (.mov (.tmp 0)),none⟩,⟨some 13,.e (.call 56 [(.tmp 12)]),none⟩,⟨some 6,.p (.mov (.tmp 13)),none⟩])
 (.seq (.seq (.region [⟨some 14,.p (.mov (.tmp 1)),none⟩,⟨some 15,.p (.lenb (.tmp 14)),none⟩,⟨some 16,.p (.mov (.val (.int .i64 (.ofNat 0)))),none⟩])
 (.block 0 (.loop (.seq (.region [⟨some 17,.p (.bin .lss (.tmp 16) (.tmp 15)),none⟩])
 (.seq (.cond (.tmp 17) (.skip)
 (.exit 0))
 (.seq (.block 1 (.seq (.region [⟨some 18,.p (.iaddr 6 (.tmp 14) (.tmp 16)),none⟩,⟨some 19,.loadn 6 (.tmp 18),none⟩,⟨some 8,.a (.new [.int .i64 (.ofNat 0),.bool false,.bool false,.int .i64 (.ofNat 0),.int .i64 (.ofNat 0),.nilslice]),none⟩,⟨none,.e (.store 6 (.tmp 8) (.tmp 19)),none⟩])
 (.seq (.seq (.region [⟨some 20,.p (.faddr 0 (.tmp 8)),none⟩,⟨some 21,.load1 (.tmp 20),none⟩,⟨some 22,.p (.bin .lss (.tmp 21) (.val (.int .i64 (.ofNat 0)))),none⟩,⟨some 23,.p (.mov (.tmp 22)),none⟩,⟨some 24,.p (.faddr 0 (.tmp 8)),(some (23,false))⟩,⟨some 25,.load1 (.tmp 24),(some (23,false))⟩,⟨some 26,.p (.mov (.tmp 6)),(some (23,false))⟩,⟨some 27,.p (.lenb (.tmp 26)),(some (23,false))⟩,⟨some 28,.p (.bin .geq (.tmp 25) (.tmp 27)),(some (23,false))⟩,⟨some 29,.p (.pick (.tmp 23) (.val (.bool true)) (.tmp 28)),none⟩])
 (.cond (.tmp 29) (.exit 1)
 (.skip)))
 (.seq (.region [⟨some 30,.p (.mov (.tmp 6)),none⟩,⟨some 31,.p (.faddr 0 (.tmp 8)),none⟩,⟨some 32,.load1 (.tmp 31),none⟩,⟨some 33,.p (.iaddr 4 (.tmp 30) (.tmp 32)),none⟩,⟨some 9,.p (.mov (.tmp 33)),none⟩])
 (.block 2 (.seq (.region [⟨some 35,.p (.faddr 1 (.tmp 8)),none⟩,⟨some 36,.load1 (.tmp 35),none⟩,⟨some 37,.p (.not (.tmp 36)),none⟩,⟨some 34,.p (.mov (.tmp 37)),none⟩])
 (.cond (.tmp 34) (.region [⟨some 38,.p (.mov (.tmp 9)),none⟩,⟨some 39,.p (.faddr 2 (.tmp 8)),none⟩,⟨some 40,.loadn 4 (.tmp 39),none⟩,⟨some 41,.e (.call 72 [(.tmp 40)]),none⟩,⟨some 42,.p (.nilchk (.tmp 38)),none⟩,⟨none,.e (.store 4 (.tmp 42) (.tmp 41)),none⟩])
 (.seq (.region [⟨some 44,.p (.mov (.tmp 9)),none⟩,⟨some 45,.p (.nilchk (.tmp 44)),none⟩,⟨some 46,.p (.faddr 0 (.tmp 45)),none⟩,⟨some 47,.load1 (.tmp 46),none⟩,⟨some 48,.p (.not (.tmp 47)),none⟩,⟨some 43,.p (.mov (.tmp 48)),none⟩])
 (.cond (.tmp 43) (.seq (.dregion [⟨⟨some 50,.p (.mov (.tmp 9)),none⟩,0,7⟩,⟨⟨some 51,.p (.nilchk (.tmp 50)),none⟩,0,7⟩,⟨⟨some 52,.p (.faddr 2 (.tmp 51)),none⟩,0,7⟩,⟨⟨some 53,.load1 (.tmp 52),none⟩,0,7⟩,⟨⟨some 54,.p (.faddr 2 (.tmp 8)),none⟩,0,7⟩,⟨⟨some 55,.p (.faddr 2 (.tmp 54)),none⟩,0,7⟩,⟨⟨some 56,.load1 (.tmp 55),none⟩,0,7⟩,⟨⟨some 57,.e (.call 178 [(.tmp 53),(.tmp 56)]),none⟩,0,13⟩,⟨⟨some 49,.p (.mov (.tmp 57)),none⟩,8,13⟩,⟨⟨some 58,.p (.ext (.tmp 49) 0),none⟩,8,13⟩,⟨⟨some 59,.p (.ext (.tmp 49) 1),none⟩,8,13⟩,⟨⟨some 10,.p (.mov (.tmp 58)),none⟩,8,13⟩,⟨⟨some 11,.p (.mov (.tmp 59)),none⟩,8,13⟩])
 (.seq (.seq (.region [⟨some 60,.p (.mov (.tmp 11)),none⟩,⟨some 61,.p (.not (.tmp 60)),none⟩])
 (.cond (.tmp 61) (.seq (.region [⟨some 4,.p (.mov (.val (.nilslice))),none⟩,⟨some 5,.p (.mov (.val (.bool false))),none⟩])
 (.ret))
 (.skip)))
 (.region [⟨some 62,.p (.mov (.tmp 9)),none⟩,⟨some 63,.p (.mov (.tmp 10)),none⟩,⟨some 64,.p (.nilchk (.tmp 62)),none⟩,⟨some 65,.p (.faddr 2 (.tmp 64)),none⟩,⟨none,.e (.store 1 (.tmp 65) (.tmp 63)),none⟩])))
 (.skip))))))))))
 (.region [⟨some 66,.p (.bin .add (.tmp 16) (.val (.int .i64 (.ofNat 1)))),none⟩,⟨some 16,.p (.mov (.tmp 66)),none⟩])))))))
 (.seq (.region [⟨some 67,.p (.mov (.tmp 6)),none⟩,⟨some 4,.p (.mov (.tmp 67)),none⟩,⟨some 5,.p (.mov (.val (.bool true))),none⟩])
 (.ret)))),[.tmp 4,.tmp 5]⟩
theorem v145 : IsFun Tryz.prog 145 m145 := ⟨_, Tryz.func145, by kernel_rfl, by kernel_rfl⟩
def m146 : Fun := ⟨34,3,.seq (.region [⟨some 4,.a (.box (.tmp 1)),none⟩,⟨some 6,.p (.mov (.val (.int .i64 (.ofNat 0)))),none⟩])
 (.seq (.seq (.dregion [⟨⟨some 8,.p (.faddr 2 (.tmp 4)),none⟩,0,9⟩,⟨⟨some 9,.p (.faddr 0 (.tmp 8)),none⟩,0,9⟩,⟨⟨some 10,.p (.faddr 0 (.tmp 9)),none⟩,0,9⟩,⟨⟨some 11,.load1 (.tmp 10),none⟩,0,9⟩,⟨⟨some 12,.p (.mov (.tmp 0)),none⟩,0,9⟩,⟨⟨some 13,.p (.nilchk (.tmp 12)),none⟩,0,9⟩,⟨⟨some 14,.p (.faddr 5 (.tmp 13)),none⟩,0,9⟩,⟨⟨some 15,.load1 (.tmp 14),none⟩,0,9⟩,⟨⟨some 16,.p (.bin .eql (.tmp 11) (.tmp 15)),none⟩,0,9⟩])
 (.cond (.tmp 16) (.seq (.dregion [⟨⟨some 17,.p (.mov (.tmp 0)),none⟩,0,7⟩,⟨⟨some 18,.p (.nilchk (.tmp 17)),none⟩,0,7⟩,⟨⟨some 19,.p (.faddr 0 (.tmp 18)),none⟩,0,7⟩,⟨⟨some 20,.load1 (.tmp 19),none⟩,0,7⟩,⟨⟨some 21,.p (.faddr 0 (.tmp 4)),none⟩,0,7⟩,⟨⟨some 22,.load1 (.tmp 21),none⟩,0,7⟩,⟨⟨some 23,.p (.mov (.tmp 2)),none⟩,0,7⟩,⟨⟨some 24,.e (.call 179 [(.tmp 20),(.tmp 22),(.tmp 23)]),none⟩,0,8⟩])
 (.seq (.region [⟨some 6,.p (.mov (.val (.int .i64 (.ofNat 0)))),none⟩])
 (.ret)))
 (.skip)))
 (.seq (.seq (.region [⟨some 25,.p (.mov (.tmp 0)),none⟩,⟨some 26,.loadn 6 (.tmp 4),none⟩,⟨some 27,.e (.call 147 [(.tmp 25),(.tmp 26)]),none⟩,⟨some 7,.p (.mov (.tmp 27)),none⟩])
 (.seq (.region [⟨some 28,.p (.mov (.tmp 7)),none⟩,⟨some 29,.p (.bin .neq (.tmp 28) (.val (.int .i64 (.ofNat 0)))),none⟩])
 (.cond (.tmp 29) (.seq (.region [⟨some 30,.p (.mov (.tmp 7)),none⟩,⟨some 6,.p (.mov (.tmp 30)),none⟩])
 (.ret))
 (.skip))))
 (.seq (.region [⟨some 31,.p (.mov (.tmp 0)),none⟩,⟨some 32,.p (.mov (.tmp 2)),none⟩,⟨some 33,.e (.call 143 [(.tmp 31),(.tmp 32)]),none⟩,⟨some 6,.p (.mov (.tmp 33)),none⟩])
 (.ret)))),[.tmp 6]⟩
theorem v146 : IsFun Tryz.prog 146 m146 := ⟨_, Tryz.func146, by kernel_rfl, by kernel_rfl⟩
def m147 : Fun := ⟨47,2,.seq (.region [⟨some 3,.a (.box (.tmp 1)),none⟩,⟨some 4,.p (.mov (.val (.int .i64 (.ofNat 0)))),none⟩])
 (.seq (.seq (.dregion [⟨⟨some 5,.p (.faddr 2 (.tmp 3)),none⟩,0,9⟩,⟨⟨some 6,.p (.faddr 0 (.tmp 5)),none⟩,0,9⟩,⟨⟨some 7,.p (.faddr 0 (.tmp 6)),none⟩,0,9⟩,⟨⟨some 8,.load1 (.tmp 7),none⟩,0,9⟩,⟨⟨some 9,.p (.mov (.tmp 0)),none⟩,0,9⟩,⟨⟨some 10,.p (.nilchk (.tmp 9)),none⟩,0,9⟩,⟨⟨some 11,.p (.faddr 5 (.tmp 10)),none⟩,0,9⟩,⟨⟨some 12,.load1 (.tmp 11),none⟩,0,9⟩,⟨⟨some 13,.p (.bin .eql (.tmp 8) (.tmp 12)),none⟩,0,9⟩])
 (.cond (.tmp 13) (.seq (.dregion [⟨⟨some 14,.p (.mov (.tmp 0)),none⟩,0,6⟩,⟨⟨some 15,.p (.nilchk (.tmp 14)),none⟩,0,6⟩,⟨⟨some 16,.p (.faddr 0 (.tmp 15)),none⟩,0,6⟩,⟨⟨some 17,.load1 (.tmp 16),none⟩,0,6⟩,⟨⟨some 18,.p (.faddr 0 (.tmp 3)),none⟩,0,6⟩,⟨⟨some 19,.load1 (.tmp 18),none⟩,0,6⟩,⟨⟨some 20,.e (.call 109 [(.tmp 17),(.tmp 19)]),none⟩,0,7⟩])
 (.seq (.region [⟨some 4,.p (.mov (.val (.int .i64 (.ofNat 0)))),none⟩])
 (.ret)))
 (.skip)))
 (.seq (.seq (.dregion [⟨⟨some 27,.p (.mov (.tmp 0)),none⟩,0,4⟩,⟨⟨some 28,.p (.nilchk (.tmp 27)),none⟩,0,4⟩,⟨⟨some 29,.p (.faddr 1 (.tmp 28)),none⟩,0,4⟩,⟨⟨some 30,.load1 (.tmp 29),none⟩,0,4⟩,⟨⟨some 31,.e (.call 44 [(.tmp 30)]),none⟩,0,11⟩,⟨⟨some 21,.p (.faddr 2 (.tmp 3)),none⟩,0,11⟩,⟨⟨some 22,.loadn 4 (.tmp 21),none⟩,0,11⟩,⟨⟨some 23,.p (.mov (.tmp 0)),none⟩,0,11⟩,⟨⟨some 24,.p (.nilchk (.tmp 23)),none⟩,0,11⟩,⟨⟨some 25,.p (.faddr 5 (.tmp 24)),none⟩,0,11⟩,⟨⟨some 26,.load1 (.tmp 25),none⟩,0,11⟩,⟨⟨some 32,.e (.call 180 [(.tmp 22),(.tmp 26),(.tmp 31)]),none⟩,5,13⟩,⟨⟨some 33,.p (.bin .neq (.tmp 32) (.val (.int .i64 (.ofNat 1)))),none⟩,12,13⟩])
 (.cond (.tmp 33) (.seq (.region [⟨some 4,.p (.mov (.val (.int .i64 (.ofNat 5)))),none⟩])
 (.ret))
 (.skip)))
 (.seq (.dregion [⟨⟨some 43,.p (.mov (.tmp 0)),none⟩,0,1⟩,⟨⟨some 44,.e (.call 171 [(.tmp 43)]),none⟩,0,12⟩,⟨⟨some 34,.p (.mov (.tmp 0)),none⟩,0,12⟩,⟨⟨some 35,.p (.nilchk (.tmp 34)),none⟩,0,12⟩,⟨⟨some 36,.p (.faddr 0 (.tmp 35)),none⟩,0,12⟩,⟨⟨some 37,.load1 (.tmp 36),none⟩,0,12⟩,⟨⟨some 38,.p (.faddr 0 (.tmp 3)),none⟩,0,12⟩,⟨⟨some 39,.load1 (.tmp 38),none⟩,0,12⟩,⟨⟨some 40,.p (.faddr 2 (.tmp 3)),none⟩,0,12⟩,⟨⟨some 41,.p (.faddr 0 (.tmp 40)),none⟩,0,12⟩,⟨⟨some 42,.loadn 2 (.tmp 41),none⟩,0,12⟩,⟨⟨some 45,.p (.build [.int .i64 (.ofNat 0),.int .i64 (.ofNat 0),.int .i64 (.ofNat 0),.int .i64 (.ofNat 0)] [(0,2,(.tmp 42)),(2,2,(.tmp 44))]),none⟩,2,12⟩,⟨⟨some 46,.e (.call 110 [(.tmp 37),(.tmp 39),(.tmp 45)]),none⟩,2,13⟩])
 (.seq (.region [⟨some 4,.p (.mov (.val (.int .i64 (.ofNat 0)))),none⟩])
 (.ret))))),[.tmp 4]⟩
theorem v147 : IsFun Tryz.prog 147 m147 := ⟨_, Tryz.func147, by kernel_rfl, by kernel_rfl⟩
def m150 : Fun := Go.Lib.M321 Go.Proofs.YtkgnhidkfdoimaaGreat.sa.F0
theorem v150 : IsFun Tryz.prog 150 m150 := ⟨_, Tryz.func150, by kernel_rfl, by kernel_rfl⟩
def m152 : Fun := Go.Lib.M320 Go.Proofs.YtkgnhidkfdoimaaGreat.sa.F0
theorem v152 : IsFun Tryz.prog 152 m152 := ⟨_, Tryz.func152, by kernel_rfl, by kernel_rfl⟩
def m153 : Fun := Go.Lib.M311 Go.Proofs.YtkgnhidkfdoimaaGreat.sa.F0
theorem v153 : IsFun Tryz.prog 153 m153 := ⟨_, Tryz.func153, by kernel_rfl, by kernel_rfl⟩
def m154 : Fun := Go.Lib.M364 Go.Proofs.YtkgnhidkfdoimaaGreat.sa.F0
theorem v154 : IsFun Tryz.prog 154 m154 := ⟨_, Tryz.func154, by kernel_rfl, by kernel_rfl⟩
def m155 : Fun := Go.Lib.M348 Go.Proofs.YtkgnhidkfdoimaaGreat.sa.F0
theorem v155 : IsFun Tryz.prog 155 m155 := ⟨_, Tryz.func155, by kernel_rfl, by kernel_rfl⟩
def m157 : Fun := Go.Lib.M408 Go.Proofs.YtkgnhidkfdoimaaGreat.sa.F0
theorem v157 : IsFun Tryz.prog 157 m157 := ⟨_, Tryz.func157, by kernel_rfl, by kernel_rfl⟩
def m164 : Fun := Go.Lib.M18 Go.Proofs.YtkgnhidkfdoimaaGreat.sa.F0
theorem v164 : IsFun Tryz.prog 164 m164 := ⟨_, Tryz.func164, by kernel_rfl, by kernel_rfl⟩
def m169 : Fun := Go.Lib.M349 Go.Proofs.YtkgnhidkfdoimaaGreat.sa.F0
theorem v169 : IsFun Tryz.prog 169 m169 := ⟨_, Tryz.func169, by kernel_rfl, by kernel_rfl⟩
def m170 : Fun := Go.Lib.M304 Go.Proofs.YtkgnhidkfdoimaaGreat.sa.F0
theorem v170 : IsFun Tryz.prog 170 m170 := ⟨_, Tryz.func170, by kernel_rfl, by kernel_rfl⟩
def m171 : Fun := Go.Lib.M410 Go.Proofs.YtkgnhidkfdoimaaGreat.sa.F0
theorem v171 : IsFun Tryz.prog 171 m171 := ⟨_, Tryz.func171, by kernel_rfl, by kernel_rfl⟩
def m172 : Fun := Go.Lib.M337 Go.Proofs.YtkgnhidkfdoimaaGreat.sa.F0
theorem v172 : IsFun Tryz.prog 172 m172 := ⟨_, Tryz.func172, by kernel_rfl, by kernel_rfl⟩
def m173 : Fun := Go.Lib.M362 Go.Proofs.YtkgnhidkfdoimaaGreat.sa.F0
theorem v173 : IsFun Tryz.prog 173 m173 := ⟨_, Tryz.func173, by kernel_rfl, by kernel_rfl⟩
def m174 : Fun := Go.Lib.M363 Go.Proofs.YtkgnhidkfdoimaaGreat.sa.F0
theorem v174 : IsFun Tryz.prog 174 m174 := ⟨_, Tryz.func174, by kernel_rfl, by kernel_rfl⟩
def m175 : Fun := Go.Lib.M366 Go.Proofs.YtkgnhidkfdoimaaGreat.sa.F0
theorem v175 : IsFun Tryz.prog 175 m175 := ⟨_, Tryz.func175, by kernel_rfl, by kernel_rfl⟩
def m176 : Fun := Go.Lib.M10 Go.Proofs.YtkgnhidkfdoimaaGreat.sa.F0
theorem v176 : IsFun Tryz.prog 176 m176 := ⟨_, Tryz.func176, by kernel_rfl, by kernel_rfl⟩
def m177 : Fun := Go.Lib.M9 Go.Proofs.YtkgnhidkfdoimaaGreat.sa.F0
theorem v177 : IsFun Tryz.prog 177 m177 := ⟨_, Tryz.func177, by kernel_rfl, by kernel_rfl⟩
def m178 : Fun := ⟨21,2,.seq (.region [⟨some 4,.p (.mov (.val (.int .i64 (.ofNat 0)))),none⟩,⟨some 5,.p (.mov (.val (.bool false))),none⟩])
 (.seq (.region [⟨some 6,.a (.new [.int .i64 (.ofNat 0),.int .u64 (.ofNat 0)]),none⟩])
 (.seq (.region [⟨some 7,.p (.mov (.tmp 0)),none⟩,⟨some 8,.e (.call 199 [(.tmp 6),(.tmp 7)]),none⟩])
 (.seq (.region [⟨some 9,.p (.mov (.tmp 1)),none⟩,⟨some 10,.e (.call 199 [(.tmp 6),(.tmp 9)]),none⟩])
 (.seq (.dregion [⟨⟨some 11,.p (.faddr 1 (.tmp 6)),none⟩,0,12⟩,⟨⟨some 12,.load1 (.tmp 11),none⟩,0,12⟩,⟨⟨some 13,.p (.conv (.int .i64) (.tmp 12)),none⟩,0,12⟩,⟨⟨some 14,.p (.faddr 0 (.tmp 6)),none⟩,0,12⟩,⟨⟨some 15,.load1 (.tmp 14),none⟩,0,12⟩,⟨⟨some 16,.p (.faddr 1 (.tmp 6)),none⟩,0,12⟩,⟨⟨some 17,.load1 (.tmp 16),none⟩,0,12⟩,⟨⟨some 18,.p (.conv (.int .i64) (.tmp 17)),none⟩,0,12⟩,⟨⟨some 19,.p (.bin .shr (.tmp 18) (.val (.int .u64 (.ofNat 63)))),none⟩,0,12⟩,⟨⟨some 20,.p (.bin .eql (.tmp 15) (.tmp 19)),none⟩,0,12⟩,⟨⟨some 4,.p (.mov (.tmp 13)),none⟩,0,12⟩,⟨⟨some 5,.p (.mov (.tmp 20)),none⟩,0,12⟩])
 (.ret))))),[.tmp 4,.tmp 5]⟩
theorem v178 : IsFun Tryz.prog 178 m178 := ⟨_, Tryz.func178, by kernel_rfl, by kernel_rfl⟩
def m179 : Fun := ⟨22,3,.seq (.region [⟨some 6,.p (.mov (.val (.bool false))),none⟩])
 (.seq (.region [⟨some 7,.p (.mov (.tmp 0)),none⟩,⟨some 8,.p (.nilchk (.tmp 7)),none⟩,⟨some 9,.p (.faddr 0 (.tmp 8)),none⟩,⟨some 10,.loadn 1 (.tmp 9),none⟩,⟨some 11,.p (.mov (.tmp 2)),none⟩,⟨some 12,.e (.call 195 [(.tmp 10),(.tmp 11)]),none⟩,⟨some 13,.p (.mov (.tmp 12)),none⟩,⟨some 14,.p (.mov (.tmp 0)),(some (13,true))⟩,⟨some 15,.p (.nilchk (.tmp 14)),(some (13,true))⟩,⟨some 16,.p (.faddr 1 (.tmp 15)),(some (13,true))⟩,⟨some 17,.load1 (.tmp 16),(some (13,true))⟩,⟨some 18,.p (.mov (.tmp 1)),(some (13,true))⟩,⟨some 19,.p (.mov (.tmp 2)),(some (13,true))⟩,⟨some 20,.e (.call 200 [(.tmp 17),(.tmp 18),(.tmp 19)]),(some (13,true))⟩,⟨some 21,.p (.pick (.tmp 13) (.tmp 20) (.val (.bool false))),none⟩,⟨some 6,.p (.mov (.tmp 21)),none⟩])
 (.ret)),[.tmp 6]⟩
theorem v179 : IsFun Tryz.prog 179 m179 := ⟨_, Tryz.func179, by kernel_rfl, by kernel_rfl⟩
def m180 : Fun := ⟨28,3,.seq (.region [⟨some 3,.a (.box (.tmp 0)),none⟩,⟨some 6,.p (.mov (.val (.int .i64 (.ofNat 0)))),none⟩])
 (.seq (.seq (.region [⟨some 7,.p (.faddr 2 (.tmp 3)),none⟩,⟨some 8,.loadn 2 (.tmp 7),none⟩,⟨some 9,.e (.call 169 [(.tmp 8)]),none⟩])
 (.cond (.tmp 9) (.seq (.region [⟨some 6,.p (.mov (.val (.int .i64 (.ofNat 1)))),none⟩])
 (.ret))
 (.skip)))
 (.seq (.seq (.region [⟨some 10,.p (.faddr 2 (.tmp 3)),none⟩,⟨some 11,.p (.faddr 0 (.tmp 10)),none⟩,⟨some 12,.load1 (.tmp 11),none⟩,⟨some 13,.p (.bin .eql (.tmp 12) (.val (.int .i64 (.ofNat 0)))),none⟩])
 (.cond (.tmp 13) (.seq (.region [⟨some 6,.p (.mov (.val (.int .i64 (.ofNat 4)))),none⟩])
 (.ret))
 (.skip)))
 (.seq (.seq (.region [⟨some 14,.p (.faddr 2 (.tmp 3)),none⟩,⟨some 15,.p (.faddr 0 (.tmp 14)),none⟩,⟨some 16,.load1 (.tmp 15),none⟩,⟨some 17,.p (.mov (.tmp 2)),none⟩,⟨some 18,.e (.call 43 [(.tmp 16),(.tmp 17)]),none⟩,⟨some 19,.p (.field1 1 (.tmp 18)),none⟩])
 (.block 0 (.seq (.seq (.region [⟨some 21,.p (.bin .eql (.tmp 19) (.val (.int .i64 (.ofNat 0)))),none⟩,⟨some 20,.p (.mov (.tmp 21)),none⟩])
 (.cond (.tmp 20) (.skip)
 (.region [⟨some 22,.p (.bin .eql (.tmp 19) (.val (.int .i64 (.ofNat 4)))),none⟩,⟨some 20,.p (.mov (.tmp 22)),none⟩])))
 (.cond (.tmp 20) (.seq (.region [⟨some 6,.p (.mov (.val (.int .i64 (.ofNat 1)))),none⟩])
 (.ret))
 (.skip)))))
 (.seq (.seq (.region [⟨some 23,.p (.faddr 2 (.tmp 3)),none⟩,⟨some 24,.p (.faddr 0 (.tmp 23)),none⟩,⟨some 25,.load1 (.tmp 24),none⟩,⟨some 26,.p (.mov (.tmp 1)),none⟩,⟨some 27,.p (.bin .eql (.tmp 25) (.tmp 26)),none⟩])
 (.cond (.tmp 27) (.seq (.region [⟨some 6,.p (.mov (.val (.int .i64 (.ofNat 2)))),none⟩])
 (.ret))
 (.skip)))
 (.seq (.region [⟨some 6,.p (.mov (.val (.int .i64 (.ofNat 3)))),none⟩])
 (.ret)))))),[.tmp 6]⟩
theorem v180 : IsFun Tryz.prog 180 m180 := ⟨_, Tryz.func180, by kernel_rfl, by kernel_rfl⟩
def m186 : Fun := Go.Lib.M1 Go.Proofs.YtkgnhidkfdoimaaGreat.sa.F0
theorem v186 : IsFun Tryz.prog 186 m186 := ⟨_, Tryz.func186, by kernel_rfl, by kernel_rfl⟩
def m190 : Fun := Go.Lib.M326 Go.Proofs.YtkgnhidkfdoimaaGreat.sa.F0
theorem v190 : IsFun Tryz.prog 190 m190 := ⟨_, Tryz.func190, by kernel_rfl, by kernel_rfl⟩
def m191 : Fun := Go.Lib.M325 Go.Proofs.YtkgnhidkfdoimaaGreat.sa.F0
theorem v191 : IsFun Tryz.prog 191 m191 := ⟨_, Tryz.func191, by kernel_rfl, by kernel_rfl⟩
def m192 : Fun := Go.Lib.M65 Go.Proofs.YtkgnhidkfdoimaaGreat.sa.F0
theorem v192 : IsFun Tryz.prog 192 m192 := ⟨_, Tryz.func192, by kernel_rfl, by kernel_rfl⟩
def m193 : Fun := Go.Lib.M355 Go.Proofs.YtkgnhidkfdoimaaGreat.sa.F0
theorem v193 : IsFun Tryz.prog 193 m193 := ⟨_, Tryz.func193, by kernel_rfl, by kernel_rfl⟩
def m195 : Fun := Go.Lib.M268 Go.Proofs.YtkgnhidkfdoimaaGreat.sa.F0
theorem v195 : IsFun Tryz.prog 195 m195 := ⟨_, Tryz.func195, by kernel_rfl, by kernel_rfl⟩
def m196 : Fun := Go.Lib.M316 Go.Proofs.YtkgnhidkfdoimaaGreat.sa.F0
theorem v196 : IsFun Tryz.prog 196 m196 := ⟨_, Tryz.func196, by kernel_rfl, by kernel_rfl⟩
def m197 : Fun := Go.Lib.M365 Go.Proofs.YtkgnhidkfdoimaaGreat.sa.F0
theorem v197 : IsFun Tryz.prog 197 m197 := ⟨_, Tryz.func197, by kernel_rfl, by kernel_rfl⟩
def m198 : Fun := Go.Lib.M19 Go.Proofs.YtkgnhidkfdoimaaGreat.sa.F0
theorem v198 : IsFun Tryz.prog 198 m198 := ⟨_, Tryz.func198, by kernel_rfl, by kernel_rfl⟩
def m199 : Fun := ⟨32,2,.seq (.region [⟨some 7,.p (.mov (.tmp 0)),none⟩,⟨some 8,.p (.nilchk (.tmp 7)),none⟩,⟨some 9,.p (.faddr 1 (.tmp 8)),none⟩,⟨some 10,.load1 (.tmp 9),none⟩,⟨some 11,.p (.mov (.tmp 1)),none⟩,⟨some 12,.p (.conv (.int .u64) (.tmp 11)),none⟩,⟨some 13,.e (.extern 214 [(.tmp 10),(.tmp 12),(.val (.int .u64 (.ofNat 0)))]),none⟩,⟨some 6,.p (.mov (.tmp 13)),none⟩,⟨some 14,.p (.ext (.tmp 6) 0),none⟩,⟨some 15,.p (.ext (.tmp 6) 1),none⟩,⟨some 4,.p (.mov (.tmp 14)),none⟩,⟨some 5,.p (.mov (.tmp 15)),none⟩])
 (.seq (.region [⟨some 16,.p (.mov (.tmp 0)),none⟩,⟨some 17,.p (.mov (.tmp 4)),none⟩,⟨some 18,.p (.nilchk (.tmp 16)),none⟩,⟨some 19,.p (.faddr 1 (.tmp 18)),none⟩,⟨none,.e (.store 1 (.tmp 19) (.tmp 17)),none⟩])
 (.region [⟨some 20,.p (.mov (.tmp 0)),none⟩,⟨some 21,.p (.nilchk (.tmp 20)),none⟩,⟨some 22,.p (.faddr 0 (.tmp 21)),none⟩,⟨some 23,.load1 (.tmp 22),none⟩,⟨some 24,.p (.mov (.tmp 1)),none⟩,⟨some 25,.p (.bin .shr (.tmp 24) (.val (.int .u64 (.ofNat 63)))),none⟩,⟨some 26,.p (.mov (.tmp 5)),none⟩,⟨some 27,.p (.conv (.int .i64) (.tmp 26)),none⟩,⟨some 28,.p (.bin .add (.tmp 25) (.tmp 27)),none⟩,⟨some 29,.p (.bin .add (.tmp 23) (.tmp 28)),none⟩,⟨some 30,.p (.nilchk (.tmp 20)),none⟩,⟨some 31,.p (.faddr 0 (.tmp 30)),none⟩,⟨none,.e (.store 1 (.tmp 31) (.tmp 29)),none⟩])),[]⟩
theorem v199 : IsFun Tryz.prog 199 m199 := ⟨_, Tryz.func199, by kernel_rfl, by kernel_rfl⟩
def m200 : Fun := ⟨29,3,.seq (.region [⟨some 6,.p (.mov (.val (.bool false))),none⟩])
 (.seq (.region [⟨some 10,.p (.mov (.tmp 0)),none⟩,⟨some 11,.p (.nilchk (.tmp 10)),none⟩,⟨some 12,.p (.faddr 1 (.tmp 11)),none⟩,⟨some 13,.load1 (.tmp 12),none⟩,⟨some 14,.p (.mov (.tmp 1)),none⟩,⟨some 15,.e (.lookup false (.agg [.int .i64 (.ofNat 0),.nilslice,.int .i64 (.ofNat 0),.int .i64 (.ofNat 0),.int .i64 (.ofNat 0),.int .i64 (.ofNat 0)]) true (.tmp 13) (.tmp 14)),none⟩,⟨some 9,.p (.mov (.tmp 15)),none⟩,⟨some 16,.p (.ext (.tmp 9) 0),none⟩,⟨some 17,.p (.ext (.tmp 9) 1),none⟩,⟨some 7,.a (.new [.int .i64 (.ofNat 0),.nilslice,.int .i64 (.ofNat 0),.int .i64 (.ofNat 0),.int .i64 (.ofNat 0),.int .i64 (.ofNat 0)]),none⟩,⟨none,.e (.store 6 (.tmp 7) (.tmp 16)),none⟩,⟨some 8,.p (.mov (.tmp 17)),none⟩])
 (.seq (.seq (.region [⟨some 18,.p (.mov (.tmp 8)),none⟩,⟨some 19,.p (.not (.tmp 18)),none⟩])
 (.cond (.tmp 19) (.seq (.region [⟨some 6,.p (.mov (.val (.bool false))),none⟩])
 (.ret))
 (.skip)))
 (.seq (.region [⟨some 20,.p (.mov (.tmp 2)),none⟩,⟨some 21,.e (.call 56 [(.tmp 20)]),none⟩,⟨some 22,.p (.faddr 1 (.tmp 7)),none⟩,⟨none,.e (.store 1 (.tmp 22) (.tmp 21)),none⟩])
 (.seq (.dregion [⟨⟨some 23,.p (.mov (.tmp 0)),none⟩,0,6⟩,⟨⟨some 24,.p (.nilchk (.tmp 23)),none⟩,0,6⟩,⟨⟨some 25,.p (.faddr 1 (.tmp 24)),none⟩,0,6⟩,⟨⟨some 26,.load1 (.tmp 25),none⟩,0,6⟩,⟨⟨some 27,.p (.mov (.tmp 1)),none⟩,0,6⟩,⟨⟨some 28,.loadn 6 (.tmp 7),none⟩,0,6⟩,⟨⟨none,.e (.mapput false (.tmp 26) (.tmp 27) (.tmp 28)),none⟩,0,7⟩])
 (.seq (.region [⟨some 6,.p (.mov (.val (.bool true))),none⟩])
 (.ret)))))),[.tmp 6]⟩
theorem v200 : IsFun Tryz.prog 200 m200 := ⟨_, Tryz.func200, by kernel_rfl, by kernel_rfl⟩
def m204 : Fun := Go.Lib.M8 Go.Proofs.YtkgnhidkfdoimaaGreat.sa.F0
theorem v204 : IsFun Tryz.prog 204 m204 := ⟨_, Tryz.func204, by kernel_rfl, by kernel_rfl⟩
def m205 : Fun := Go.Lib.M11 Go.Proofs.YtkgnhidkfdoimaaGreat.sa.F0
theorem v205 : IsFun Tryz.prog 205 m205 := ⟨_, Tryz.func205, by kernel_rfl, by kernel_rfl⟩
def m207 : Fun := Go.Lib.M67 Go.Proofs.YtkgnhidkfdoimaaGreat.sa.F0
theorem v207 : IsFun Tryz.prog 207 m207 := ⟨_, Tryz.func207, by kernel_rfl, by kernel_rfl⟩
def m208 : Fun := Go.Lib.M66 Go.Proofs.YtkgnhidkfdoimaaGreat.sa.F0
theorem v208 : IsFun Tryz.prog 208 m208 := ⟨_, Tryz.func208, by kernel_rfl, by kernel_rfl⟩
def m209 : Fun := Go.Lib.M68 Go.Proofs.YtkgnhidkfdoimaaGreat.sa.F0
theorem v209 : IsFun Tryz.prog 209 m209 := ⟨_, Tryz.func209, by kernel_rfl, by kernel_rfl⟩
def m210 : Fun := Go.Lib.M69 Go.Proofs.YtkgnhidkfdoimaaGreat.sa.F0
theorem v210 : IsFun Tryz.prog 210 m210 := ⟨_, Tryz.func210, by kernel_rfl, by kernel_rfl⟩
def m211 : Fun := Go.Lib.M279 Go.Proofs.YtkgnhidkfdoimaaGreat.sa.F0
theorem v211 : IsFun Tryz.prog 211 m211 := ⟨_, Tryz.func211, by kernel_rfl, by kernel_rfl⟩
def m212 : Fun := Go.Lib.M367 Go.Proofs.YtkgnhidkfdoimaaGreat.sa.F0
theorem v212 : IsFun Tryz.prog 212 m212 := ⟨_, Tryz.func212, by kernel_rfl, by kernel_rfl⟩
def m222 : Fun := Go.Lib.M220 Go.Proofs.YtkgnhidkfdoimaaGreat.sa.F0
theorem v222 : IsFun Tryz.prog 222 m222 := ⟨_, Tryz.func222, by kernel_rfl, by kernel_rfl⟩
end Go.Proofs.YtkgnhidkfdoimaaGreat
end

section
set_option maxRecDepth 100000
namespace Go.Proofs.YtkgnhidkfdoimaaGreat
open Go.Vm
def funs : T Fun := (.node (.node (.node (.node (.node (.node (.node .leaf (some m63) (.node .leaf (some m191) .leaf)) (some m31) .leaf) none (.node (.node (.node .leaf (some m143) .leaf) (some m79) (.node .leaf (some m207) .leaf)) (some m47) (.node (.node .leaf (some m175) .leaf) (some m111) .leaf))) none (.node (.node (.node .leaf (some m71) (.node .leaf (some m199) .leaf)) (some m39) (.node .leaf (some m103) .leaf)) (some m23) (.node .leaf (some m55) (.node .leaf (some m119) .leaf)))) none (.node (.node (.node (.node .leaf (some m67) (.node .leaf (some m195) .leaf)) none (.node .leaf (some m99) .leaf)) (some m19) (.node (.node (.node .leaf (some m147) .leaf) (some m83) (.node .leaf (some m211) .leaf)) (some m51) (.node (.node .leaf (some m179) .leaf) (some m115) .leaf))) none (.node (.node (.node (.node .leaf (some m139) .leaf) (some m75) .leaf) (some m43) (.node (.node .leaf (some m171) .leaf) (some m107) .leaf)) none (.node (.node (.node .leaf (some m155) .leaf) none .leaf) none .leaf)))) none (.node (.node (.node (.node (.node .leaf (some m65) (.node .leaf (some m193) .leaf)) none .leaf) (some m17) (.node (.node (.node .leaf (some m145) .leaf) (some m81) (.node .leaf (some m209) .leaf)) (some m49) (.node (.node .leaf (some m177) .leaf) (some m113) .leaf))) none (.node (.node (.node .leaf (some m73) .leaf) (some m41) (.node (.node .leaf (some m169) .leaf) none .leaf)) (some m25) (.node (.node (.node .leaf (some m153) .leaf) none .leaf) (some m57) (.node .leaf (some m121) .leaf)))) (some m5) (.node (.node (.node (.node .leaf (some m69) (.node .leaf (some m197) .leaf)) (some m37) (.node .leaf (some m101) .leaf)) none (.node (.node .leaf (some m85) .leaf) none (.node .leaf (some m117) .leaf))) (some m13) (.node (.node (.node (.node .leaf (some m141) .leaf) (some m77) (.node .leaf (some m205) .leaf)) (some m45) (.node (.node .leaf (some m173) .leaf) (some m109) .leaf)) none (.node (.node (.node .leaf (some m157) .leaf) none .leaf) (some m61) .leaf))))) none (.node (.node (.node (.node (.node (.node .leaf none (.node .leaf (some m192) .leaf)) none .leaf) none (.node (.node (.node .leaf (some m144) .leaf) (some m80) (.node .leaf (some m208) .leaf)) (some m48) (.node (.node .leaf (some m176) .leaf) (some m112) .leaf))) none (.node (.node (.node .leaf (some m72) (.node .leaf (some m200) .leaf)) none (.node .leaf (some m104) .leaf)) (some m24) (.node (.node (.node .leaf (some m152) .leaf) (some m88) .leaf) (some m56) (.node .leaf (some m120) .leaf)))) none (.node (.node (.node (.node .leaf (some m68) (.node .leaf (some m196) .leaf)) none (.node (.node .leaf (some m164) .leaf) (some m100) .leaf)) (some m20) (.node (.node .leaf (some m84) (.node .leaf (some m212) .leaf)) none (.node (.node .leaf (some m180) .leaf) (some m116) .leaf))) (some m12) (.node (.node (.node (.node .leaf (some m140) .leaf) (some m76) (.node .leaf (some m204) .leaf)) (some m44) (.node (.node .leaf (some m172) .leaf) (some m108) .leaf)) none .leaf))) none (.node (.node (.node (.node .leaf (some m34) (.node .leaf (some m98) .leaf)) (some m18) (.node (.node (.node .leaf (some m146) .leaf) (some m82) (.node .leaf (some m210) .leaf)) (some m50) (.node (.node .leaf (some m178) .leaf) (some m114) .leaf))) none (.node (.node (.node .leaf (some m74) .leaf) (some m42) (.node (.node .leaf (some m170) .leaf) none .leaf)) none (.node (.node (.node .leaf (some m154) .leaf) none .leaf) none (.node (.node .leaf (some m186) .leaf) none .leaf)))) none (.node (.node (.node (.node .leaf (some m70) (.node .leaf (some m198) .leaf)) (some m38) (.node .leaf (some m102) .leaf)) none (.node (.node (.node .leaf (some m150) .leaf) none .leaf) (some m54) (.node .leaf (some m118) .leaf))) (some m14) (.node (.node (.node (.node .leaf (some m142) .leaf) (some m78) .leaf) (some m46) (.node (.node .leaf (some m174) .leaf) (some m110) .leaf)) (some m30) (.node (.node .leaf none (.node .leaf (some m222) .leaf)) none (.node (.node .leaf (some m190) .leaf) none .leaf)))))))
def ints : List Nat := [2,3,5,6,12,21,51,59,103,192,199,201,232,316,317,320,321]
theorem intsOk : IntsOk Tryz.prog ints := ints_of (by kernel_rfl)
def mach (tab : Tab) : Vm.Prog := { funs := funs, env := ⟨tab, ints⟩ }
theorem valid (tab : Tab) : Valid Tryz.prog (mach tab) := valid_of (show AllT (IsFun Tryz.prog) 1 0 funs from ⟨trivial, ⟨trivial, ⟨trivial, ⟨trivial, ⟨trivial, ⟨v31, ⟨v63, trivial, ⟨v191, trivial, trivial⟩⟩, trivial⟩, ⟨v47, ⟨v79, ⟨v143, trivial, trivial⟩, ⟨v207, trivial, trivial⟩⟩, ⟨v111, ⟨v175, trivial, trivial⟩, trivial⟩⟩⟩, ⟨v23, ⟨v39, ⟨v71, trivial, ⟨v199, trivial, trivial⟩⟩, ⟨v103, trivial, trivial⟩⟩, ⟨v55, trivial, ⟨v119, trivial, trivial⟩⟩⟩⟩, ⟨trivial, ⟨v19, ⟨trivial, ⟨v67, trivial, ⟨v195, trivial, trivial⟩⟩, ⟨v99, trivial, trivial⟩⟩, ⟨v51, ⟨v83, ⟨v147, trivial, trivial⟩, ⟨v211, trivial, trivial⟩⟩, ⟨v115, ⟨v179, trivial, trivial⟩, trivial⟩⟩⟩, ⟨trivial, ⟨v43, ⟨v75, ⟨v139, trivial, trivial⟩, trivial⟩, ⟨v107, ⟨v171, trivial, trivial⟩, trivial⟩⟩, ⟨trivial, ⟨trivial, ⟨v155, trivial, trivial⟩, trivial⟩, trivial⟩⟩⟩⟩, ⟨v5, ⟨trivial, ⟨v17, ⟨trivial, ⟨v65, trivial, ⟨v193, trivial, trivial⟩⟩, trivial⟩, ⟨v49, ⟨v81, ⟨v145, trivial, trivial⟩, ⟨v209, trivial, trivial⟩⟩, ⟨v113, ⟨v177, trivial, trivial⟩, trivial⟩⟩⟩, ⟨v25, ⟨v41, ⟨v73, trivial, trivial⟩, ⟨trivial, ⟨v169, trivial, trivial⟩, trivial⟩⟩, ⟨v57, ⟨trivial, ⟨v153, trivial, trivial⟩, trivial⟩, ⟨v121, trivial, trivial⟩⟩⟩⟩, ⟨v13, ⟨trivial, ⟨v37, ⟨v69, trivial, ⟨v197, trivial, trivial⟩⟩, ⟨v101, trivial, trivial⟩⟩, ⟨trivial, ⟨v85, trivial, trivial⟩, ⟨v117, trivial, trivial⟩⟩⟩, ⟨trivial, ⟨v45, ⟨v77, ⟨v141, trivial, trivial⟩, ⟨v205, trivial, trivial⟩⟩, ⟨v109, ⟨v173, trivial, trivial⟩, trivial⟩⟩, ⟨v61, ⟨trivial, ⟨v157, trivial, trivial⟩, trivial⟩, trivial⟩⟩⟩⟩⟩, ⟨trivial, ⟨trivial, ⟨trivial, ⟨trivial, ⟨trivial, ⟨trivial, trivial, ⟨v192, trivial, trivial⟩⟩, trivial⟩, ⟨v48, ⟨v80, ⟨v144, trivial, trivial⟩, ⟨v208, trivial, trivial⟩⟩, ⟨v112, ⟨v176, trivial, trivial⟩, trivial⟩⟩⟩, ⟨v24, ⟨trivial, ⟨v72, trivial, ⟨v200, trivial, trivial⟩⟩, ⟨v104, trivial, trivial⟩⟩, ⟨v56, ⟨v88, ⟨v152, trivial, trivial⟩, trivial⟩, ⟨v120, trivial, trivial⟩⟩⟩⟩, ⟨v12, ⟨v20, ⟨trivial, ⟨v68, trivial, ⟨v196, trivial, trivial⟩⟩, ⟨v100, ⟨v164, trivial, trivial⟩, trivial⟩⟩, ⟨trivial, ⟨v84, trivial, ⟨v212, trivial, trivial⟩⟩, ⟨v116, ⟨v180, trivial, trivial⟩, trivial⟩⟩⟩, ⟨trivial, ⟨v44, ⟨v76, ⟨v140, trivial, trivial⟩, ⟨v204, trivial, trivial⟩⟩, ⟨v108, ⟨v172, trivial, trivial⟩, trivial⟩⟩, trivial⟩⟩⟩, ⟨trivial, ⟨trivial, ⟨v18, ⟨v34, trivial, ⟨v98, trivial, trivial⟩⟩, ⟨v50, ⟨v82, ⟨v146, trivial, trivial⟩, ⟨v210, trivial, trivial⟩⟩, ⟨v114, ⟨v178, trivial, trivial⟩, trivial⟩⟩⟩, ⟨trivial, ⟨v42, ⟨v74, trivial, trivial⟩, ⟨trivial, ⟨v170, trivial, trivial⟩, trivial⟩⟩, ⟨trivial, ⟨trivial, ⟨v154, trivial, trivial⟩, trivial⟩, ⟨trivial, ⟨v186, trivial, trivial⟩, trivial⟩⟩⟩⟩, ⟨v14, ⟨trivial, ⟨v38, ⟨v70, trivial, ⟨v198, trivial, trivial⟩⟩, ⟨v102, trivial, trivial⟩⟩, ⟨v54, ⟨trivial, ⟨v150, trivial, trivial⟩, trivial⟩, ⟨v118, trivial, trivial⟩⟩⟩, ⟨v30, ⟨v46, ⟨v78, ⟨v142, trivial, trivial⟩, trivial⟩, ⟨v110, ⟨v174, trivial, trivial⟩, trivial⟩⟩, ⟨trivial, ⟨trivial, trivial, ⟨v222, trivial, trivial⟩⟩, ⟨trivial, ⟨v190, trivial, trivial⟩, trivial⟩⟩⟩⟩⟩⟩⟩)
end Go.Proofs.YtkgnhidkfdoimaaGreat
end

section
set_option maxRecDepth 100000
namespace Go.Proofs.YtkgnhidkfdoimaaGreat
open Go.Vm
theorem x214 : IsExt Tryz.prog (214, .add64) := ⟨_, Tryz.func214, by kernel_rfl, by kernel_rfl, by kernel_rfl, by kernel_rfl⟩
theorem x220 : IsExt Tryz.prog (220, .cmp) := ⟨_, Tryz.func220, by kernel_rfl, by kernel_rfl, by kernel_rfl, by kernel_rfl⟩
def exts : List (Nat × Ek) := [(214, .add64), (220, .cmp)]
theorem extsOk : ∀ x, x ∈ exts → IsExt Tryz.prog x := by
 intro x hx;unfold exts at hx;rcases List.mem_cons.1 hx with rfl | hx
 ·exact x214
 rcases List.mem_cons.1 hx with rfl | hx
 ·exact x220
 cases hx
end Go.Proofs.YtkgnhidkfdoimaaGreat
end

section
set_option maxRecDepth 100000
namespace Go.Proofs.YtkgnhidkfdoimaaGreat.sa
open Go.Vm Go.Dv Go.Lib
def pr : Vm.Prog := mach []
def ext0 : Ext := orX (sortedX 84 122) (orX (valuesX 158 156) (orX (sortX 53) (extBy exts)))
def xt : Ext := orX (constX [20]) ext0
theorem has1 : Go.Dv.Has pr xt F0 1 Go.Lib.M1 := ⟨by kernel_rfl, fun _ _ => rfl⟩
theorem has3 : Go.Dv.Has pr xt F0 3 Go.Lib.M3 := ⟨by kernel_rfl, fun _ _ => rfl⟩
theorem has4 : Go.Dv.Has pr xt F0 4 Go.Lib.M4 := ⟨by kernel_rfl, fun _ _ => rfl⟩
theorem has5 : Go.Dv.Has pr xt F0 5 Go.Lib.M5 := ⟨by kernel_rfl, fun _ _ => rfl⟩
theorem has8 : Go.Dv.Has pr xt F0 8 Go.Lib.M8 := ⟨by kernel_rfl, fun _ _ => rfl⟩
theorem has9 : Go.Dv.Has pr xt F0 9 Go.Lib.M9 := ⟨by kernel_rfl, fun _ _ => rfl⟩
theorem has10 : Go.Dv.Has pr xt F0 10 Go.Lib.M10 := ⟨by kernel_rfl, fun _ _ => rfl⟩
theorem has11 : Go.Dv.Has pr xt F0 11 Go.Lib.M11 := ⟨by kernel_rfl, fun _ _ => rfl⟩
theorem has13 : Go.Dv.Has pr xt F0 13 Go.Lib.M13 := ⟨by kernel_rfl, fun _ _ => rfl⟩
theorem has14 : Go.Dv.Has pr xt F0 14 Go.Lib.M14 := ⟨by kernel_rfl, fun _ _ => rfl⟩
theorem has18 : Go.Dv.Has pr xt F0 18 Go.Lib.M18 := ⟨by kernel_rfl, fun _ _ => rfl⟩
theorem has19 : Go.Dv.Has pr xt F0 19 Go.Lib.M19 := ⟨by kernel_rfl, fun _ _ => rfl⟩
theorem has65 : Go.Dv.Has pr xt F0 65 Go.Lib.M65 := ⟨by kernel_rfl, fun _ _ => rfl⟩
theorem has66 : Go.Dv.Has pr xt F0 66 Go.Lib.M66 := ⟨by kernel_rfl, fun _ _ => rfl⟩
theorem has67 : Go.Dv.Has pr xt F0 67 Go.Lib.M67 := ⟨by kernel_rfl, fun _ _ => rfl⟩
theorem has68 : Go.Dv.Has pr xt F0 68 Go.Lib.M68 := ⟨by kernel_rfl, fun _ _ => rfl⟩
theorem has69 : Go.Dv.Has pr xt F0 69 Go.Lib.M69 := ⟨by kernel_rfl, fun _ _ => rfl⟩
theorem has77 : Go.Dv.Has pr xt F0 77 Go.Lib.M77 := ⟨by kernel_rfl, fun _ _ => rfl⟩
theorem has220 : Go.Dv.Has pr xt F0 220 Go.Lib.M220 := ⟨by kernel_rfl, fun _ _ => rfl⟩
theorem has239 : Go.Dv.Has pr xt F0 239 Go.Lib.M239 := ⟨by kernel_rfl, fun _ _ => rfl⟩
theorem has255 : Go.Dv.Has pr xt F0 255 Go.Lib.M255 := ⟨by kernel_rfl, fun _ _ => rfl⟩
theorem has264 : Go.Dv.Has pr xt F0 264 Go.Lib.M264 := ⟨by kernel_rfl, fun _ _ => rfl⟩
theorem has265 : Go.Dv.Has pr xt F0 265 Go.Lib.M265 := ⟨by kernel_rfl, fun _ _ => rfl⟩
theorem has266 : Go.Dv.Has pr xt F0 266 Go.Lib.M266 := ⟨by kernel_rfl, fun _ _ => rfl⟩
theorem has268 : Go.Dv.Has pr xt F0 268 Go.Lib.M268 := ⟨by kernel_rfl, fun _ _ => rfl⟩
theorem has279 : Go.Dv.Has pr xt F0 279 Go.Lib.M279 := ⟨by kernel_rfl, fun _ _ => rfl⟩
theorem has303 : Go.Dv.Has pr xt F0 303 Go.Lib.M303 := ⟨by kernel_rfl, fun _ _ => rfl⟩
theorem has304 : Go.Dv.Has pr xt F0 304 Go.Lib.M304 := ⟨by kernel_rfl, fun _ _ => rfl⟩
theorem has306 : Go.Dv.Has pr xt F0 306 Go.Lib.M306 := ⟨by kernel_rfl, fun _ _ => rfl⟩
theorem has308 : Go.Dv.Has pr xt F0 308 Go.Lib.M308 := ⟨by kernel_rfl, fun _ _ => rfl⟩
theorem has309 : Go.Dv.Has pr xt F0 309 Go.Lib.M309 := ⟨by kernel_rfl, fun _ _ => rfl⟩
theorem has310 : Go.Dv.Has pr xt F0 310 Go.Lib.M310 := ⟨by kernel_rfl, fun _ _ => rfl⟩
theorem has311 : Go.Dv.Has pr xt F0 311 Go.Lib.M311 := ⟨by kernel_rfl, fun _ _ => rfl⟩
theorem has312 : Go.Dv.Has pr xt F0 312 Go.Lib.M312 := ⟨by kernel_rfl, fun _ _ => rfl⟩
theorem has314 : Go.Dv.Has pr xt F0 314 Go.Lib.M314 := ⟨by kernel_rfl, fun _ _ => rfl⟩
theorem has315 : Go.Dv.Has pr xt F0 315 Go.Lib.M315 := ⟨by kernel_rfl, fun _ _ => rfl⟩
theorem has316 : Go.Dv.Has pr xt F0 316 Go.Lib.M316 := ⟨by kernel_rfl, fun _ _ => rfl⟩
theorem has317 : Go.Dv.Has pr xt F0 317 Go.Lib.M317 := ⟨by kernel_rfl, fun _ _ => rfl⟩
theorem has318 : Go.Dv.Has pr xt F0 318 Go.Lib.M318 := ⟨by kernel_rfl, fun _ _ => rfl⟩
theorem has320 : Go.Dv.Has pr xt F0 320 Go.Lib.M320 := ⟨by kernel_rfl, fun _ _ => rfl⟩
theorem has321 : Go.Dv.Has pr xt F0 321 Go.Lib.M321 := ⟨by kernel_rfl, fun _ _ => rfl⟩
theorem has322 : Go.Dv.Has pr xt F0 322 Go.Lib.M322 := ⟨by kernel_rfl, fun _ _ => rfl⟩
theorem has323 : Go.Dv.Has pr xt F0 323 Go.Lib.M323 := ⟨by kernel_rfl, fun _ _ => rfl⟩
theorem has325 : Go.Dv.Has pr xt F0 325 Go.Lib.M325 := ⟨by kernel_rfl, fun _ _ => rfl⟩
theorem has326 : Go.Dv.Has pr xt F0 326 Go.Lib.M326 := ⟨by kernel_rfl, fun _ _ => rfl⟩
theorem has327 : Go.Dv.Has pr xt F0 327 Go.Lib.M327 := ⟨by kernel_rfl, fun _ _ => rfl⟩
theorem has333 : Go.Dv.Has pr xt F0 333 Go.Lib.M333 := ⟨by kernel_rfl, fun _ _ => rfl⟩
theorem has337 : Go.Dv.Has pr xt F0 337 Go.Lib.M337 := ⟨by kernel_rfl, fun _ _ => rfl⟩
theorem has338 : Go.Dv.Has pr xt F0 338 Go.Lib.M338 := ⟨by kernel_rfl, fun _ _ => rfl⟩
theorem has340 : Go.Dv.Has pr xt F0 340 Go.Lib.M340 := ⟨by kernel_rfl, fun _ _ => rfl⟩
theorem has341 : Go.Dv.Has pr xt F0 341 Go.Lib.M341 := ⟨by kernel_rfl, fun _ _ => rfl⟩
theorem has342 : Go.Dv.Has pr xt F0 342 Go.Lib.M342 := ⟨by kernel_rfl, fun _ _ => rfl⟩
theorem has343 : Go.Dv.Has pr xt F0 343 Go.Lib.M343 := ⟨by kernel_rfl, fun _ _ => rfl⟩
theorem has344 : Go.Dv.Has pr xt F0 344 Go.Lib.M344 := ⟨by kernel_rfl, fun _ _ => rfl⟩
theorem has345 : Go.Dv.Has pr xt F0 345 Go.Lib.M345 := ⟨by kernel_rfl, fun _ _ => rfl⟩
theorem has346 : Go.Dv.Has pr xt F0 346 Go.Lib.M346 := ⟨by kernel_rfl, fun _ _ => rfl⟩
theorem has347 : Go.Dv.Has pr xt F0 347 Go.Lib.M347 := ⟨by kernel_rfl, fun _ _ => rfl⟩
theorem has348 : Go.Dv.Has pr xt F0 348 Go.Lib.M348 := ⟨by kernel_rfl, fun _ _ => rfl⟩
theorem has349 : Go.Dv.Has pr xt F0 349 Go.Lib.M349 := ⟨by kernel_rfl, fun _ _ => rfl⟩
theorem has350 : Go.Dv.Has pr xt F0 350 Go.Lib.M350 := ⟨by kernel_rfl, fun _ _ => rfl⟩
theorem has351 : Go.Dv.Has pr xt F0 351 Go.Lib.M351 := ⟨by kernel_rfl, fun _ _ => rfl⟩
theorem has352 : Go.Dv.Has pr xt F0 352 Go.Lib.M352 := ⟨by kernel_rfl, fun _ _ => rfl⟩
theorem has353 : Go.Dv.Has pr xt F0 353 Go.Lib.M353 := ⟨by kernel_rfl, fun _ _ => rfl⟩
theorem has354 : Go.Dv.Has pr xt F0 354 Go.Lib.M354 := ⟨by kernel_rfl, fun _ _ => rfl⟩
theorem has355 : Go.Dv.Has pr xt F0 355 Go.Lib.M355 := ⟨by kernel_rfl, fun _ _ => rfl⟩
theorem has356 : Go.Dv.Has pr xt F0 356 Go.Lib.M356 := ⟨by kernel_rfl, fun _ _ => rfl⟩
theorem has357 : Go.Dv.Has pr xt F0 357 Go.Lib.M357 := ⟨by kernel_rfl, fun _ _ => rfl⟩
theorem has358 : Go.Dv.Has pr xt F0 358 Go.Lib.M358 := ⟨by kernel_rfl, fun _ _ => rfl⟩
theorem has359 : Go.Dv.Has pr xt F0 359 Go.Lib.M359 := ⟨by kernel_rfl, fun _ _ => rfl⟩
theorem has360 : Go.Dv.Has pr xt F0 360 Go.Lib.M360 := ⟨by kernel_rfl, fun _ _ => rfl⟩
theorem has361 : Go.Dv.Has pr xt F0 361 Go.Lib.M361 := ⟨by kernel_rfl, fun _ _ => rfl⟩
theorem has362 : Go.Dv.Has pr xt F0 362 Go.Lib.M362 := ⟨by kernel_rfl, fun _ _ => rfl⟩
theorem has363 : Go.Dv.Has pr xt F0 363 Go.Lib.M363 := ⟨by kernel_rfl, fun _ _ => rfl⟩
theorem has364 : Go.Dv.Has pr xt F0 364 Go.Lib.M364 := ⟨by kernel_rfl, fun _ _ => rfl⟩
theorem has365 : Go.Dv.Has pr xt F0 365 Go.Lib.M365 := ⟨by kernel_rfl, fun _ _ => rfl⟩
theorem has366 : Go.Dv.Has pr xt F0 366 Go.Lib.M366 := ⟨by kernel_rfl, fun _ _ => rfl⟩
theorem has367 : Go.Dv.Has pr xt F0 367 Go.Lib.M367 := ⟨by kernel_rfl, fun _ _ => rfl⟩
theorem has371 : Go.Dv.Has pr xt F0 371 Go.Lib.M371 := ⟨by kernel_rfl, fun _ _ => rfl⟩
theorem has372 : Go.Dv.Has pr xt F0 372 Go.Lib.M372 := ⟨by kernel_rfl, fun _ _ => rfl⟩
theorem has373 : Go.Dv.Has pr xt F0 373 Go.Lib.M373 := ⟨by kernel_rfl, fun _ _ => rfl⟩
theorem has374 : Go.Dv.Has pr xt F0 374 Go.Lib.M374 := ⟨by kernel_rfl, fun _ _ => rfl⟩
theorem has378 : Go.Dv.Has pr xt F0 378 Go.Lib.M378 := ⟨by kernel_rfl, fun _ _ => rfl⟩
theorem has379 : Go.Dv.Has pr xt F0 379 Go.Lib.M379 := ⟨by kernel_rfl, fun _ _ => rfl⟩
theorem has380 : Go.Dv.Has pr xt F0 380 Go.Lib.M380 := ⟨by kernel_rfl, fun _ _ => rfl⟩
theorem has381 : Go.Dv.Has pr xt F0 381 Go.Lib.M381 := ⟨by kernel_rfl, fun _ _ => rfl⟩
theorem has382 : Go.Dv.Has pr xt F0 382 Go.Lib.M382 := ⟨by kernel_rfl, fun _ _ => rfl⟩
theorem has383 : Go.Dv.Has pr xt F0 383 Go.Lib.M383 := ⟨by kernel_rfl, fun _ _ => rfl⟩
theorem has384 : Go.Dv.Has pr xt F0 384 Go.Lib.M384 := ⟨by kernel_rfl, fun _ _ => rfl⟩
theorem has385 : Go.Dv.Has pr xt F0 385 Go.Lib.M385 := ⟨by kernel_rfl, fun _ _ => rfl⟩
theorem has386 : Go.Dv.Has pr xt F0 386 Go.Lib.M386 := ⟨by kernel_rfl, fun _ _ => rfl⟩
theorem has387 : Go.Dv.Has pr xt F0 387 Go.Lib.M387 := ⟨by kernel_rfl, fun _ _ => rfl⟩
theorem has388 : Go.Dv.Has pr xt F0 388 Go.Lib.M388 := ⟨by kernel_rfl, fun _ _ => rfl⟩
theorem has389 : Go.Dv.Has pr xt F0 389 Go.Lib.M389 := ⟨by kernel_rfl, fun _ _ => rfl⟩
theorem has390 : Go.Dv.Has pr xt F0 390 Go.Lib.M390 := ⟨by kernel_rfl, fun _ _ => rfl⟩
theorem has391 : Go.Dv.Has pr xt F0 391 Go.Lib.M391 := ⟨by kernel_rfl, fun _ _ => rfl⟩
theorem has392 : Go.Dv.Has pr xt F0 392 Go.Lib.M392 := ⟨by kernel_rfl, fun _ _ => rfl⟩
theorem has393 : Go.Dv.Has pr xt F0 393 Go.Lib.M393 := ⟨by kernel_rfl, fun _ _ => rfl⟩
theorem has394 : Go.Dv.Has pr xt F0 394 Go.Lib.M394 := ⟨by kernel_rfl, fun _ _ => rfl⟩
theorem has398 : Go.Dv.Has pr xt F0 398 Go.Lib.M398 := ⟨by kernel_rfl, fun _ _ => rfl⟩
theorem has399 : Go.Dv.Has pr xt F0 399 Go.Lib.M399 := ⟨by kernel_rfl, fun _ _ => rfl⟩
theorem has400 : Go.Dv.Has pr xt F0 400 Go.Lib.M400 := ⟨by kernel_rfl, fun _ _ => rfl⟩
theorem has401 : Go.Dv.Has pr xt F0 401 Go.Lib.M401 := ⟨by kernel_rfl, fun _ _ => rfl⟩
theorem has402 : Go.Dv.Has pr xt F0 402 Go.Lib.M402 := ⟨by kernel_rfl, fun _ _ => rfl⟩
theorem has403 : Go.Dv.Has pr xt F0 403 Go.Lib.M403 := ⟨by kernel_rfl, fun _ _ => rfl⟩
theorem has404 : Go.Dv.Has pr xt F0 404 Go.Lib.M404 := ⟨by kernel_rfl, fun _ _ => rfl⟩
theorem has405 : Go.Dv.Has pr xt F0 405 Go.Lib.M405 := ⟨by kernel_rfl, fun _ _ => rfl⟩
theorem has408 : Go.Dv.Has pr xt F0 408 Go.Lib.M408 := ⟨by kernel_rfl, fun _ _ => rfl⟩
theorem has410 : Go.Dv.Has pr xt F0 410 Go.Lib.M410 := ⟨by kernel_rfl, fun _ _ => rfl⟩
theorem has413 : Go.Dv.Has pr xt F0 413 Go.Lib.M413 := ⟨by kernel_rfl, fun _ _ => rfl⟩
theorem has414 : Go.Dv.Has pr xt F0 414 Go.Lib.M414 := ⟨by kernel_rfl, fun _ _ => rfl⟩
theorem has415 : Go.Dv.Has pr xt F0 415 Go.Lib.M415 := ⟨by kernel_rfl, fun _ _ => rfl⟩
theorem has424 : Go.Dv.Has pr xt F0 424 Go.Lib.M424 := ⟨by kernel_rfl, fun _ _ => rfl⟩
end Go.Proofs.YtkgnhidkfdoimaaGreat.sa
end

section
set_option maxRecDepth 100000
namespace Go.Proofs.YtkgnhidkfdoimaaGreat.sa
open Go.Vm
theorem awakeR : runs (mach []) ext0 1000000 20 [] Tryz.prog.globals.size = true := runs_of (by decide +kernel)
end Go.Proofs.YtkgnhidkfdoimaaGreat.sa
end

section
set_option maxRecDepth 100000
namespace Go.Proofs.YtkgnhidkfdoimaaGreat
open Go.RowKit Go.Maps Go.Sort Go.Shelf Go.Vm
attribute [local go_sem] Oper.semAt_some
def renK : Go.Shelf.Ren where
 f := fun x => match x with
  | 7 => 85
  | 10 => 122
  | n => n
 t := fun x => match x with
  | 23 => 132
  | 26 => 3
  | 3 => 84
  | 28 => 153
  | 0 => 0
  | 27 => 152
  | 33 => 181
  | 4 => 4
  | n => n
 g := fun x => x
theorem renKL : SlLaysZI.n7 Tryz.prog renK where
 mixed := by kernel_rfl
 f7 := ⟨Tryz.f85.name, by kernel_rfl, by kernel_rfl⟩
 f10 := ⟨Tryz.f122.name, by kernel_rfl, by kernel_rfl⟩
 t0 := by kernel_rfl
 a0 := fun w => by kernel_rfl
 z0 := fun w => by kernel_rfl
 v0 := fun w => by kernel_rfl
 t4 := by kernel_rfl
 a4 := fun w => by kernel_rfl
 z4 := fun w => by kernel_rfl
 v4 := fun w => by kernel_rfl
 t23 := by kernel_rfl
 a23 := fun w => by kernel_rfl
 z23 := fun w => by kernel_rfl
 v23 := fun w => by kernel_rfl
 t26 := by kernel_rfl
 a26 := fun w => by kernel_rfl
 z26 := fun w => by kernel_rfl
 v26 := fun w => by kernel_rfl
 t27 := by kernel_rfl
 a27 := fun w => by kernel_rfl
 z27 := fun w => by kernel_rfl
 v27 := fun w => by kernel_rfl
 t28 := by kernel_rfl
 a28 := fun w => by kernel_rfl
 z28 := fun w => by kernel_rfl
 v28 := fun w => by kernel_rfl
 t33 := by kernel_rfl
 a33 := fun w => by kernel_rfl
 z33 := fun w => by kernel_rfl
 v33 := fun w => by kernel_rfl
def renS : Go.Shelf.Ren where
 f := fun x => match x with
  | 6 => 84
  | 8 => 121
  | 9 => 53
  | 11 => 158
  | 13 => 87
  | 12 => 86
  | 23 => 132
  | 24 => 133
  | 14 => 123
  | 15 => 124
  | 16 => 125
  | 17 => 126
  | 18 => 127
  | 19 => 128
  | 20 => 129
  | 21 => 130
  | 22 => 131
  | 25 => 159
  | 26 => 160
  | 27 => 161
  | 28 => 162
  | 29 => 163
  | 30 => 164
  | 31 => 194
  | n => n
 t := fun x => match x with
  | 26 => 3
  | 28 => 153
  | 24 => 43
  | 0 => 0
  | 3 => 3
  | 37 => 59
  | 48 => 199
  | 50 => 201
  | 4 => 4
  | 40 => 193
  | 39 => 192
  | 45 => 113
  | 5 => 5
  | 9 => 9
  | 51 => 232
  | 55 => 236
  | 57 => 261
  | 58 => 262
  | 33 => 181
  | n => n
 g := fun x => x
theorem renSL : SlLaysZI.n6 Tryz.prog renS where
 mixed := by kernel_rfl
 f6 := ⟨Tryz.f84.name, by kernel_rfl, by kernel_rfl⟩
 f8 := ⟨Tryz.f121.name, by kernel_rfl, by kernel_rfl⟩
 f11 := ⟨Tryz.f158.name, by kernel_rfl, by kernel_rfl⟩
 t0 := by kernel_rfl
 a0 := fun w => by kernel_rfl
 z0 := fun w => by kernel_rfl
 v0 := fun w => by kernel_rfl
 t24 := by kernel_rfl
 a24 := fun w => by kernel_rfl
 z24 := fun w => by kernel_rfl
 v24 := fun w => by kernel_rfl
 t26 := by kernel_rfl
 a26 := fun w => by kernel_rfl
 z26 := fun w => by kernel_rfl
 v26 := fun w => by kernel_rfl
 t28 := by kernel_rfl
 a28 := fun w => by kernel_rfl
 z28 := fun w => by kernel_rfl
 v28 := fun w => by kernel_rfl
 i26 := by kernel_rfl
def renM : Go.Shelf.Ren where
 f := fun x => match x with
  | 5 => 53
  | 8 => 87
  | 7 => 86
  | 19 => 132
  | 20 => 133
  | 10 => 123
  | 11 => 124
  | 12 => 125
  | 13 => 126
  | 14 => 127
  | 15 => 128
  | 16 => 129
  | 17 => 130
  | 18 => 131
  | 30 => 159
  | 31 => 160
  | 32 => 161
  | 33 => 162
  | 34 => 163
  | 35 => 164
  | 40 => 194
  | n => n
 t := fun x => match x with
  | 23 => 43
  | 25 => 3
  | 3 => 3
  | 32 => 59
  | 22 => 43
  | 0 => 0
  | 44 => 199
  | 46 => 201
  | 4 => 4
  | 36 => 193
  | 35 => 192
  | 41 => 113
  | 5 => 5
  | 9 => 9
  | 53 => 232
  | 57 => 236
  | 63 => 261
  | 64 => 262
  | n => n
 g := fun x => x
theorem renML : SlLaysM.n5 Tryz.prog renM where
 mixed := by kernel_rfl
 f5 := ⟨Tryz.f53.name, by kernel_rfl, by kernel_rfl⟩
 f7 := ⟨Tryz.f86.name, by kernel_rfl, by kernel_rfl⟩
 f8 := by kernel_rfl
 f10 := ⟨Tryz.f123.name, by kernel_rfl, by kernel_rfl⟩
 f11 := ⟨Tryz.f124.name, by kernel_rfl, by kernel_rfl⟩
 f12 := ⟨Tryz.f125.name, by kernel_rfl, by kernel_rfl⟩
 f13 := ⟨Tryz.f126.name, by kernel_rfl, by kernel_rfl⟩
 f14 := ⟨Tryz.f127.name, by kernel_rfl, by kernel_rfl⟩
 f15 := ⟨Tryz.f128.name, by kernel_rfl, by kernel_rfl⟩
 f16 := ⟨Tryz.f129.name, by kernel_rfl, by kernel_rfl⟩
 f17 := ⟨Tryz.f130.name, by kernel_rfl, by kernel_rfl⟩
 f18 := ⟨Tryz.f131.name, by kernel_rfl, by kernel_rfl⟩
 f19 := by kernel_rfl
 f20 := by kernel_rfl
 f30 := ⟨Tryz.f159.name, by kernel_rfl, by kernel_rfl⟩
 f31 := by kernel_rfl
 f32 := by kernel_rfl
 f33 := ⟨Tryz.f162.name, by kernel_rfl, by kernel_rfl⟩
 f34 := ⟨Tryz.f163.name, by kernel_rfl, by kernel_rfl⟩
 f35 := ⟨Tryz.f164.name, by kernel_rfl, by kernel_rfl⟩
 f40 := ⟨Tryz.f194.name, by kernel_rfl, by kernel_rfl⟩
 t0 := by kernel_rfl
 a0 := fun w => by kernel_rfl
 z0 := fun w => by kernel_rfl
 v0 := fun w => by kernel_rfl
 t3 := by kernel_rfl
 a3 := fun w => by kernel_rfl
 z3 := fun w => by kernel_rfl
 v3 := fun w => by kernel_rfl
 t4 := by kernel_rfl
 a4 := fun w => by kernel_rfl
 z4 := fun w => by kernel_rfl
 v4 := fun w => by kernel_rfl
 t5 := by kernel_rfl
 a5 := fun w => by kernel_rfl
 z5 := fun w => by kernel_rfl
 v5 := fun w => by kernel_rfl
 t9 := by kernel_rfl
 a9 := fun w => by kernel_rfl
 z9 := fun w => by kernel_rfl
 v9 := fun w => by kernel_rfl
 t22 := by kernel_rfl
 a22 := fun w => by kernel_rfl
 z22 := fun w => by kernel_rfl
 v22 := fun w => by kernel_rfl
 t23 := by kernel_rfl
 a23 := fun w => by kernel_rfl
 z23 := fun w => by kernel_rfl
 v23 := fun w => by kernel_rfl
 t25 := by kernel_rfl
 a25 := fun w => by kernel_rfl
 z25 := fun w => by kernel_rfl
 v25 := fun w => by kernel_rfl
 t32 := by kernel_rfl
 a32 := fun w => by kernel_rfl
 z32 := fun w => by kernel_rfl
 v32 := fun w => by kernel_rfl
 t35 := by kernel_rfl
 a35 := fun w => by kernel_rfl
 z35 := fun w => by kernel_rfl
 v35 := fun w => by kernel_rfl
 t36 := by kernel_rfl
 a36 := fun w => by kernel_rfl
 z36 := fun w => by kernel_rfl
 v36 := fun w => by kernel_rfl
 t41 := by kernel_rfl
 a41 := fun w => by kernel_rfl
 z41 := fun w => by kernel_rfl
 v41 := fun w => by kernel_rfl
 t44 := by kernel_rfl
 a44 := fun w => by kernel_rfl
 z44 := fun w => by kernel_rfl
 v44 := fun w => by kernel_rfl
 t46 := by kernel_rfl
 a46 := fun w => by kernel_rfl
 z46 := fun w => by kernel_rfl
 v46 := fun w => by kernel_rfl
 t53 := by kernel_rfl
 a53 := fun w => by kernel_rfl
 z53 := fun w => by kernel_rfl
 v53 := fun w => by kernel_rfl
 t57 := by kernel_rfl
 a57 := fun w => by kernel_rfl
 z57 := fun w => by kernel_rfl
 v57 := fun w => by kernel_rfl
 t63 := by kernel_rfl
 a63 := fun w => by kernel_rfl
 z63 := fun w => by kernel_rfl
 v63 := fun w => by kernel_rfl
 t64 := by kernel_rfl
 a64 := fun w => by kernel_rfl
 z64 := fun w => by kernel_rfl
 v64 := fun w => by kernel_rfl
theorem sortsIn (m : Nat) : AnyZI.SortsIn Tryz.prog renS Fence.wide m :=
 ⟨fun blk off cap ss W hH hblk hsz => callsIn_wide.2 (AnyM.slices_Sort_int renML blk off cap ss W hH hblk hsz),
   fun p cap W => callsIn_wide.2 (AnyM.slices_Sort_int_none renML p cap W)⟩
theorem keysSorted : KeysSorted Tryz.prog 84 122 :=
 keysSorted_of (ρ := renK) (σ := renS) renKL renSL sortsIn (enters_of Tryz.func53 (by kernel_rfl) rfl) (enters_of Tryz.func122 (by kernel_rfl) rfl) (by kernel_rfl)
theorem intsSort : IntsSort Tryz.prog 53 where
 enters := by kernel_rfl
 some_ blk off cap zs w hH hb hz := AnyM.slices_Sort_int renML blk off cap zs w hH hb (Nat.lt_of_le_of_lt hz (by decide))
 none_ p cap w := AnyM.slices_Sort_int_none renML p cap w
def upto (f : Nat → Int) (k : Nat) : List Int := (List.range k).map f
theorem upto_succ (f : Nat → Int) (k : Nat) : upto f (k + 1) = upto f k ++ [f k] := by simp [upto, List.range_succ]
theorem upto_length (f : Nat → Int) (k : Nat) : (upto f k).length = k := by simp [upto]
theorem upto_all (zs : List Int) : upto (fun j => zs[j]?.getD 0) zs.length = zs := by
 apply List.ext_getElem
 ·simp [upto]
 ·intro i h1 h2;simp [upto, h2]
set_option maxHeartbeats 2000000 in
theorem values_in (n : Nat) (hn : 1 ≤ n) (l Bs n₀ b off len cap : Nat) (zs : List Int) (hreach : len * 8 ≤ 140737488351232) (hb : b < n₀) (J : List Int → World → Prop)
  (hY : ∀ pre x W, J pre W → pre.length < len → YieldAt Fence.wide (n - 1) Tryz.prog l #[.int .i64 x] W fun e W' => e = .returned (.bool true) ∧ J (pre ++ [x]) W' ∧ Below n₀ W W')
  (W : World) (hBs : W.cell? ⟨Bs, 0, none⟩ = some (.slice (some ⟨b, off, none⟩) len cap)) (hc : ∀ j, j < len → W.cell? ⟨b, off + j, none⟩ = some (.int .i64 (zs[j]?.getD 0))) (h0 : J [] W) :
  CallsIn Fence.wide n Tryz.prog 156 #[.func (.yield l) #[] #[], .pointer (some ⟨Bs, 0, none⟩)] W fun e W' => (∃ v, e = .returned v) ∧ J (upto (fun j => zs[j]?.getD 0) len) W' := by
 have hro : Fence.wide.round = none := rfl;refine callsIn_of_wp Tryz.func156 rfl trivial ?_ hro;simp only [Tryz.ntmps156, List.size_toArray, List.length_cons, List.length_nil, Nat.reduceAdd, Nat.reduceSub, Array.replicate_succ, Array.replicate_zero, List.push_toArray, List.append_toArray, List.nil_append, List.cons_append]
 gi_wp2
 gi_loopw [7] (fun i wr => ∃ k : Nat, k ≤ len ∧ i = .int .i64 k ∧ J (upto (fun j => zs[j]?.getD 0) k) wr ∧ Below n₀ W wr)
  (fun i _ => len - (numKey i).toNat)
 case atStart => exact ⟨0, Nat.zero_le _, rfl, h0, Below.refl _ _⟩
 case round =>
  obtain ⟨k, hk, rfl, hJs, hnx⟩ := hrel;have hcx : k < len → wr.cell? ⟨b, off + k, none⟩ = some (.int .i64 (zs[k]?.getD 0)) := fun h => (hnx.cell (p := ⟨b, off + k, none⟩) hb).trans (hc k h)
  by_cases hlt : k < len
  ·obtain ⟨fn, tmps, assign, body, hy, hR⟩ := hY _ (zs[k]?.getD 0) wr hJs (by rw [upto_length]; exact hlt);have hcx' := hcx hlt
   gi_wp2
   refine hR.mono ?_;rintro e W3 ⟨rfl, hJ3, hk3⟩
   gi_wp2
   go_roundw
   case rel => exact ⟨k + 1, by omega, by simp, by rw [upto_succ]; exact hJ3, hnx.trans hk3⟩
   case measure => simp [numKey]; omega
  ·obtain rfl : k = len := by omega
   gi_wp2
   go_end0
   exact ⟨⟨_, rfl⟩, hJs⟩
set_option maxHeartbeats 1000000 in
theorem values_nil_in (n : Nat) (l Bs : Nat) (a : Option Addr) (cc : Nat) (J : List Int → World → Prop) (W : World) (hBs : W.cell? ⟨Bs, 0, none⟩ = some (.slice a 0 cc)) (h0 : J [] W) :
  CallsIn Fence.wide n Tryz.prog 156 #[.func (.yield l) #[] #[], .pointer (some ⟨Bs, 0, none⟩)] W fun e W' => (∃ v, e = .returned v) ∧ J [] W' := by
 have hro : Fence.wide.round = none := rfl;refine callsIn_of_wp Tryz.func156 rfl trivial ?_ hro;simp only [Tryz.ntmps156, List.size_toArray, List.length_cons, List.length_nil, Nat.reduceAdd, Nat.reduceSub, Array.replicate_succ, Array.replicate_zero, List.push_toArray, List.append_toArray, List.nil_append, List.cons_append]
 gi_wp2
 gi_loopw [7] (fun i wr => i = .int .i64 0 ∧ J [] wr) (fun _ _ => 0)
 case atStart => exact ⟨rfl, h0⟩
 case round =>
  obtain ⟨rfl, hJs⟩ := hrel
  gi_wp2
  go_end0
  exact ⟨⟨_, rfl⟩, hJs⟩
theorem valuesApp : ValuesApp Tryz.prog 158 156 where
 enters := by kernel_rfl
 some_ w Bm b off len cap zs hc hz hl hcs hBm hb := by
  refine (callsIn_wide (n := 4)).1 ?_
  have hseq : SeqGivesB 3 Tryz.prog 156 #[.pointer (some ⟨Bm, 0, none⟩)] (fun xs => xs = zs) len w := by
   intro l J W hW hJb hY hJ0;have hc' := (hW.cell (p := ⟨Bm, 0, none⟩) hBm).trans hc;refine (values_in 3 (by omega) l Bm w.heap.size b off len cap zs (by omega) hb J (fun pre x W1 hJ1 hlen => ?_) W hc' (fun j hj => (hW.cell (p := ⟨b, off + j, none⟩) hb).trans (hcs j hj)) hJ0).mono ?_
   ·obtain ⟨fn, tmps, assign, body, hy, hR⟩ := hY pre x W1 hJ1 hlen;refine ⟨fn, tmps, assign, body, hy, hR.mono ?_⟩;rintro e W' ⟨rfl, k1, k2⟩;exact ⟨rfl, k1, below_pair (hJb _ _ hJ1) (hJb _ _ k1) k2.size⟩
   ·rintro e W' ⟨he, hj⟩;refine ⟨he, _, rfl, ?_⟩;rw [← hz, upto_all] at hj;exact hj
  have hml : (1000000 : Nat) ≤ maxLen := (by decide);refine (appendB_in (ρ := renS) { renSL with } 4 (by omega) 156 _ (enters_of Tryz.func156 (by kernel_rfl) rfl) _ len (Nat.le_trans hl hml) (by omega) w hseq).mono ?_;rintro e w' ⟨v, ss, rfl, rfl, hrow, hnil, hb'⟩;exact ⟨v, _, rfl, hrow, hnil, hb'⟩
 none_ w Bm a cc hc hBm := by
  refine (callsIn_wide (n := 4)).1 ?_
  have hseq : SeqGivesB 3 Tryz.prog 156 #[.pointer (some ⟨Bm, 0, none⟩)] (fun xs => xs = []) 0 w := by
   intro l J W hW hJb hY hJ0;have hc' := (hW.cell (p := ⟨Bm, 0, none⟩) hBm).trans hc;exact (values_nil_in 3 l Bm a cc J W hc' hJ0).mono fun e W' ⟨he, hj⟩ => ⟨he, [], rfl, hj⟩
  refine (appendB_in (ρ := renS) { renSL with } 4 (by omega) 156 _ (enters_of Tryz.func156 (by kernel_rfl) rfl) _ 0 (Nat.zero_le _) (by omega) w hseq).mono ?_;rintro e w' ⟨v, ss, rfl, rfl, hrow, hnil, hb'⟩;exact ⟨by rw [hnil.2 rfl], hb'⟩
end Go.Proofs.YtkgnhidkfdoimaaGreat
end

section
set_option maxRecDepth 100000
namespace Go.Proofs.YtkgnhidkfdoimaaGreat.sa
open Go.Vm Go.Dv Go.Lib
theorem hawake : FnD pr xt (F0 423) [] (.lit (.bool true)) := by
 intro H ψ S h vs s k;simp only [VDl] at k;subst k;refine wpc_ext (v := .bool true) (h' := h) rfl ⟨ψ, S, _, H, .refl, s, ?_, rfl, rfl⟩;simp [VD, atomV]
theorem orX_l {a b : Ext} {f : Nat} {args : List V} {h : Hp} (e : b f args h = none) : orX a b f args h = a f args h := by
 unfold orX; split
 ·rename_i r h1; exact h1.symm
 ·rename_i h1; rw [e, h1]
theorem orX_r {a b : Ext} {f : Nat} {args : List V} {h : Hp} (e : a f args h = none) : orX a b f args h = b f args h := by
 unfold orX; rw [e]
theorem x20 : ∀ args h, xt (F0 20) args h = extV .cmp args h := fun _ _ => rfl
theorem x334 : ∀ args h, xt (F0 334) args h = sortedX (F0 334) (F0 336) (F0 334) args h := fun _ _ => (orX_r rfl).trans (orX_l rfl)
theorem x425 : ∀ args h, xt (F0 425) args h = valuesX (F0 425) (F0 409) (F0 425) args h := fun _ _ => (orX_r rfl).trans ((orX_r rfl).trans (orX_l rfl))
theorem x331 : ∀ args h, xt (F0 331) args h = sortX (F0 331) (F0 331) args h := fun _ _ => (orX_r rfl).trans ((orX_r rfl).trans ((orX_r rfl).trans (orX_l rfl)))
theorem hsorted : HSorted pr xt F0 := ⟨by kernel_rfl, fun _ _ => rfl, has424, x425, x331⟩
theorem hschm : HSchmR pr xt F0 := ⟨has4, has5, has13, has14⟩
theorem hschmk : HSchmK pr xt F0 := ⟨hschm, has1, has3, has8, has9, has10, has11, has18, has19, x20⟩
theorem hpred : HPred pr xt F0 := ⟨hschmk, has65, has66, has67, has68, has69⟩
theorem hfit : HFit pr xt F0 := ⟨has220, has239, has255, has264, has265, has266, has268, has279⟩
theorem hdelt : HDelt pr xt F0 := ⟨hschm, has315, has316, has318, has320, has321, has327⟩
theorem htabl : HTabl pr xt F0 := ⟨hfit, hdelt, has303, has304, has306, has308, has309, has314, has317⟩
theorem hids : HIDs pr xt F0 := ⟨has322, has333, x334⟩
theorem hpick : HPick pr xt F0 := ⟨htabl, hids, hpred, has310, has311, has312, has323, has325, has326, x331⟩
theorem hstam : HStam pr xt F0 := ⟨has337, has338, has340, has348, has349, has350, has351, has355, has356, x331⟩
theorem htxns : HTxns pr xt F0 := ⟨has341, has342, has343, has344, has345, has346, has347, has352, has353, has354, has357, has358⟩
theorem hview : HView pr xt F0 := ⟨hpick, hstam, htxns, has360, has361, has364⟩
theorem hrows : HRows pr xt F0 := ⟨hview, hschmk, has359, has362, has363, has365, has366, has367⟩
theorem hwork : HWork pr xt F0 := ⟨hrows, sorted_nil_wc hsorted, has390, has394, has400, has401, has408, has404, has405, has410⟩
theorem hwork2 : HWork2 pr xt F0 := ⟨hwork, has393, has387⟩
theorem hwork3 : HWork3 pr xt F0 := ⟨hwork2, has373, has379, has380, has381, has382, has388, has389, has391, has398, has399, has402, has403⟩
theorem hwork4 : HWork4 pr xt F0 := ⟨hwork3, has371, has372⟩
theorem hstill : HStill pr xt F0 := ⟨hschm, has378, has384, has385, has386, has392⟩
theorem hnewW : HNewW pr xt F0 := ⟨hwork4, hstill, has371⟩
theorem hl20 : HLaw20 pr xt F0 := ⟨hnewW, has413⟩
theorem hres : HRes pr xt F0 := ⟨has77, has374, has383⟩
theorem hlaw : HFull pr xt F0 := ⟨hl20, hres, hawake, has414, has415⟩
theorem mixed : Tryz.prog.follows .mixedOrders = true := by kernel_rfl
theorem ext0_rises : Rises ext0 := orX_rises (sortedX_rises _ _) (orX_rises (valuesX_rises _ _) (orX_rises (sortX_rises _) (extBy_rises _)))
theorem ext0_ok {env : Env} : CallOk Tryz.prog env ext0 := orX_ok (sorted_ok keysSorted) (orX_ok (values_ok valuesApp) (orX_ok (sort_ok intsSort) (extBy_ok extsOk)))
theorem xt_ok {env : Env} : CallOk Tryz.prog env xt := orX_ok (constX_ok mixed (valid []) ext0_rises ext0_ok rfl intsOk (n := 1000000) fun f hf => by
 rcases List.mem_cons.1 hf with rfl | hf
 ·exact ⟨by kernel_rfl, awakeR⟩
 ·cases hf) ext0_ok
theorem xt_rises : Rises xt := orX_rises (constX_rises _) ext0_rises
end Go.Proofs.YtkgnhidkfdoimaaGreat.sa
end
