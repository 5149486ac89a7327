/-
 Texts that the claim's last one rests on, joined.
-/
import Derived.Test.YtkgnhidkfdoimaaGreatBWorkFullh
import Derived.Test.YtkgnhidkfdoimaaGreatBWorkFullf
import Derived.Test.YtkgnhidkfdoimaaGreatBWorkFullg

section
set_option maxRecDepth 10000
namespace Go.Lib
open Go.Vm Go.Dv Go.Srt
variable {p : Prog} {ext : Ext} {F : Nat → Nat}
inductive Pr where
 | mk (kind col op : Int) (v : Vl) (l : List Pr)
def Pr.kind : Pr → Int | .mk k _ _ _ _ => k
def Pr.col : Pr → Int | .mk _ c _ _ _ => c
def Pr.op : Pr → Int | .mk _ _ o _ _ => o
def Pr.v : Pr → Vl | .mk _ _ _ v _ => v
def Pr.l : Pr → List Pr | .mk _ _ _ _ l => l
mutual
def Pr.c : Pr → List D
 | .mk k c o v l => [.lit (.int .i64 k), .lit (.int .i64 c), .lit (.int .i64 o), .lit (.bool v.null), .lit (.int .i64 v.kind), .lit (.int .i64 v.n), byD v.bytes, .row 8 .p (Pr.cs l)]
def Pr.cs : List Pr → List (List D)
 | [] => []
 | p :: l => p.c :: Pr.cs l
end
theorem Pr.cs_map : ∀ {l : List Pr}, Pr.cs l = l.map Pr.c
 | [] => by simp [Pr.cs]
 | p :: l => by simp [Pr.cs, Pr.cs_map (l := l)]
def prsD (l : List Pr) : D := .row 8 .p (l.map Pr.c)
theorem pr_c {q : Pr} : q.c = [.lit (.int .i64 q.kind), .lit (.int .i64 q.col), .lit (.int .i64 q.op), .lit (.bool q.v.null), .lit (.int .i64 q.v.kind), .lit (.int .i64 q.v.n), byD q.v.bytes, prsD q.l] := by
 cases q; simp [Pr.c, Pr.kind, Pr.col, Pr.op, Pr.v, Pr.l, prsD, Pr.cs_map]
theorem pr_0 {q : Pr} : q.c[0]? = some (.lit (.int .i64 q.kind)) := by rw [pr_c]; rfl
theorem pr_1 {q : Pr} : q.c[1]? = some (.lit (.int .i64 q.col)) := by rw [pr_c]; rfl
theorem pr_2 {q : Pr} : q.c[2]? = some (.lit (.int .i64 q.op)) := by rw [pr_c]; rfl
theorem pr_7 {q : Pr} : q.c[7]? = some (prsD q.l) := by rw [pr_c]; rfl
theorem pr_len {q : Pr} : q.c.length = 8 := by rw [pr_c]; rfl
theorem pr_g {q : Pr} {i : Nat} {d : D} (h : q.c[i]? = some d) (hi : i < q.c.length) : q.c[i] = d := (List.getElem?_eq_some_iff.1 h).2
theorem pr_g0 {q : Pr} (h : 0 < q.c.length) : q.c[0] = .lit (.int .i64 q.kind) := pr_g pr_0 h
theorem pr_g1 {q : Pr} (h : 1 < q.c.length) : q.c[1] = .lit (.int .i64 q.col) := pr_g pr_1 h
theorem pr_g2 {q : Pr} (h : 2 < q.c.length) : q.c[2] = .lit (.int .i64 q.op) := pr_g pr_2 h
theorem pr_g7 {q : Pr} (h : 7 < q.c.length) : q.c[7] = prsD q.l := pr_g pr_7 h
theorem pr_v {q : Pr} : (q.c.drop 3).take 4 = q.v.c := by rw [pr_c]; rfl
theorem pr_take {q : Pr} : q.c.take 8 = q.c := List.take_of_length_le (by rw [pr_len]; exact Nat.le_refl _)
theorem pr_flats {q : Pr} : flatsD q.c = true := by rw [pr_c]; rfl
theorem prs_len {l : List Pr} : lenbD (prsD l) = some (.lit (.int .i64 (l.length : Int))) := by simp [prsD]
theorem at_prs {l : List Pr} {n : Nat} : atO 8 (prsD l) (some n) = elemD (l[n]?.map Pr.c) := by simp [prsD]
theorem pr_unders {n : Nat} : ∀ q : Pr, D.unders n q.c := by
 have key : ∀ (k : Nat) (q : Pr), SizeOf.sizeOf q < k → D.unders n q.c := by
  intro k
  induction k with
  | zero => intro q h; omega
  | succ k ih =>
   intro q h
   cases q with
   | mk kd c o v l =>
    simp only [Pr.c, Pr.cs_map, D.unders, D.under, by_under, true_and, and_true]
    have : ∀ l' : List Pr, (∀ q, q ∈ l' → D.unders n q.c) → D.underss n (l'.map Pr.c) := by
     intro l'
     induction l' with
     | nil => intro _; simp [D.underss]
     | cons q l' ih2 => intro h; simp only [List.map_cons, D.underss]; exact ⟨h q (by simp), ih2 fun x hx => h x (by simp [hx])⟩
    refine this l fun q hq => ih q ?_;have := List.sizeOf_lt_of_mem hq;simp at h; omega
 exact fun q => key (SizeOf.sizeOf q + 1) q (by omega)
theorem prs_under {n : Nat} {l : List Pr} : (prsD l).under n := by simp only [prsD, D.under]; exact underss_map (fun q => pr_unders q) _
theorem cellsD_prs {l : List Pr} : cellsD (prsD l) = some [prsD l] := rfl
theorem prs_flat {l : List Pr} : flatD (prsD l) = true := rfl
attribute [simp] pr_g0 pr_g1 pr_g2 pr_g7 pr_0 pr_1 pr_2 pr_7 pr_len pr_v pr_take pr_flats prs_len at_prs pr_unders prs_under cellsD_prs prs_flat
def truthF (b : Bool) : Int := if b then 1 else 2
def notF (n : Int) : Int := if n = 1 then 2 else if n = 2 then 1 else 3
def holdsF (o c : Int) : Bool := if o = 1 then decide (c = 0) else if o = 2 then decide (¬ c = 0) else if o = 3 then decide (c < 0) else if o = 4 then decide (c ≤ 0) else if o = 5 then decide (0 < c) else if o = 6 then decide (0 ≤ c) else false
mutual
def evalF : Pr → Row → Int
 | .mk k c o v l, r => if k = 1 then 1 else if k = 2 then (if (atV r c).null = true then 3 else truthF (holdsF o (cmpV (atV r c) v))) else if k = 3 then truthF (atV r c).null
   else if k = 4 then listF l r 2 1 else if k = 5 then listF l r 1 2 else if k = 6 then headF l r else 3
def headF : List Pr → Row → Int
 | [], _ => 3
 | p :: _, r => notF (evalF p r)
def listF : List Pr → Row → Int → Int → Int
 | [], _, _, cur => cur
 | p :: l, r, d, cur => if evalF p r = d then d else listF l r d (if evalF p r = 3 then 3 else cur)
end
theorem evalF_eq {q : Pr} {r : Row} : evalF q r = if q.kind = 1 then 1 else if q.kind = 2 then (if (atV r q.col).null = true then 3 else truthF (holdsF q.op (cmpV (atV r q.col) q.v))) else if q.kind = 3 then truthF (atV r q.col).null
   else if q.kind = 4 then listF q.l r 2 1 else if q.kind = 5 then listF q.l r 1 2 else if q.kind = 6 then headF q.l r else 3 := by
 cases q; simp only [evalF, Pr.kind, Pr.col, Pr.op, Pr.v, Pr.l]; rfl
structure HPred (p : Prog) (ext : Ext) (F : Nat → Nat) : Prop where
 schm : HSchmK p ext F
 h65 : Has p ext F 65 M65
 h66 : Has p ext F 66 M66
 h67 : Has p ext F 67 M67
 h68 : Has p ext F 68 M68
 h69 : Has p ext F 69 M69
theorem pred_truth (L : HPred p ext F) {b : Bool} : FnD p ext (F 67) [.lit (.bool b)] (.lit (.int .i64 (truthF b))) := by
 refine fn_of L.h67 (M := M67) rfl ok67 rfl fun H => sem_run 9000 _ ?_;simp
 cases b with
 | true =>
  simp;refine sem_ret ?_;simp [M67, truthF];exact .same (by simp)
 | false =>
  simp;refine sem_ret ?_;simp [M67, truthF];exact .same (by simp)
theorem pred_not (L : HPred p ext F) {n : Int} : FnD p ext (F 69) [.lit (.int .i64 n)] (.lit (.int .i64 (notF n))) := by
 refine fn_of L.h69 (M := M69) rfl ok69 rfl fun H => sem_run 9000 _ ?_;simp
 by_cases h1 : n = 1
 ·simp [h1];refine sem_ret ?_;simp [M69, notF];exact .same (by simp)
 ·by_cases h2 : n = 2
  ·simp [h2];refine sem_ret ?_;simp [M69, notF];exact .same (by simp)
  ·simp [h1, h2];refine sem_ret ?_;simp [M69, notF, h1, h2];exact .same (by simp)
theorem pred_holds (L : HPred p ext F) {o c : Int} : FnD p ext (F 66) [.lit (.int .i64 o), .lit (.int .i64 c)] (.lit (.bool (holdsF o c))) := by
 refine fn_of L.h66 (M := M66) rfl ok66 rfl fun H => sem_run 9000 _ ?_;simp
 by_cases h1 : o = 1
 ·simp [h1];refine sem_ret ?_;simp [M66, holdsF];exact .same (by simp)
 ·by_cases h2 : o = 2
  ·simp [h2];refine sem_ret ?_;simp [M66, holdsF];exact .same (by simp)
  ·by_cases h3 : o = 3
   ·simp [h3];refine sem_ret ?_;simp [M66, holdsF];exact .same (by simp)
   ·by_cases h4 : o = 4
    ·simp [h4];refine sem_ret ?_;simp [M66, holdsF];exact .same (by simp)
    ·by_cases h5 : o = 5
     ·simp [h5];refine sem_ret ?_;simp [M66, holdsF];exact .same (by simp)
     ·by_cases h6 : o = 6
      ·simp [h6];refine sem_ret ?_;simp [M66, holdsF];exact .same (by simp)
      ·simp [h1, h2, h3, h4, h5, h6];refine sem_ret ?_;simp [M66, holdsF, h1, h2, h3, h4, h5, h6];exact .same (by simp)
def PListI (H0 : HpD) (r : Row) (l : List Pr) (d oth : Int) (k : Nat) (fr : FrD) (H : HpD) : Prop :=
 ∃ (i : Nat) (cur : Int), k = l.length - i ∧ i ≤ l.length ∧ listF l r d oth = listF (l.drop i) r d cur ∧ fr = [(1, rowD r), (2, .lit (.int .i64 d)), (9, .lit (.int .i64 cur)), (15, prsD l), (16, .lit (.int .i64 (l.length : Int))), (17, .lit (.int .i64 (i : Int)))] ∧ Sub H0 H
theorem pred_list (L : HPred p ext F) {q : Pr} {r : Row} {d oth : Int} (hl : q.l.length < 1000) (ih : ∀ x, x ∈ q.l → FnD p ext (F 65) [.agg x.c, rowD r] (.lit (.int .i64 (evalF x r)))) : FnD p ext (F 68) [.agg q.c, rowD r, .lit (.int .i64 d), .lit (.int .i64 oth)] (.lit (.int .i64 (listF q.l r d oth))) := by
 refine fn_of L.h68 (M := M68) rfl ok68 rfl fun H => sem_run 9000 _ ?_;simp;refine sem_loop (PListI H r q.l d oth) ?_ (k := q.l.length) ⟨0, oth, by simp, by simp, by simp, rfl, sR⟩;rintro k fr H' ⟨i, cur, rfl, hi, hc, rfl, hs⟩;refine sem_run 9000 _ ?_;simp
 by_cases c : i < q.l.length
 ·obtain ⟨x, hx⟩ : ∃ x, q.l[i]? = some x := ⟨q.l[i], by simp⟩
  have hdrop : q.l.drop i = x :: q.l.drop (i + 1) := by
   rw [List.drop_eq_getElem_cons c]; congr; exact (List.getElem?_eq_some_iff.1 hx).2
  rw [hdrop] at hc;have wi : wr .i64 ((i : Int) + 1) = ((i + 1 : Nat) : Int) := (by rw [wr_of] <;> omega);simp [c, hx, -getElem?_pos];refine sf (ih x (List.mem_of_getElem? hx)) ?_
  by_cases c1 : evalF x r = d
  ·simp [c1];refine sem_ret ?_;simp;refine sem_ret ?_;simp [M68];exact .le (sB hs) (by rw [hc, listF, if_pos c1]; exact D.le_refl _) trivial
  ·by_cases c2 : evalF x r = 3
   ·have c1' : ¬ 3 = d := c2 ▸ c1;simp [c1', c2];refine sem_ok ?_;exact ⟨q.l.length - (i + 1), by omega, i + 1, 3, rfl, by omega, by rw [hc, listF, if_neg c1, if_pos c2], by rw [wi], (sB hs)⟩
   ·simp [c1, c2];refine sem_ok ?_;exact ⟨q.l.length - (i + 1), by omega, i + 1, cur, rfl, by omega, by rw [hc, listF, if_neg c1, if_neg c2], by rw [wi], (sB hs)⟩
 ·have : i = q.l.length := (by omega);subst this;simp;refine sem_exit (sem_run 9000 _ ?_);simp;refine sem_ret ?_;simp [M68];exact .le (sB hs) (by rw [hc, List.drop_length, listF]; exact D.le_refl _) trivial
def PrS : Nat → Pr → Prop
 | 0, _ => False
 | n + 1, q => q.l.length < 1000 ∧ ∀ x, x ∈ q.l → PrS n x
theorem pred_eval1 (L : HPred p ext F) {q : Pr} {r : Row} (hl : q.l.length < 1000) (ih : ∀ x, x ∈ q.l → FnD p ext (F 65) [.agg x.c, rowD r] (.lit (.int .i64 (evalF x r)))) : FnD p ext (F 65) [.agg q.c, rowD r] (.lit (.int .i64 (evalF q r))) := by
 refine fn_of L.h65 (M := M65) rfl ok65 rfl fun H => sem_run 9000 _ ?_;simp;rw [evalF_eq]
 by_cases h1 : q.kind = 1
 ·simp [h1];refine sem_ret ?_;simp [M65];exact .same (by simp)
 ·by_cases h2 : q.kind = 2
  ·simp [h2];refine sf (schm_at L.schm) ?_;simp
   cases hn : (atV r q.col).null with
   | true =>
    simp;refine sem_ret ?_;simp [M65];exact .le sR (by simp) (by simp)
   | false =>
    simp;refine sem_dfn (schm_compare L.schm) (by first | exact D.les_refl _ | simp) (sem_run 9000 _ ?_);simp;refine sem_dfn (pred_holds L) (by first | exact D.les_refl _ | simp) (sem_run 9000 _ ?_);simp;refine sem_dfn (pred_truth L) (by first | exact D.les_refl _ | simp) (sem_run 9000 _ ?_);simp;refine sem_ret ?_;simp [M65];exact .le sR (by simp) (by simp)
  ·by_cases h3 : q.kind = 3
   ·simp [h3];refine sf (schm_at L.schm) ?_;simp;refine sf (pred_truth L) ?_;simp;refine sem_ret ?_;simp [M65];exact .same (by simp)
   ·by_cases h4 : q.kind = 4
    ·simp [h4];refine sf (pred_list L hl ih) ?_;simp;refine sem_ret ?_;simp [M65];exact .same (by simp)
    ·by_cases h5 : q.kind = 5
     ·simp [h5];refine sf (pred_list L hl ih) ?_;simp;refine sem_ret ?_;simp [M65];exact .same (by simp)
     ·by_cases h6 : q.kind = 6
      ·cases hq : q.l with
       | nil =>
        simp [h6, hq];refine sem_ret ?_;simp [M65, headF];exact .same (by simp)
       | cons x l =>
        have hx : q.l[0]? = some x := (by rw [hq]; rfl);simp [h6, hq];refine sf (ih x (by rw [hq]; simp)) ?_;simp;refine sf (pred_not L) ?_;simp;refine sem_ret ?_;simp [M65, headF];exact .same (by simp)
      ·simp [h1, h2, h3, h4, h5, h6];refine sem_ret ?_;simp [M65];exact .same (by simp)
theorem pred_eval (L : HPred p ext F) : ∀ (n : Nat) (q : Pr), PrS n q → ∀ r : Row, FnD p ext (F 65) [.agg q.c, rowD r] (.lit (.int .i64 (evalF q r)))
 | 0, _, h, _ => h.elim
 | n + 1, _, h, r => pred_eval1 L h.1 fun x hx => pred_eval L n x (h.2 x hx) r
end Go.Lib
end

section
set_option maxRecDepth 10000
namespace Go.Lib
open Go.Vm Go.Dv
variable {p : Prog} {ext : Ext} {F : Nat → Nat}
structure Tb where
 s : Sch
 dmost : Int
 gmost : Int
 last : Int
 l : Sto
structure TabAt (H : HpD) (bt bd bm : Nat) (gd : D) (t : Tb) : Prop where
 tb : H.blk bt = .cells [schR t.s, .ptr bd 0, gd, .lit (.int .i64 t.gmost), .lit (.int .i64 t.last)] false
 lt : bt < H.next
 sto : StoAt H bd bm t.dmost t.l
theorem StoAt.mono {H H' : HpD} {bd bm : Nat} {most : Int} {l : Sto} (h : StoAt H bd bm most l) (s : Sub H H') : StoAt H' bd bm most l :=
 ⟨by rw [s.blk _ h.ld]; exact h.d, by rw [s.blk _ h.lm]; exact h.m, Nat.lt_of_lt_of_le h.ld s.next, Nat.lt_of_lt_of_le h.lm s.next⟩
theorem TabAt.mono {H H' : HpD} {bt bd bm : Nat} {gd : D} {t : Tb} (h : TabAt H bt bd bm gd t) (s : Sub H H') : TabAt H' bt bd bm gd t :=
 ⟨by rw [s.blk _ h.lt]; exact h.tb, Nat.lt_of_lt_of_le h.lt s.next, h.sto.mono s⟩
theorem TabAt.ne {H : HpD} {bt bd bm : Nat} {gd : D} {t : Tb} (h : TabAt H bt bd bm gd t) : (bt ≠ bm ∧ bm ≠ bt) ∧ (bt ≠ bd ∧ bd ≠ bt) ∧ bd ≠ bm ∧ bm ≠ bd := by
 have h1 : bt ≠ bm := fun e => (by have := h.tb; rw [e, h.sto.m] at this; cases this);have h2 : bt ≠ bd := fun e => (by have := h.tb; rw [e, h.sto.d] at this; cases this);have h3 : bd ≠ bm := fun e => (by have := h.sto.d; rw [e, h.sto.m] at this; cases this);exact ⟨⟨h1, h1.symm⟩, ⟨h2, h2.symm⟩, h3, h3.symm⟩
structure HTabl (p : Prog) (ext : Ext) (F : Nat → Nat) : Prop where
 fit : HFit p ext F
 delt : HDelt p ext F
 h303 : Has p ext F 303 M303
 h304 : Has p ext F 304 M304
 h306 : Has p ext F 306 M306
 h308 : Has p ext F 308 M308
 h309 : Has p ext F 309 M309
 h314 : Has p ext F 314 M314
 h317 : Has p ext F 317 M317
theorem schE_3 {s : Sch} : ∀ e, e ∈ schE s → e.length = 3 := by simp [schE]
theorem schE_flats {s : Sch} : ∀ e, e ∈ schE s → flatsD e = true := by simp [schE]
theorem clone_sch (L : HTabl p ext F) {s : Sch} (hs : s.length < 1000000) : FnD p ext (F 314) [schR s] (schR s) := by
 refine fn_of L.h314 (M := M314) rfl ok314 rfl fun H => sem_run 9000 _ ?_;simp [schR];refine ⟨?_, ?_⟩
 ·intro h0;refine sem_ret ?_;simp [M314];exact .le .refl (by rw [h0]; simp [D.le]) (by simp)
 ·obtain ⟨s', H', e, g, _⟩ := (Gr.lit (el := []) (sz := 3) (H := H) (ex := true) (c := []) (n := 0) Sub.refl (by simp) rfl rfl).app (by_ := 32) (m := .p) (new := schE s) schE_3 schE_flats (roomyD (by simp; omega) (by simp; omega));simp [e];refine sem_ret ?_;simp [M314];exact g.fin (by simp) (by simp)
def NewT (H : HpD) (t : Tb) (d : D) (H' : HpD) : Prop := ∃ bt bd bm, d = .tup [.ptr bt 0, .lit (.bool true)] ∧ TabAt H' bt bd bm (.lit .nilslice) t ∧ Sub H H' ∧ H.next ≤ bt ∧ H.next ≤ bd ∧ H.next ≤ bm
theorem tabl_new (L : HTabl p ext F) {s : Sch} {a b : Int} {H : HpD} (hs : OkS s) : WcD p ext (F 303) [schD s, .lit (.int .i64 a), .lit (.int .i64 b)] H (NewT H ⟨s, min (max a 1) 1000, min (max b 0) 100, 0, []⟩) := by
 refine wc_of L.h303 (M := M303) rfl ok303 rfl (sem_run 9000 _ ?_);simp;refine sf (schm_ok L.fit hs) ?_;simp;refine sem_fn (clone_sch L (s := s) (by have := hs.len; omega)) (by first | exact D.les_refl _ | simp) (sem_run 5 _ ?_);simp;refine sem_box (b := H.next) (cs := [schR s]) (ro := false) 3 (by simp) (by simp) ?_;refine sem_run 9000 _ ?_;simp;refine sem_dtd (delt_new L.delt (n := a)) (by first | exact D.les_refl _ | simp) (sem_run 9000 _ ?_);simp;refine sem_ret ?_;simp [M303];refine ⟨H.next + 1 + 1 + 1, H.next + 1 + 1, H.next + 1, rfl, ⟨?_, by simp, ⟨?_, ?_, by simp, by simp⟩⟩, sW, by omega, by omega, by omega⟩
 ·simp
 ·simp
 ·simp [stoD]
theorem tabl_add (L : HTabl p ext F) {bt bd bm : Nat} {gd : D} {t : Tb} {r : Row} {sp : Sp} {H : HpD} (h : TabAt H bt bd bm gd t) (hr : r.length < 1000000) (hs : t.s.length < 1000000) (hf : fitsB t.s r = true) (hl : 0 ≤ t.last ∧ t.last < 1000000000) (hn : findV t.l (t.last + 1) = none) (hm : (t.l.length : Int) < t.dmost) : Td p ext (F 304) [.ptr bt 0, rowD r, .agg sp.c] H (.tup [.lit (.int .i64 (t.last + 1)), .lit (.bool true)]) ((H.put bm (.map (some .i64) (stoD (putV ⟨t.last + 1, r, sp, hr⟩ t.l)))).put bt (.cells [schR t.s, .ptr bd 0, gd, .lit (.int .i64 t.gmost), .lit (.int .i64 (t.last + 1))] false)) := by
 refine td_of L.h304 (M := M304) rfl ok304 rfl ?_ ?_ (sem_run 9000 _ ?_)
 ·simp
 ·intro n;have hu := n.under bt;rw [h.tb] at hu;simp only [BD.under, D.unders] at hu;exact (n.put h.sto.lm sto_under).put (by simpa using h.lt) (by simp [BD.under]; exact ⟨h.sto.ld, hu.2.2.1⟩)
 have hw : wr .i64 (t.last + 1) = t.last + 1 := (by rw [wr_of] <;> omega);simp [h.tb, ltn h.lt];refine sem_dfn (schm_fits L.fit (s := t.s) (r := r) hs) (by first | exact D.les_refl _ | simp) (sem_run 9000 _ ?_);simp [hf, h.tb, ltn h.lt, hw];refine sem_dtd (delt_add L.delt (v := ⟨t.last + 1, r, sp, hr⟩) h.sto hn hm) (by first | exact D.les_refl _ | simp) (sem_run 9000 _ ?_);simp [h.tb, h.ne, hw];refine sem_ret ?_;simp [M304];have h1 := h.sto.lm;have h2 := h.lt;exact .le sW (D.le_refl _) (by simp)
theorem tabl_unfit (L : HTabl p ext F) {bt bd bm : Nat} {gd : D} {t : Tb} {r : Row} {sp : Sp} {H : HpD} (h : TabAt H bt bd bm gd t) (hs : t.s.length < 1000000) (hf : fitsB t.s r = false) : Td p ext (F 304) [.ptr bt 0, rowD r, .agg sp.c] H (.tup [.lit (.int .i64 0), .lit (.bool false)]) H := by
 refine td_of L.h304 (M := M304) rfl ok304 rfl (Nat.le_refl _) (fun h => h) (sem_run 9000 _ ?_);simp [h.tb, ltn h.lt];refine sem_dfn (schm_fits L.fit (s := t.s) (r := r) hs) (by first | exact D.les_refl _ | simp) (sem_run 9000 _ ?_);simp [hf];refine sem_ret ?_;simp [M304];exact .le sW (D.le_refl _) (by simp)
theorem tabl_full (L : HTabl p ext F) {bt bd bm : Nat} {gd : D} {t : Tb} {r : Row} {sp : Sp} {H : HpD} (h : TabAt H bt bd bm gd t) (hr : r.length < 1000000) (hs : t.s.length < 1000000) (hf : fitsB t.s r = true) (hl : 0 ≤ t.last ∧ t.last < 1000000000) (hn : findV t.l (t.last + 1) = none) (hm : ¬ (t.l.length : Int) < t.dmost) : Td p ext (F 304) [.ptr bt 0, rowD r, .agg sp.c] H (.tup [.lit (.int .i64 0), .lit (.bool false)]) H := by
 refine td_of L.h304 (M := M304) rfl ok304 rfl (Nat.le_refl _) (fun h => h) (sem_run 9000 _ ?_);simp [h.tb, ltn h.lt];have hw : wr .i64 (t.last + 1) = t.last + 1 := (by rw [wr_of] <;> omega);refine sem_dfn (schm_fits L.fit (s := t.s) (r := r) hs) (by first | exact D.les_refl _ | simp) (sem_run 9000 _ ?_);simp [hf, h.tb, ltn h.lt, hw];refine sem_dtd (delt_full L.delt (v := ⟨t.last + 1, r, sp, hr⟩) h.sto hn hm) (by first | exact D.les_refl _ | simp) (sem_run 9000 _ ?_);simp;refine sem_ret ?_;simp [M304];exact .le sW (D.le_refl _) (by simp)
abbrev TabN (H : HpD) (bt bd bm : Nat) (t : Tb) : Prop := TabAt H bt bd bm (.lit .nilslice) t
theorem tabl_find (L : HTabl p ext F) {bt bd bm : Nat} {t : Tb} {id : Int} {H : HpD} (h : TabN H bt bd bm t) : Td p ext (F 317) [.ptr bt 0, .lit (.int .i64 id)] H (.tup [.lit .nilptr, .lit (.int .i64 (-1))]) H := by
 refine td_of L.h317 (M := M317) rfl ok317 rfl (Nat.le_refl _) (fun h => h) (sem_run 9000 _ ?_);simp [h.tb];refine sem_loop (fun k fr H' => k = 0 ∧ fr = [(1, .lit (.int .i64 id)), (12, .lit .nilslice), (13, .lit (.int .i64 0)), (14, .lit (.int .i64 0))] ∧ H' = H) ?_ (k := 0) ⟨rfl, rfl, rfl⟩;rintro k fr H' ⟨rfl, rfl, rfl⟩;refine sem_run 9000 _ ?_;simp;refine sem_exit (sem_run 9000 _ ?_);simp;refine sem_ret ?_;simp [M317];exact .le sW (by simp [D.le]) (by simp)
theorem tabl_get (L : HTabl p ext F) {bt bd bm : Nat} {t : Tb} {id : Int} {H : HpD} (h : TabN H bt bd bm t) : Td p ext (F 306) [.ptr bt 0, .lit (.int .i64 id)] H (.tup [.agg ((findV t.l id).getD zVer).c, .lit (.bool (findV t.l id).isSome)]) H := by
 refine td_of L.h306 (M := M306) rfl ok306 rfl (Nat.le_refl _) (fun h => h) (sem_run 9000 _ ?_);simp;refine sem_td (tabl_find L (h.mono sR) (id := id)) (by first | exact D.les_refl _ | simp) (sem_run 9000 _ ?_);simp [h.tb, ltn h.lt];refine sem_td (delt_get L.delt (h.mono sR).sto (id := id)) (by first | exact D.les_refl _ | simp) (sem_run 9000 _ ?_);simp;refine sem_ret ?_;simp [M306];exact .le sW (D.le_refl _) (by simp)
theorem tabl_set (L : HTabl p ext F) {bt bd bm : Nat} {t : Tb} {id : Int} {s : Sp} {H : HpD} (h : TabN H bt bd bm t) : Td p ext (F 308) [.ptr bt 0, .lit (.int .i64 id), .agg s.c] H (.lit (.bool (findV t.l id).isSome)) (H.put bm (.map (some .i64) (stoD (setSp t.l id s)))) := by
 refine td_of L.h308 (M := M308) rfl ok308 rfl ?_ ?_ (sem_run 9000 _ ?_)
 ·simp
 ·exact fun n => n.put h.sto.lm sto_under
 simp;refine sem_td (tabl_find L h (id := id)) (by first | exact D.les_refl _ | simp) (sem_run 9000 _ ?_);simp [h.tb, ltn h.lt];refine sem_dtd (delt_set L.delt h.sto (id := id) (s := s)) (by first | exact D.les_refl _ | simp) (sem_run 9000 _ ?_);simp;refine sem_ret ?_;simp [M308];exact .le sW (D.le_refl _) (by simp)
theorem tabl_drop (L : HTabl p ext F) {bt bd bm : Nat} {gd : D} {t : Tb} {id : Int} {H : HpD} (h : TabAt H bt bd bm gd t) : Td p ext (F 309) [.ptr bt 0, .lit (.int .i64 id)] H (.lit (.bool (findV t.l id).isSome)) (H.put bm (.map (some .i64) (stoD (delV id t.l)))) := by
 refine td_of L.h309 (M := M309) rfl ok309 rfl ?_ ?_ (sem_run 9000 _ ?_)
 ·simp
 ·exact fun n => n.put h.sto.lm sto_under
 simp [h.tb];refine sem_td (delt_drop L.delt h.sto (id := id)) (by first | exact D.les_refl _ | simp) (sem_run 9000 _ ?_);simp;refine sem_ret ?_;simp [M309];exact .le sW (D.le_refl _) (by simp)
end Go.Lib
end

section
set_option maxRecDepth 10000
namespace Go.Lib
open Go.Vm Go.Dv
variable {p : Prog} {ext : Ext} {F : Nat → Nat}
structure HIDs (p : Prog) (ext : Ext) (F : Nat → Nat) : Prop where
 h322 : Has p ext F 322 M322
 h333 : Has p ext F 333 M333
 x334 : ∀ args h, ext (F 334) args h = sortedX (F 334) (F 336) (F 334) args h
theorem keys_wc (L : HIDs p ext F) {bm : Nat} {H : HpD} : WcD p ext (F 333) [.map bm] H fun d H' => d = .func (F 336) [] [.ptr H.next 0] ∧ H' = H.new (.cells [.map bm] false) := by
 refine wc_of L.h333 (M := M333) rfl ok333 rfl (sem_run 2 _ ?_);simp;refine sem_unfz (sem_run 9000 _ ?_);simp;refine sem_ret ?_;simp [M333]
def IdsOk (l : Sto) : Prop := (∀ v, v ∈ l → wr .i64 v.id = v.id) ∧ l.length ≤ 1000000
theorem delt_ids (L : HIDs p ext F) {bd bm : Nat} {most : Int} {l : Sto} {H : HpD} (h : StoAt H bd bm most l) (hi : IdsOk l) : WcD p ext (F 322) [.ptr bd 0] H (fun d H' => Gr H H' 1 d (intsE (idsF l))) := by
 refine wc_of L.h322 (M := M322) rfl ok322 rfl (sem_run 9000 _ ?_);simp [h.d];refine sem_call (keys_wc L) ?_;rintro d H' ⟨rfl, rfl⟩;refine sem_run 9000 _ ?_;simp;refine sem_call (sorted_wc L.x334 (bx := H.next) (bm := bm) (l := l) (by simp) (by simp [ltn h.lm, h.m]) hi.1 hi.2) fun d H' g => ?_;refine sem_run 9000 _ ?_;simp;refine sem_ret ?_;simp [M322];exact g.base sR
structure HPick (p : Prog) (ext : Ext) (F : Nat → Nat) : Prop where
 tabl : HTabl p ext F
 ids : HIDs p ext F
 pred : HPred p ext F
 h310 : Has p ext F 310 M310
 h311 : Has p ext F 311 M311
 h312 : Has p ext F 312 M312
 h323 : Has p ext F 323 M323
 h325 : Has p ext F 325 M325
 h326 : Has p ext F 326 M326
 x331 : ∀ args h, ext (F 331) args h = sortX (F 331) (F 331) args h
theorem idsF_ins {l : Sto} (h : IdsOk l) : Ins (idsF l) := ins_perm (sortI_perm _) fun x hx => by
 obtain ⟨v, hv, rfl⟩ := List.mem_map.1 hx;exact h.1 v hv
theorem sortI_eqOf {l m : List Int} (h : l.Perm m) : sortI l = sortI m := by
 refine List.Perm.eq_of_pairwise (le := fun a b : Int => a ≤ b) (fun a b _ _ h1 h2 => Int.le_antisymm h1 h2) (sortI_sorted l) (sortI_sorted m) (((sortI_perm l).trans h).trans (sortI_perm m).symm)
theorem sort_idsF {l : Sto} : sortI (idsF l) = idsF l := sortI_eqOf (sortI_perm _)
theorem idsF_len {l : Sto} : (idsF l).length = l.length := by unfold idsF; rw [sortI_len, List.length_map]
theorem clip_ints (L : Has p ext F 323 M323) {H0 H : HpD} {s : D} {l : List Int} (g : Gr H0 H 1 s (intsE l)) : WcD p ext (F 323) [s] H fun d H' => Gr H0 H' 1 d (intsE l) ∧ H' = H := by
 refine wc_of L (M := M323) rfl ok323 rfl (sem_run 9000 _ ?_);rcases g.at_ with ⟨rfl, he⟩ | ⟨b, ex, el0, rfl, h1, h2, h3, h4⟩
 ·simp [slc_nil];refine sem_ret ?_;simp [M323];exact g
 ·simp only [intsE_len];simp [slc_own];refine sem_ret ?_;simp [M323];exact ⟨g.sub, g.len, .inr ⟨b, true, el0, by simp, h1, h2, h3, h4⟩⟩
theorem tabl_ids (L : HPick p ext F) {bt bd bm : Nat} {t : Tb} {H : HpD} (h : TabN H bt bd bm t) (hi : IdsOk t.l) : WcD p ext (F 310) [.ptr bt 0] H (fun d H' => Gr H H' 1 d (intsE (idsF t.l))) := by
 refine wc_of L.h310 (M := M310) rfl ok310 rfl (sem_run 9000 _ ?_);simp [h.tb];refine sem_call (delt_ids L.ids h.sto hi) fun d H1 g => ?_;have h1 := h.mono g.sub;refine sem_run 9000 _ ?_;simp [h1.tb];refine sem_loop (fun k fr H' => k = 0 ∧ fr = [(3, d), (14, .lit .nilslice), (15, .lit (.int .i64 0)), (16, .lit (.int .i64 0))] ∧ H' = H1) ?_ (k := 0) ⟨rfl, rfl, rfl⟩;rintro k fr H' ⟨rfl, rfl, rfl⟩;refine sem_run 9000 _ ?_;simp;refine sem_exit (sem_run 3 _ ?_);simp;refine sem_exact g fun H2 gx k2 n2 => ?_;refine sem_run 9000 _ ?_;simp;refine sem_call (sort_wc L.x331 gx (idsF_ins hi) (by rw [idsF_len]; exact hi.2)) ?_
 rintro _ H3 ⟨rfl, gx3, k3, n3⟩;refine sem_run 9000 _ ?_;simp;refine sem_call (clip_ints L.h323 gx3.gr) ?_;rintro d4 H4 ⟨g4, rfl⟩;refine sem_run 9000 _ ?_;simp;refine sem_ret ?_;simp [M310];rw [sort_idsF] at g4;exact g4
def pkF (l : Sto) (f : Row → Bool) : List Int := (idsF l).filter fun id => f ((findV l id).getD zVer).row
theorem findV_mem {l : Sto} {id : Int} (h : id ∈ idsF l) : (findV l id).isSome = true := by
 have := (sortI_perm (l.map (·.id))).subset h;obtain ⟨v, hv, e⟩ := List.mem_map.1 this;unfold findV;rw [List.find?_isSome];exact ⟨v, hv, by simpa using e⟩
theorem pick_ins {l : Sto} (h : IdsOk l) {g : Int → Bool} : Ins ((idsF l).filter g) := fun x hx => idsF_ins h x (List.mem_filter.1 hx).1
theorem sort_pick {l : Sto} {g : Int → Bool} : sortI ((idsF l).filter g) = (idsF l).filter g := by
 refine List.Perm.eq_of_pairwise (le := fun a b : Int => a ≤ b) (fun a b _ _ h1 h2 => Int.le_antisymm h1 h2) (sortI_sorted _) ?_ (sortI_perm _);exact List.Pairwise.filter _ (sortI_sorted _)
def AskI (H : HpD) (bt : Nat) (l : Sto) (f : Row → Bool) (fr0 : FrD) (k : Nat) (fr : FrD) (H' : HpD) : Prop :=
 ∃ (i : Nat) (s : D), k = l.length - i ∧ i ≤ l.length ∧ fr = [(0, .ptr bt 0), (1, lk fr0 1), (2, lk fr0 2), (7, s), (21, intsD .p (idsF l)), (22, .lit (.int .i64 (l.length : Int))), (23, .lit (.int .i64 (i : Int)))] ∧ Gr H H' 1 s (intsE (((idsF l).take i).filter fun id => f ((findV l id).getD zVer).row))
theorem tabl_asked (L : HPick p ext F) {bt bd bm : Nat} {t : Tb} {at_ cap : D} {g : Nat} {f : Row → Bool} {H : HpD} (h : TabN H bt bd bm t) (hi : IdsOk t.l) (hf : ∀ r : Row, FnD p ext g [rowD r, cap] (.lit (.bool (f r)))) : WcD p ext (F 326) [.ptr bt 0, at_, .func g [] [cap]] H (fun d H' => Gr H H' 1 d (intsE (pkF t.l f))) := by
 refine wc_of L.h326 (M := M326) rfl ok326 rfl (sem_run 9000 _ ?_);simp [h.tb];refine sem_call (delt_ids L.ids h.sto hi) fun d H1 g1 => ?_;have e1 := g1.lenb;simp only [intsE_len, idsF_len] at e1;refine sem_run 9000 _ ?_;simp [e1];refine sem_turn_as [(0, .ptr bt 0), (1, at_), (2, .func g [] [cap]), (7, .lit .nilslice), (21, intsD .p (idsF t.l)), (22, .lit (.int .i64 (t.l.length : Int))), (23, .lit (.int .i64 0))] g1 21 (by simp) (by simp [frLe_cons, frLe_nil, lk, ints_row, D.le_refl]) fun H2 s2 k2 n2 => ?_;refine sem_loop (AskI H bt t.l f [(1, at_), (2, .func g [] [cap])]) ?_ (k := t.l.length) ⟨0, .lit .nilslice, by simp, by simp, rfl, .nil s2⟩
 rintro k fr H' ⟨i, s, rfl, hil, rfl, g2⟩;have h2 := h.mono g2.sub;refine sem_run 9000 _ ?_;simp
 have wi : wr .i64 ((i : Int) + 1) = ((i + 1 : Nat) : Int) := by have := hi.2; rw [wr_of] <;> omega
 by_cases c : i < t.l.length
 ·have ci : i < (idsF t.l).length := (by rw [idsF_len]; exact c);obtain ⟨id, hid⟩ : ∃ id, (idsF t.l)[i]? = some id := ⟨_, List.getElem?_eq_getElem ci⟩;obtain ⟨v, hv⟩ := Option.isSome_iff_exists.1 (findV_mem (List.mem_of_getElem? hid));have hid' : (idsF t.l)[i] = id := (List.getElem?_eq_some_iff.1 hid).2;simp [c, ci, hid', h2.tb];refine sem_td (delt_get L.tabl.delt h2.sto (id := id)) (by first | exact D.les_refl _ | simp) (sem_run 9000 _ ?_);simp [hv];refine sf (hf v.row) ?_
  have hsnoc : ((idsF t.l).take (i + 1)).filter (fun id => f ((findV t.l id).getD zVer).row) = ((idsF t.l).take i).filter (fun id => f ((findV t.l id).getD zVer).row) ++ (if f v.row = true then [id] else []) := by
   rw [List.take_add_one, hid, List.filter_append];simp [List.filter_cons, hv]
  cases hb : f v.row with
  | true =>
   simp;refine sem_push (g2.mono sR) rfl rfl (roomyD (by simp; have := List.length_filter_le (fun id => f ((findV t.l id).getD zVer).row) ((idsF t.l).take i); have := hi.2; rw [List.length_take] at *; omega) (by simp; have := List.length_filter_le (fun id => f ((findV t.l id).getD zVer).row) ((idsF t.l).take i); have := hi.2; rw [List.length_take] at *; omega)) fun s' H4 g4 _ _ => ?_;simp;refine sem_ok ?_;refine ⟨_, by omega, i + 1, s', rfl, by omega, by simp [wi, lk], ?_⟩;rw [hsnoc, if_pos hb];simpa [intsE] using g4
  | false =>
   simp;refine sem_ok ?_;refine ⟨_, by omega, i + 1, s, rfl, by omega, by simp [wi, lk], ?_⟩;rw [hsnoc, if_neg (by simp [hb]), List.append_nil];exact g2.mono sR
 ·have hil' : i = t.l.length := (by omega);subst hil';simp;refine sem_exit (sem_run 9000 _ ?_);rw [List.take_of_length_le (by rw [idsF_len]; exact Nat.le_refl _)] at g2;simp [h2.tb];refine sem_loop (fun k fr H'' => k = 0 ∧ fr = [(1, at_), (7, s), (51, .lit .nilslice), (52, .lit (.int .i64 0)), (53, .lit (.int .i64 0))] ∧ H'' = H') ?_ (k := 0) ⟨rfl, rfl, rfl⟩;rintro k fr H'' ⟨rfl, rfl, rfl⟩;refine sem_run 9000 _ ?_;simp;refine sem_exit (sem_run 3 _ ?_);simp;refine sem_exact g2 fun H2 gx k2 n2 => ?_;refine sem_run 9000 _ ?_;simp;refine sem_call (sort_wc L.x331 gx (pick_ins hi) (by have := List.length_filter_le (fun id => f ((findV t.l id).getD zVer).row) (idsF t.l); rw [idsF_len] at this; have := hi.2; omega)) ?_
  rintro _ H3 ⟨rfl, gx3, k3, n3⟩;refine sem_run 9000 _ ?_;simp;refine sem_call (clip_ints L.h323 gx3.gr) ?_;rintro d4 H4 ⟨g4, rfl⟩;refine sem_run 9000 _ ?_;simp;refine sem_ret ?_;simp [M326];rw [show sortI ((idsF t.l).filter fun id => f ((findV t.l id).getD zVer).row) = pkF t.l f from sort_pick] at g4;exact g4
theorem pick_is (L : HPick p ext F) {n : Nat} {q : Pr} {r : Row} (hq : PrS n q) : FnD p ext (F 325) [rowD r, .rptr q.c 0] (.lit (.bool (decide (evalF q r = 1)))) := by
 refine fn_of L.h325 (M := M325) rfl ok325 rfl fun H => sem_run 9000 _ ?_;simp;refine sf (pred_eval L.pred n q hq r) ?_;simp;refine sem_ret ?_;simp [M325];exact .le sR (D.le_refl _) (by simp)
theorem tabl_pick (L : HPick p ext F) {bt bd bm n : Nat} {t : Tb} {q : Pr} {H : HpD} (hq : PrS n q) (h : TabN H bt bd bm t) (hi : IdsOk t.l) : WcD p ext (F 311) [.ptr bt 0, .agg q.c] H (fun d H' => Gr H H' 1 d (intsE (pkF t.l fun r => decide (evalF q r = 1)))) := by
 refine wc_of L.h311 (M := M311) rfl ok311 rfl (sem_run 9000 _ ?_);simp;refine sem_call (tabl_asked L h hi (fun r => pick_is L hq (r := r))) fun d H' g => ?_;refine sem_run 9000 _ ?_;simp;refine sem_ret ?_;simp [M311];exact g
def keyP (k : Int) : Pr := .mk 2 0 1 ⟨false, 1, k, [], by simp⟩ []
theorem keyP_ok {k : Int} : PrS 1 (keyP k) := ⟨by simp [keyP, Pr.l], by simp [keyP, Pr.l]⟩
theorem tabl_keys (L : HPick p ext F) {bt bd bm : Nat} {t : Tb} {k : Int} {H : HpD} (h : TabN H bt bd bm t) (hi : IdsOk t.l) : WcD p ext (F 312) [.ptr bt 0, .lit (.int .i64 k)] H (fun d H' => Gr H H' 1 d (intsE (pkF t.l fun r => decide (evalF (keyP k) r = 1)))) := by
 refine wc_of L.h312 (M := M312) rfl ok312 rfl (sem_run 9000 _ ?_);simp;refine sem_call (WcD.args (tabl_pick L (keyP_ok (k := k)) h hi) (by simp [D.les, D.le, pr_c, keyP, Pr.kind, Pr.col, Pr.op, Pr.v, Pr.l, byD, byE, prsD])) fun d H' g => ?_;refine sem_run 9000 _ ?_;simp;refine sem_ret ?_;simp [M312];exact g
end Go.Lib
end

section
namespace Go.Lib
open Go.Vm Go.Dv
set_option maxRecDepth 100000
abbrev K359 (F : Nat → Nat) : KC := .seq (.region [⟨some 9,.a (.box (.tmp 4)),none⟩,⟨some 10,.p (.mov (.val (.nilslice))),none⟩,⟨some 11,.p (.mov (.val (.nilslice))),none⟩] [9] [0,1,2,3,9])
 (.seq (.region [mv 15 0,mv 16 1,mv 17 2,mv 18 3,ln 19 8 9,⟨some 20,.e (.call (F 361) [(.tmp 15),(.tmp 16),(.tmp 17),(.tmp 18),(.tmp 19),(.val (.func (F 337) [] []))]),none⟩,mv 14 20,et 21 14 0,et 22 14 1,mv 12 21,mv 13 22] [] [12,13])
 (.seq (.region [mv 23 12,⟨some 24,.e (.call (F 362) [(.tmp 23),(.val (.func (F 363) [] []))]),none⟩] [] [12,13])
 (.seq (.region [mv 25 12,mv 26 13,mv 10 25,mv 11 26] [] [10,11])
 (.ret))))
def M359 (F : Nat → Nat) : Fun := ⟨27,5,(K359 F).erase,[.tmp 10,.tmp 11]⟩
theorem ok359 {F : Nat → Nat} : (K359 F).ok = true := by kernel_rfl
abbrev K360 (F : Nat → Nat) : KC := .seq (.region [⟨some 9,.a (.box (.tmp 4)),none⟩,⟨some 10,.p (.mov (.val (.nilslice))),none⟩,⟨some 11,.p (.mov (.val (.nilslice))),none⟩] [9] [0,1,2,3,9])
 (.seq (.region [mv 18 0,mv 19 1,mv 20 2,mv 21 3,ln 22 8 9,⟨some 23,.e (.call (F 361) [(.tmp 18),(.tmp 19),(.tmp 20),(.tmp 21),(.tmp 22),(.val (.func (F 338) [] []))]),none⟩,mv 17 23,et 24 17 0,et 25 17 1,mv 12 24,mv 13 25] [] [12,13])
 (.seq (.region [⟨some 14,.p (.mov (.val (.nilslice))),none⟩] [] [12,13,14])
 (.seq (.seq (.region [mv 26 12,lb 27 26,mi 28 0] [] [13,14,26,27,28])
 (.block 0 (.loop (.seq (.region [bt 29 .lss 28 27] [] [13,14,26,27,28,29])
 (.seq (.cond (.tmp 29) (.skip)
 (.exit 0))
 (.seq (.block 1 (.seq (.region [ix 30 6 26 28,ln 31 6 30,⟨some 16,.a (.new [.int .i64 (.ofNat 0),.nilslice,.int .i64 (.ofNat 0),.int .i64 (.ofNat 0),.int .i64 (.ofNat 0),.int .i64 (.ofNat 0)]),none⟩,⟨none,.e (.store 6 (.tmp 16) (.tmp 31)),none⟩] [] [13,14,16,26,27,28])
 (.region [mv 32 14,fa 33 0 16,l1 34 33,⟨some 35,.a (.bslice [.int .i64 (.ofNat 0)] 1 1 [(0,1,(.tmp 34))]),none⟩,⟨some 36,.e (.append 1 8 (.tmp 32) (.tmp 35)),none⟩,mv 14 36] [35] [13,14,26,27,28])))
 (.region [bi 37 .add 28 1,mv 28 37] [] [13,14,26,27,28])))))))
 (.seq (.region [mv 38 14,⟨some 39,.e (.call (F 323) [(.tmp 38)]),none⟩,mv 40 13,mv 10 39,mv 11 40] [] [10,11])
 (.ret)))))
def M360 (F : Nat → Nat) : Fun := ⟨41,5,(K360 F).erase,[.tmp 10,.tmp 11]⟩
theorem ok360 {F : Nat → Nat} : (K360 F).ok = true := by kernel_rfl
abbrev K361 (F : Nat → Nat) : KC := .seq (.region [⟨some 10,.a (.box (.tmp 4)),none⟩,⟨some 12,.p (.mov (.val (.nilslice))),none⟩,⟨some 13,.p (.mov (.val (.nilslice))),none⟩] [10] [0,1,2,3,5,10])
 (.seq (.region [mv 23 1,⟨some 24,.e (.call (F 346) [(.tmp 23)]),none⟩,mv 14 24] [] [0,2,3,5,10,14])
 (.seq (.region [⟨some 15,.p (.mov (.val (.nilslice))),none⟩] [] [0,2,3,5,10,14,15])
 (.seq (.region [⟨some 16,.p (.mov (.val (.nilslice))),none⟩] [] [0,2,3,5,10,14,15,16])
 (.seq (.seq (.region [mv 25 0,ln 26 8 10,⟨some 27,.e (.call (F 311) [(.tmp 25),(.tmp 26)]),none⟩,lb 28 27,mi 29 0] [] [0,2,3,5,14,15,16,27,28,29])
 (.block 0 (.loop (.seq (.region [bt 30 .lss 29 28] [] [0,2,3,5,14,15,16,27,28,29,30])
 (.seq (.cond (.tmp 30) (.skip)
 (.exit 0))
 (.seq (.block 1 (.seq (.region [ix 31 1 27 29,l1 32 31,mv 18 32] [] [0,2,3,5,14,15,16,18,27,28,29])
 (.seq (.region [mv 34 0,mv 35 18,⟨some 36,.e (.call (F 306) [(.tmp 34),(.tmp 35)]),none⟩,mv 33 36,et 37 33 0,et 38 33 1,⟨some 19,.a (.new [.int .i64 (.ofNat 0),.nilslice,.int .i64 (.ofNat 0),.int .i64 (.ofNat 0),.int .i64 (.ofNat 0),.int .i64 (.ofNat 0)]),none⟩,⟨none,.e (.store 6 (.tmp 19) (.tmp 37)),none⟩,mv 20 38] [] [0,2,3,5,14,15,16,19,27,28,29])
 (.seq (.region [mv 40 5,fa 41 2 19,ln 42 4 41,mv 43 2,mv 44 3,mv 45 14,⟨some 46,.e (.callv (.tmp 40) [(.tmp 42),(.tmp 43),(.tmp 44),(.tmp 45)]),none⟩,mv 39 46,et 47 39 0,et 48 39 1,mv 21 47,mv 22 48] [] [0,2,3,5,14,15,16,19,21,22,27,28,29])
 (.seq (.region [mv 49 16,mv 50 22,⟨some 51,.e (.append 1 8 (.tmp 49) (.tmp 50)),none⟩,mv 16 51] [] [0,2,3,5,14,15,16,19,21,27,28,29])
 (.seq (.region [mv 52 21] [] [0,2,3,5,14,15,16,19,27,28,29,52])
 (.cond (.tmp 52) (.region [mv 53 15,ln 54 6 19,⟨some 55,.a (.bslice [.int .i64 (.ofNat 0),.nilslice,.int .i64 (.ofNat 0),.int .i64 (.ofNat 0),.int .i64 (.ofNat 0),.int .i64 (.ofNat 0)] 6 1 [(0,6,(.tmp 54))]),none⟩,⟨some 56,.e (.append 6 64 (.tmp 53) (.tmp 55)),none⟩,mv 15 56] [55] [0,2,3,5,14,15,16,27,28,29])
 (.skip))))))))
 (.region [bi 57 .add 29 1,mv 29 57] [] [0,2,3,5,14,15,16,27,28,29])))))))
 (.seq (.region [mv 58 16,⟨some 59,.e (.call (F 331) [(.tmp 58)]),none⟩] [] [15,16])
 (.seq (.region [mv 60 15,⟨some 61,.e (.call (F 364) [(.tmp 60)]),none⟩,mv 62 16,⟨some 63,.e (.call (F 356) [(.tmp 62)]),none⟩,⟨some 64,.e (.call (F 323) [(.tmp 63)]),none⟩,mv 12 61,mv 13 64] [] [12,13])
 (.ret)))))))
def M361 (F : Nat → Nat) : Fun := ⟨65,6,(K361 F).erase,[.tmp 12,.tmp 13]⟩
theorem ok361 {F : Nat → Nat} : (K361 F).ok = true := by kernel_rfl
abbrev K362 (F : Nat → Nat) : KC := .region [mv 4 0,mv 5 0,lb 6 5,mv 7 1,⟨some 8,.e (.call (F 365) [(.tmp 4),(.tmp 6),(.tmp 7)]),none⟩] [] []
def M362 (F : Nat → Nat) : Fun := ⟨9,2,(K362 F).erase,[]⟩
theorem ok362 {F : Nat → Nat} : (K362 F).ok = true := by kernel_rfl
abbrev K363 (F : Nat → Nat) : KC := .seq (.region [⟨some 2,.a (.box (.tmp 0)),none⟩,⟨some 3,.a (.box (.tmp 1)),none⟩,mi 4 0] [2,3] [2,3])
 (.seq (.dregion [⟨fa 5 1 2,0,2⟩,⟨l1 6 5,0,2⟩,⟨⟨some 7,.e (.call (F 3) [(.tmp 6),(.val (.int .i64 (.ofNat 0)))]),none⟩,0,5⟩,⟨fa 9 1 3,0,5⟩,⟨l1 10 9,0,5⟩,⟨⟨some 11,.e (.call (F 3) [(.tmp 10),(.val (.int .i64 (.ofNat 0)))]),none⟩,3,8⟩,⟨⟨some 8,.p (.field1 2 (.tmp 7)),none⟩,3,8⟩,⟨⟨some 12,.p (.field1 2 (.tmp 11)),none⟩,6,8⟩,⟨⟨some 13,.e (.call (F 10) [(.tmp 8),(.tmp 12)]),none⟩,6,13⟩,⟨fa 14 0 2,0,13⟩,⟨l1 15 14,0,13⟩,⟨fa 16 0 3,0,13⟩,⟨l1 17 16,0,13⟩,⟨⟨some 18,.e (.call (F 9) [(.tmp 15),(.tmp 17)]),none⟩,9,15⟩,⟨⟨some 19,.a (.bslice [.int .i64 (.ofNat 0),.int .i64 (.ofNat 0)] 1 2 [(0,1,(.tmp 13)),(1,1,(.tmp 18))]),none⟩,14,15⟩,⟨⟨some 20,.e (.call (F 366) [(.tmp 19)]),none⟩,14,17⟩,⟨mv 4 20,16,17⟩] [4])
 (.ret))
def M363 (F : Nat → Nat) : Fun := ⟨21,2,(K363 F).erase,[.tmp 4]⟩
theorem ok363 {F : Nat → Nat} : (K363 F).ok = true := by kernel_rfl
abbrev K364 (_F : Nat → Nat) : KC := .seq (.region [⟨some 2,.p (.mov (.val (.nilslice))),none⟩] [] [0])
 (.seq (.region [mv 3 0,mv 4 0,lb 5 4,mv 6 0,lb 7 6,⟨some 8,.p (.slc 6 (.tmp 3) none (some (.tmp 5)) (some (.tmp 7))),none⟩,mv 2 8] [] [2])
 (.ret))
def M364 (F : Nat → Nat) : Fun := ⟨9,1,(K364 F).erase,[.tmp 2]⟩
theorem ok364 {F : Nat → Nat} : (K364 F).ok = true := by kernel_rfl
abbrev K365 (F : Nat → Nat) : KC := .seq (.region [mi 6 20] [] [0,1,2,6])
 (.seq (.region [mv 10 6,mi 7 0,mv 8 10] [] [0,1,2,6,7,8])
 (.seq (.block 0 (.loop (.seq (.seq (.region [mv 11 8,mv 12 1,bt 13 .leq 11 12] [] [0,1,2,6,7,8,13])
 (.cond (.tmp 13) (.skip)
 (.exit 0)))
 (.block 1 (.seq (.region [mv 14 0,mv 15 7,mv 16 8,mv 17 2,⟨some 18,.e (.call (F 367) [(.tmp 14),(.tmp 15),(.tmp 16),(.tmp 17)]),none⟩] [] [0,1,2,6,8])
 (.seq (.region [mv 19 8,mv 7 19] [] [0,1,2,6,7,8])
 (.region [mv 20 8,mv 21 6,bt 22 .add 20 21,mv 8 22] [] [0,1,2,6,7,8])))))))
 (.seq (.region [mv 23 0,mv 24 7,mv 25 1,mv 26 2,⟨some 27,.e (.call (F 367) [(.tmp 23),(.tmp 24),(.tmp 25),(.tmp 26)]),none⟩] [] [0,1,2,6])
 (.block 2 (.loop (.seq (.seq (.region [mv 28 6,mv 29 1,bt 30 .lss 28 29] [] [0,1,2,6,30])
 (.cond (.tmp 30) (.skip)
 (.exit 2)))
 (.block 3 (.seq (.region [mv 31 6,⟨some 32,.p (.bin .mul (.val (.int .i64 (.ofNat 2))) (.tmp 31)),none⟩,mi 7 0,mv 8 32] [] [0,1,2,6,7,8])
 (.seq (.block 4 (.loop (.seq (.seq (.region [mv 33 8,mv 34 1,bt 35 .leq 33 34] [] [0,1,2,6,7,8,35])
 (.cond (.tmp 35) (.skip)
 (.exit 4)))
 (.block 5 (.seq (.region [mv 36 0,mv 37 7,mv 38 7,mv 39 6,bt 40 .add 38 39,mv 41 8,mv 42 2,⟨some 43,.e (.call (F 368) [(.tmp 36),(.tmp 37),(.tmp 40),(.tmp 41),(.tmp 42)]),none⟩] [] [0,1,2,6,8])
 (.seq (.region [mv 44 8,mv 7 44] [] [0,1,2,6,7,8])
 (.region [mv 45 8,mv 46 6,⟨some 47,.p (.bin .mul (.val (.int .i64 (.ofNat 2))) (.tmp 46)),none⟩,bt 48 .add 45 47,mv 8 48] [] [0,1,2,6,7,8])))))))
 (.seq (.seq (.region [mv 49 7,mv 50 6,bt 51 .add 49 50,mv 9 51] [] [0,1,2,6,7,9])
 (.seq (.region [mv 52 9,mv 53 1,bt 54 .lss 52 53] [] [0,1,2,6,7,9,54])
 (.cond (.tmp 54) (.region [mv 55 0,mv 56 7,mv 57 9,mv 58 1,mv 59 2,⟨some 60,.e (.call (F 368) [(.tmp 55),(.tmp 56),(.tmp 57),(.tmp 58),(.tmp 59)]),none⟩] [] [0,1,2,6])
 (.skip))))
 (.region [mv 61 6,bi 62 .mul 61 2,mv 6 62] [] [0,1,2,6])))))))))))
def M365 (F : Nat → Nat) : Fun := ⟨63,3,(K365 F).erase,[]⟩
theorem ok365 {F : Nat → Nat} : (K365 F).ok = true := by kernel_rfl
abbrev K366 (_F : Nat → Nat) : KC := .seq (.region [mi 2 0] [] [0])
 (.seq (.region [mi 3 0] [] [0,3])
 (.seq (.seq (.region [mv 6 0,lb 7 6,mi 8 0] [] [3,6,7,8])
 (.block 0 (.loop (.seq (.region [bt 9 .lss 8 7] [] [3,6,7,8,9])
 (.seq (.cond (.tmp 9) (.skip)
 (.exit 0))
 (.seq (.block 1 (.seq (.region [ix 10 1 6 8,l1 11 10,mv 5 11] [] [3,5,6,7,8])
 (.seq (.region [mv 12 5,mv 13 3,bt 14 .neq 12 13] [] [3,5,6,7,8,14])
 (.cond (.tmp 14) (.seq (.region [mv 15 5,mv 2 15] [] [2])
 (.ret))
 (.skip)))))
 (.region [bi 16 .add 8 1,mv 8 16] [] [3,6,7,8])))))))
 (.seq (.region [mv 17 3,mv 2 17] [] [2])
 (.ret))))
def M366 (F : Nat → Nat) : Fun := ⟨18,1,(K366 F).erase,[.tmp 2]⟩
theorem ok366 {F : Nat → Nat} : (K366 F).ok = true := by kernel_rfl
abbrev K367 (_F : Nat → Nat) : KC := .seq (.region [mv 10 1,bi 11 .add 10 1,mv 8 11] [] [0,1,2,3,8])
 (.block 0 (.loop (.seq (.seq (.region [mv 12 8,mv 13 2,bt 14 .lss 12 13] [] [0,1,2,3,8,14])
 (.cond (.tmp 14) (.skip)
 (.exit 0)))
 (.seq (.block 1 (.seq (.region [mv 17 8,mv 9 17] [] [0,1,2,3,8,9])
 (.block 2 (.loop (.seq (.seq (.dregion [⟨mv 18 9,0,14⟩,⟨mv 19 1,0,14⟩,⟨bt 20 .gtr 18 19,0,14⟩,⟨mv 21 20,0,14⟩,⟨⟨some 22,.p (.mov (.tmp 3)),(some (21,true))⟩,0,14⟩,⟨⟨some 23,.p (.mov (.tmp 0)),(some (21,true))⟩,0,14⟩,⟨⟨some 24,.p (.mov (.tmp 9)),(some (21,true))⟩,0,14⟩,⟨⟨some 25,.p (.iaddr 6 (.tmp 23) (.tmp 24)),(some (21,true))⟩,0,14⟩,⟨⟨some 26,.loadn 6 (.tmp 25),(some (21,true))⟩,0,14⟩,⟨⟨some 27,.p (.mov (.tmp 0)),(some (21,true))⟩,0,14⟩,⟨⟨some 28,.p (.mov (.tmp 9)),(some (21,true))⟩,0,14⟩,⟨⟨some 29,.p (.bin .sub (.tmp 28) (.val (.int .i64 (.ofNat 1)))),(some (21,true))⟩,0,14⟩,⟨⟨some 30,.p (.iaddr 6 (.tmp 27) (.tmp 29)),(some (21,true))⟩,0,14⟩,⟨⟨some 31,.loadn 6 (.tmp 30),(some (21,true))⟩,0,14⟩,⟨⟨some 32,.e (.callv (.tmp 22) [(.tmp 26),(.tmp 31)]),(some (21,true))⟩,0,17⟩,⟨⟨some 33,.p (.bin .lss (.tmp 32) (.val (.int .i64 (.ofNat 0)))),(some (21,true))⟩,15,17⟩,⟨⟨some 34,.p (.pick (.tmp 21) (.tmp 33) (.val (.bool false))),none⟩,15,17⟩] [0,1,2,3,8,9,34])
 (.cond (.tmp 34) (.skip)
 (.exit 2)))
 (.seq (.block 3 (.dregion [⟨mv 37 0,0,12⟩,⟨mv 38 9,0,12⟩,⟨mv 42 0,0,12⟩,⟨mv 43 9,0,12⟩,⟨bi 44 .sub 43 1,0,12⟩,⟨ix 45 6 42 44,0,12⟩,⟨ln 46 6 45,0,12⟩,⟨mv 47 0,0,12⟩,⟨mv 48 9,0,12⟩,⟨ix 49 6 47 48,0,12⟩,⟨ln 50 6 49,0,12⟩,⟨ix 51 6 37 38,0,12⟩,⟨⟨none,.e (.store 6 (.tmp 51) (.tmp 46)),none⟩,0,17⟩,⟨mv 39 0,0,17⟩,⟨mv 40 9,0,17⟩,⟨bi 41 .sub 40 1,0,17⟩,⟨ix 52 6 39 41,13,17⟩,⟨⟨none,.e (.store 6 (.tmp 52) (.tmp 50)),none⟩,13,18⟩] [0,1,2,3,8,9]))
 (.region [mv 35 9,bi 36 .sub 35 1,mv 9 36] [] [0,1,2,3,8,9])))))))
 (.region [mv 15 8,bi 16 .add 15 1,mv 8 16] [] [0,1,2,3,8])))))
def M367 (F : Nat → Nat) : Fun := ⟨53,4,(K367 F).erase,[]⟩
theorem ok367 {F : Nat → Nat} : (K367 F).ok = true := by kernel_rfl
end Go.Lib
end

section
set_option maxRecDepth 10000
namespace Go.Lib
open Go.Vm Go.Dv
variable {p : Prog} {ext : Ext} {F : Nat → Nat}
def versE (l : List Ver) : List (List D) := l.map Ver.c
theorem versE_len {l : List Ver} : (versE l).length = l.length := by simp [versE]
theorem versE_6 {l : List Ver} : ∀ e, e ∈ versE l → e.length = 6 := by simp [versE]
attribute [simp] versE_len
theorem append_nil2 {sz by_ : Nat} {H : HpD} : appendD sz by_ H (.lit .nilslice) (.lit .nilslice) = some (.lit .nilslice, H) := rfl
attribute [simp] append_nil2
structure HView (p : Prog) (ext : Ext) (F : Nat → Nat) : Prop where
 pick : HPick p ext F
 stam : HStam p ext F
 txns : HTxns p ext F
 h360 : Has p ext F 360 M360
 h361 : Has p ext F 361 M361
 h364 : Has p ext F 364 M364
def visF (l : Sto) (q : Pr) (f : Sp → Bool) : List Ver := ((pkF l fun r => decide (evalF q r = 1)).map fun id => (findV l id).getD zVer).filter fun v => f v.sp
structure TbAt (H : HpD) (bt bd bm bb : Nat) (s : D) (t : Tb) (k : Bk) : Prop where
 tb : TabN H bt bd bm t
 b : BkAt H bb s k
 ids : IdsOk t.l
 txs : k.l.length < 1000000
theorem TbAt.mono {H H' : HpD} {bt bd bm bb : Nat} {s : D} {t : Tb} {k : Bk} (h : TbAt H bt bd bm bb s t k) (hs : Sub H H') : TbAt H' bt bd bm bb s t k := ⟨h.tb.mono hs, h.b.mono hs, h.ids, h.txs⟩
def ThI (H : HpD) (bt : Nat) (fv : D) (me at_ : Int) (txs : List Tx) (l : Sto) (ids : List Int) (f : Sp → Bool) (w : Nat) (fr : FrD) (H' : HpD) : Prop :=
 ∃ (i : Nat) (s : D), w = ids.length - i ∧ i ≤ ids.length ∧ fr = [(0, .ptr bt 0), (2, .lit (.int .i64 me)), (3, .lit (.int .i64 at_)), (5, fv), (14, txsD txs), (15, s), (16, .lit .nilslice), (27, intsD .p ids), (28, .lit (.int .i64 (ids.length : Int))), (29, .lit (.int .i64 (i : Int)))] ∧
  Gr H H' 6 s (versE (((ids.take i).map fun id => (findV l id).getD zVer).filter fun v => f v.sp))
theorem clip_nil64 (L : Has p ext F 323 M323) : FnD p ext (F 323) [.lit .nilslice] (.lit .nilslice) := by
 refine fn_of L (M := M323) rfl ok323 rfl fun H => sem_run 9000 _ ?_;simp [slc_nil];refine sem_ret ?_;simp [M323];exact .le sR (D.le_refl _) (by simp)
theorem clip_vers (L : Has p ext F 364 M364) {H0 H : HpD} {s : D} {el : List (List D)} (g : Gr H0 H 6 s el) : WcD p ext (F 364) [s] H fun d H' => Gr H0 H' 6 d el ∧ H' = H := by
 refine wc_of L (M := M364) rfl ok364 rfl (sem_run 9000 _ ?_);rcases g.at_ with ⟨rfl, he⟩ | ⟨b, ex, el0, rfl, h1, h2, h3, h4⟩
 ·simp [slc_nil];refine sem_ret ?_;simp [M364];exact g
 ·simp [slc_own];refine sem_ret ?_;simp [M364];exact ⟨g.sub, g.len, .inr ⟨b, true, el0, rfl, h1, h2, h3, h4⟩⟩
theorem view_there (L : HView p ext F) {bt bd bm bb n g : Nat} {sb : D} {t : Tb} {k : Bk} {q : Pr} {me at_ : Int} {f : Sp → Bool} {H : HpD} (h : TbAt H bt bd bm bb sb t k) (hq : PrS n q) (hf : ∀ s : Sp, FnD p ext g [.agg s.c, .lit (.int .i64 me), .lit (.int .i64 at_), txsD k.l] (.tup [.lit (.bool (f s)), .lit .nilslice])) : WcD p ext (F 361) [.ptr bt 0, .ptr bb 0, .lit (.int .i64 me), .lit (.int .i64 at_), .agg q.c, .func g [] []] H (fun d H' => ∃ s, d = .tup [s, .lit .nilslice] ∧ Gr H H' 6 s (versE (visF t.l q f))) := by
 refine wc_of L.h361 (M := M361) rfl ok361 rfl (sem_run 9000 _ ?_);simp;refine sem_td (txns_all L.txns h.b h.txs) (by first | exact D.les_refl _ | simp) (sem_run 9000 _ ?_);simp;refine sem_call (tabl_pick L.pick hq h.tb h.ids) fun d H1 g1 => ?_;have e1 := g1.lenb;simp only [intsE_len] at e1;refine sem_run 9000 _ ?_;simp [e1];refine sem_turn_as [(0, .ptr bt 0), (2, .lit (.int .i64 me)), (3, .lit (.int .i64 at_)), (5, .func g [] []), (14, txsD k.l), (15, .lit .nilslice), (16, .lit .nilslice), (27, intsD .p (pkF t.l fun r => decide (evalF q r = 1))), (28, .lit (.int .i64 ((pkF t.l fun r => decide (evalF q r = 1)).length : Int))), (29, .lit (.int .i64 0))] g1 27 (by simp) (by simp [frLe_cons, frLe_nil, lk, ints_row, D.le_refl]) fun H2 s2 k2 n2 => ?_
 have hids : ∀ id, id ∈ pkF t.l (fun r => decide (evalF q r = 1)) → id ∈ idsF t.l := fun id hm => (List.mem_filter.1 hm).1
 have hlen : (pkF t.l fun r => decide (evalF q r = 1)).length ≤ 1000000 := by
  unfold pkF;refine Nat.le_trans (List.length_filter_le _ _) ?_;rw [idsF_len]; exact h.ids.2
 have hv0 : visF t.l q f = ((pkF t.l fun r => decide (evalF q r = 1)).map fun id => (findV t.l id).getD zVer).filter fun v => f v.sp := rfl;generalize pkF t.l (fun r => decide (evalF q r = 1)) = ids at hids hlen hv0;rw [hv0];refine sem_loop (ThI H bt (.func g [] []) me at_ k.l t.l ids f) ?_ (k := ids.length) ⟨0, .lit .nilslice, by simp, by simp, rfl, .nil s2⟩;rintro w fr H' ⟨i, s, rfl, hil, rfl, g2⟩;have h2 := h.mono g2.sub;refine sem_run 9000 _ ?_;simp
 have wi : wr .i64 ((i : Int) + 1) = ((i + 1 : Nat) : Int) := by rw [wr_of] <;> omega
 by_cases c : i < ids.length
 ·obtain ⟨id, hid⟩ : ∃ id, ids[i]? = some id := ⟨_, List.getElem?_eq_getElem c⟩;obtain ⟨v, hv⟩ := Option.isSome_iff_exists.1 (findV_mem (hids id (List.mem_of_getElem? hid)));have hid' : ids[i] = id := (List.getElem?_eq_some_iff.1 hid).2;simp [c, hid'];refine sem_td (tabl_get L.pick.tabl h2.tb (id := id)) (by first | exact D.les_refl _ | simp) (sem_run 9000 _ ?_);simp [hv];refine sf (hf v.sp) ?_;simp
  have hsn : ((ids.take (i + 1)).map fun id => (findV t.l id).getD zVer).filter (fun v => f v.sp) = ((ids.take i).map fun id => (findV t.l id).getD zVer).filter (fun v => f v.sp) ++ (if f v.sp = true then [v] else []) := by
   rw [List.take_add_one, hid, List.map_append, List.filter_append];simp [List.filter_cons, hv]
  have hln : (((ids.take i).map fun id => (findV t.l id).getD zVer).filter fun v => f v.sp).length ≤ i := by
   refine Nat.le_trans (List.length_filter_le _ _) ?_;rw [List.length_map, List.length_take]; omega
  cases hb : f v.sp with
  | true =>
   simp;refine sem_push (g2.mono sR) rfl rfl (roomyD (by simp only [versE_len]; omega) (by simp only [versE_len]; omega)) fun s' H4 g4 _ _ => ?_;simp;refine sem_ok ?_;refine ⟨_, by omega, i + 1, s', rfl, by omega, by simp [wi], ?_⟩;rw [hsn, if_pos hb];simpa [versE] using g4
  | false =>
   simp;refine sem_ok ?_;refine ⟨_, by omega, i + 1, s, rfl, by omega, by simp [wi], ?_⟩;rw [hsn, if_neg (by simp [hb]), List.append_nil];exact g2.mono sR
 ·have hie : i = ids.length := (by omega);subst hie;simp;refine sem_exit (sem_run 9000 _ ?_);rw [List.take_length] at g2;simp;refine sem_call (sort_wc L.pick.x331 (H0 := H') (l := []) ⟨.nil .refl, .inl ⟨rfl, rfl⟩⟩ (fun _ h => by cases h) (by simp)) ?_;rintro _ H3 ⟨rfl, gx, k3, n3⟩;have g3 := g2.mono gx.gr.sub;refine sem_run 9000 _ ?_;simp;refine sem_call (clip_vers L.h364 g3) ?_;rintro d4 H4 ⟨g4, rfl⟩;refine sem_run 9000 _ ?_;simp;refine sf (compact_nil L.stam) ?_;simp;refine sf (clip_nil64 L.pick.h323) ?_;simp;refine sem_ret ?_;simp [M361];exact g4
def BaI (H : HpD) (l : List Ver) (w : Nat) (fr : FrD) (H' : HpD) : Prop :=
 ∃ (i : Nat) (s : D), w = l.length - i ∧ i ≤ l.length ∧ fr = [(13, .lit .nilslice), (14, s), (26, .row 6 .p (versE l)), (27, .lit (.int .i64 (l.length : Int))), (28, .lit (.int .i64 (i : Int)))] ∧ Gr H H' 1 s (intsE ((l.take i).map (·.id)))
theorem view_base (L : HView p ext F) {bt bd bm bb n : Nat} {sb : D} {t : Tb} {k : Bk} {q : Pr} {me at_ : Int} {H : HpD} (h : TbAt H bt bd bm bb sb t k) (hq : PrS n q) (hc : Calm k.l me) : WcD p ext (F 360) [.ptr bt 0, .ptr bb 0, .lit (.int .i64 me), .lit (.int .i64 at_), .agg q.c] H (fun d H' => ∃ s, d = .tup [s, .lit .nilslice] ∧ Gr H H' 1 s (intsE ((visF t.l q fun s => seesF k.l s me at_ false).map (·.id)))) := by
 refine wc_of L.h360 (M := M360) rfl ok360 rfl (sem_run 9000 _ ?_);simp;refine sem_call (WcD.args (view_there L h hq fun s => stam_Base L.stam h.txs hc (s := s) (at_ := at_)) (by simp [D.les])) ?_;rintro _ H1 ⟨s, rfl, g1⟩;have e1 := g1.lenb;simp only [versE_len] at e1
 have hln : (visF t.l q fun s => seesF k.l s me at_ false).length ≤ 1000000 := by
  unfold visF pkF;refine Nat.le_trans (List.length_filter_le _ _) ?_;rw [List.length_map];refine Nat.le_trans (List.length_filter_le _ _) ?_;rw [idsF_len]; exact h.ids.2
 generalize visF t.l q (fun s => seesF k.l s me at_ false) = vs at g1 e1 hln;refine sem_run 9000 _ ?_;simp [e1];refine sem_turn_as [(13, .lit .nilslice), (14, .lit .nilslice), (26, .row 6 .p (versE vs)), (27, .lit (.int .i64 (vs.length : Int))), (28, .lit (.int .i64 0))] g1 26 (by simp) (by simp [frLe_cons, frLe_nil, lk, D.le_refl]) fun H2 s2 k2 n2 => ?_;refine sem_loop (BaI H vs) ?_ (k := vs.length) ⟨0, .lit .nilslice, by simp, by simp, rfl, .nil s2⟩;rintro w fr H' ⟨i, s', rfl, hil, rfl, g2⟩;refine sem_run 9000 _ ?_;simp
 have wi : wr .i64 ((i : Int) + 1) = ((i + 1 : Nat) : Int) := by rw [wr_of] <;> omega
 by_cases c : i < vs.length
 ·obtain ⟨v, hv⟩ : ∃ v, vs[i]? = some v := ⟨_, List.getElem?_eq_getElem c⟩;have hve : (versE vs)[i]? = some v.c := (by simp [versE, hv]);simp [c, hve, -getElem?_pos];refine sem_push (g2.mono sR) rfl rfl (roomyD (by simp only [intsE_len, List.length_map, List.length_take]; omega) (by simp only [intsE_len, List.length_map, List.length_take]; omega)) fun s2 H4 g4 _ _ => ?_;simp;refine sem_ok ?_;refine ⟨_, by omega, i + 1, s2, rfl, by omega, by simp [wi], ?_⟩;rw [List.take_add_one, hv];simpa [intsE] using g4
 ·have hie : i = vs.length := (by omega);subst hie;simp;refine sem_exit (sem_run 9000 _ ?_);rw [List.take_length] at g2;simp;refine sem_call (clip_ints L.pick.h323 g2) ?_;rintro d4 H4 ⟨g4, rfl⟩;refine sem_run 9000 _ ?_;simp;refine sem_ret ?_;simp [M360];exact g4
end Go.Lib
end

section
set_option maxRecDepth 10000
namespace Go.Lib
open Go.Vm Go.Dv
variable {p : Prog} {ext : Ext} {F : Nat → Nat}
structure HRows (p : Prog) (ext : Ext) (F : Nat → Nat) : Prop where
 view : HView p ext F
 schm : HSchmK p ext F
 h359 : Has p ext F 359 M359
 h362 : Has p ext F 362 M362
 h363 : Has p ext F 363 M363
 h365 : Has p ext F 365 M365
 h366 : Has p ext F 366 M366
 h367 : Has p ext F 367 M367
def OrI (H : HpD) (a b : Int) (w : Nat) (fr : FrD) (H' : HpD) : Prop :=
 ∃ i : Nat, w = 2 - i ∧ i ≤ 2 ∧ (0 < i → a = 0) ∧ (1 < i → b = 0) ∧ fr = [(3, .lit (.int .i64 0)), (6, intsD .p [a, b]), (7, .lit (.int .i64 2)), (8, .lit (.int .i64 (i : Int)))] ∧ H' = H
theorem cmp_or (L : HRows p ext F) {a b : Int} : FnD p ext (F 366) [intsD .p [a, b]] (.lit (.int .i64 (if a ≠ 0 then a else b))) := by
 refine fn_of L.h366 (M := M366) rfl ok366 rfl fun H => sem_run 9000 _ ?_;simp;refine sem_loop (OrI H a b) ?_ (k := 2) ⟨0, rfl, by omega, by simp, by simp, rfl, rfl⟩;rintro w fr H' ⟨i, rfl, hi, ha, hb, rfl, rfl⟩;have w1 : wr .i64 1 = 1 := (by decide);have w2 : wr .i64 2 = 2 := (by decide);refine sem_run 9000 _ ?_;simp;rcases (by omega : i = 0 ∨ i = 1 ∨ i = 2) with rfl | rfl | rfl
 ·by_cases h : a = 0
  ·have h' : (a = 0) = True := eq_true h;simp [h'];refine sem_ok ?_;exact ⟨1, by omega, 1, rfl, by omega, fun _ => h, by simp, by simp [w1], rfl⟩
  ·simp [h];refine sem_ret ?_;simp;refine sem_ret ?_;simp [M366];exact .le sR (D.le_refl _) (by simp)
 ·have h0 := ha (by omega)
  by_cases h : b = 0
  ·have h' : (b = 0) = True := eq_true h;simp [h'];refine sem_ok ?_;simp;exact ⟨2, rfl, by omega, fun _ => h0, fun _ => h, by simp [w2], rfl⟩
  ·simp [h];refine sem_ret ?_;simp;refine sem_ret ?_;simp [M366, h0];exact .le sR (D.le_refl _) (by simp)
 ·have h0 := ha (by omega);have h1 := hb (by omega);simp;refine sem_exit (sem_run 9000 _ ?_);simp;refine sem_ret ?_;simp [M366, h0, h1];exact .le sR (D.le_refl _) (by simp)
def cmpVer (a b : Ver) : Int := if cmpI (atV a.row 0).n (atV b.row 0).n ≠ 0 then cmpI (atV a.row 0).n (atV b.row 0).n else cmpI a.id b.id
theorem rows_cmp (L : HRows p ext F) {a b : Ver} : FnD p ext (F 363) [.agg a.c, .agg b.c] (.lit (.int .i64 (cmpVer a b))) := by
 refine fn_of L.h363 (M := M363) rfl ok363 rfl fun H => sem_run 9000 _ ?_;simp;have S := L.schm;refine sem_dfn (schm_at S (r := a.row) (c := 0)) (by first | exact D.les_refl _ | simp) (sem_run 9000 _ ?_);simp;refine sem_dfn (schm_at S (r := b.row) (c := 0)) (by first | exact D.les_refl _ | simp) (sem_run 9000 _ ?_);simp;refine sem_dfn (compare_int64 S (a := (atV a.row 0).n) (b := (atV b.row 0).n)) (by first | exact D.les_refl _ | simp) (sem_run 9000 _ ?_);simp;refine sem_dfn (compare_int S (a := a.id) (b := b.id)) (by first | exact D.les_refl _ | simp) (sem_run 9000 _ ?_);simp;have g := Gr.lit (el := intsE [cmpI (atV a.row 0).n (atV b.row 0).n, cmpI a.id b.id]) (sz := 1) (H := H) (ex := true) (c := [.lit (.int .i64 (cmpI (atV a.row 0).n (atV b.row 0).n)), .lit (.int .i64 (cmpI a.id b.id))]) (n := 2) Sub.refl intsE_one rfl rfl
 refine sem_dcall (wc_own g (cmp_or L)) ?_;rintro _ H2 ⟨rfl, s2, _, _⟩;refine sem_run 9000 _ ?_;simp;refine sem_ret ?_;simp [M363];exact .le s2 (by simp [cmpVer]) (by simp)
def SrtV (X : List Ver) : Prop := ∀ (i : Nat) (x y : Ver), X[i]? = some x → X[i + 1]? = some y → ¬ cmpVer y x < 0
abbrev sl6 (bs n c : Nat) (ex : Bool) : D := .slice bs 0 6 n c ex
def Ins6 (H : HpD) (bs n c : Nat) (ex : Bool) (cv : D) (a b w : Nat) (fr : FrD) (H' : HpD) : Prop :=
 ∃ i : Nat, w = b + 1 - i ∧ a < i ∧ i ≤ max b (a + 1) ∧ fr = [(0, sl6 bs n c ex), (1, .lit (.int .i64 (a : Int))), (2, .lit (.int .i64 (b : Int))), (3, cv), (8, .lit (.int .i64 (i : Int)))] ∧ H' = H
theorem insertion6 (L : HRows p ext F) {bs c : Nat} {ex : Bool} {X : List Ver} {H : HpD} (hb : H.blk bs = .cells (versE X).flatten false) (hbs : bs < H.next) (hX : X.length < 1000000) (hs : SrtV X) {a b : Nat} (hab : a ≤ b) (hbl : b ≤ X.length) : Td p ext (F 367) [sl6 bs X.length c ex, .lit (.int .i64 (a : Int)), .lit (.int .i64 (b : Int)), .func (F 363) [] []] H (.tup []) H := by
 refine td_of L.h367 (M := M367) rfl ok367 rfl (Nat.le_refl _) (fun h => h) (sem_run 9000 _ ?_);have w1 : wr .i64 ((a : Int) + 1) = ((a + 1 : Nat) : Int) := (by rw [wr_of] <;> omega);simp [w1, -Int.natCast_add];refine sem_loop (Ins6 H bs X.length c ex (.func (F 363) [] []) a b) ?_ (k := b + 1 - (a + 1)) ⟨a + 1, rfl, by omega, by omega, rfl, rfl⟩;rintro w fr H' ⟨i, rfl, hai, hib, rfl, rfl⟩;refine sem_run 9000 _ ?_;simp
 by_cases c1 : i < b
 ·simp [c1];have w4 : wr .i64 ((i : Int) + 1) = ((i + 1 : Nat) : Int) := (by rw [wr_of] <;> omega);have w5 : wr .i64 ((i : Int) - 1) = ((i - 1 : Nat) : Int) := (by rw [wr_of] <;> omega);refine sem_loop (fun w fr H'' => w = 0 ∧ fr = [(0, sl6 bs X.length c ex), (1, .lit (.int .i64 (a : Int))), (2, .lit (.int .i64 (b : Int))), (3, .func (F 363) [] []), (8, .lit (.int .i64 (i : Int))), (9, .lit (.int .i64 (i : Int)))] ∧ H'' = H') ?_ (k := 0) ⟨rfl, rfl, rfl⟩;rintro w fr H'' ⟨rfl, rfl, rfl⟩;obtain ⟨x, hx⟩ : ∃ x, X[i - 1]? = some x := ⟨_, List.getElem?_eq_getElem (by omega)⟩;obtain ⟨y, hy⟩ : ∃ y, X[i]? = some y := ⟨_, List.getElem?_eq_getElem (by omega)⟩
  have hxe : (versE X)[i - 1]? = some x.c := (by simp [versE, hx]);have hye : (versE X)[i]? = some y.c := (by simp [versE, hy]);have fx := flat_slice versE_6 hxe;have fy := flat_slice versE_6 hye;have hl1 : i < X.length := (by omega);have hl2 : i - 1 < X.length := (by omega);have hfl : (versE X).flatten.length = X.length * 6 := (by rw [flatten_len versE_6, versE_len]);have hl3 : i * 6 + 6 ≤ (versE X).flatten.length := (by omega);have hl4 : (i - 1) * 6 + 6 ≤ (versE X).flatten.length := (by omega);have hc := hs (i - 1) x y hx (by rw [show i - 1 + 1 = i by omega]; exact hy);refine sem_run 9000 _ ?_
  simp;simp [hai, w5, hl1, hl2, hb, hl3, hl4, fx, fy, hbs, -List.length_flatten];refine sem_dfn (rows_cmp L (a := y) (b := x)) (by first | exact D.les_refl _ | simp) (sem_run 9000 _ ?_);simp [hc];refine sem_exit (sem_run 9000 _ ?_);simp [w4];refine sem_ok ?_;exact ⟨_, by omega, i + 1, rfl, by omega, by omega, by simp, rfl⟩
 ·simp [c1];refine sem_exit (sem_run 9000 _ ?_);simp;refine sem_ok ?_;simp [M367];exact .le sR (D.le_refl _) (by simp)
theorem stable6 (L : HRows p ext F) {bs c n : Nat} {ex : Bool} {X : List Ver} {H : HpD} (hb : H.blk bs = .cells (versE X).flatten false) (hbs : bs < H.next) (hn : X.length = n) (hX : n < 20) (hs : SrtV X) : Td p ext (F 365) [sl6 bs n c ex, .lit (.int .i64 (n : Int)), .func (F 363) [] []] H (.tup []) H := by
 refine td_of L.h365 (M := M365) rfl ok365 rfl (Nat.le_refl _) (fun h => h) (sem_run 9000 _ ?_);simp;subst hn;refine sem_loop (fun w fr H'' => w = 0 ∧ fr = [(0, sl6 bs X.length c ex), (1, .lit (.int .i64 (X.length : Int))), (2, .func (F 363) [] []), (6, .lit (.int .i64 20)), (7, .lit (.int .i64 0)), (8, .lit (.int .i64 20))] ∧ H'' = H) ?_ (k := 0) ⟨rfl, rfl, rfl⟩;rintro w fr H'' ⟨rfl, rfl, rfl⟩;have h1 : ¬ (20 : Int) ≤ (X.length : Int) := (by omega);have h2 : ¬ (20 : Int) < (X.length : Int) := (by omega);refine sem_run 9000 _ ?_;simp;simp [h1];refine sem_exit (sem_run 9000 _ ?_);simp;refine sem_td (insertion6 L (c := c) (ex := ex) (a := 0) (b := X.length) hb hbs (by omega) hs (Nat.zero_le _) (Nat.le_refl _)) (by simp) (sem_run 9000 _ ?_)
 simp;refine sem_loop (fun w fr H' => w = 0 ∧ fr = [(0, sl6 bs X.length c ex), (1, .lit (.int .i64 (X.length : Int))), (2, .func (F 363) [] []), (6, .lit (.int .i64 20))] ∧ H' = H'') ?_ (k := 0) ⟨rfl, rfl, rfl⟩;rintro w fr H' ⟨rfl, rfl, rfl⟩;refine sem_run 9000 _ ?_;simp;simp [h2];refine sem_exit (sem_run 9000 _ ?_);simp;refine sem_ok ?_;simp [M365];exact .le sR (D.le_refl _) (by simp)
theorem sortStable6 (L : HRows p ext F) {bs c n : Nat} {ex : Bool} {X : List Ver} {H : HpD} (hb : H.blk bs = .cells (versE X).flatten false) (hbs : bs < H.next) (hn : X.length = n) (hX : n < 20) (hs : SrtV X) : Td p ext (F 362) [sl6 bs n c ex, .func (F 363) [] []] H (.tup []) H := by
 refine td_of L.h362 (M := M362) rfl ok362 rfl (Nat.le_refl _) (fun h => h) (sem_run 9000 _ ?_);simp;refine sem_td (stable6 L hb hbs hn hX hs) (by first | exact D.les_refl _ | simp) (sem_run 9000 _ ?_);simp;refine sem_ok ?_;simp [M362];exact .le sR (D.le_refl _) (by simp)
theorem insertion6_nil (L : HRows p ext F) : FnD p ext (F 367) [.lit .nilslice, .lit (.int .i64 0), .lit (.int .i64 0), .func (F 363) [] []] (.tup []) := by
 refine fn_of L.h367 (M := M367) rfl ok367 rfl fun H => sem_run 9000 _ ?_;simp;have w1 : wr .i64 1 = 1 := (by decide);simp [w1];refine sem_loop (fun w fr H' => w = 0 ∧ fr = [(0, .lit .nilslice), (1, .lit (.int .i64 0)), (2, .lit (.int .i64 0)), (3, .func (F 363) [] []), (8, .lit (.int .i64 1))] ∧ H' = H) ?_ (k := 0) ⟨rfl, rfl, rfl⟩;rintro w fr H' ⟨rfl, rfl, rfl⟩;refine sem_run 9000 _ ?_;simp;refine sem_exit (sem_run 9000 _ ?_);simp;refine sem_ok ?_;simp [M367];exact .le sR (D.le_refl _) (by simp)
theorem stable6_nil (L : HRows p ext F) : FnD p ext (F 365) [.lit .nilslice, .lit (.int .i64 0), .func (F 363) [] []] (.tup []) := by
 refine fn_of L.h365 (M := M365) rfl ok365 rfl fun H => sem_run 9000 _ ?_;simp;refine sem_loop (fun w fr H'' => w = 0 ∧ fr = [(0, .lit .nilslice), (1, .lit (.int .i64 0)), (2, .func (F 363) [] []), (6, .lit (.int .i64 20)), (7, .lit (.int .i64 0)), (8, .lit (.int .i64 20))] ∧ H'' = H) ?_ (k := 0) ⟨rfl, rfl, rfl⟩;rintro w fr H'' ⟨rfl, rfl, rfl⟩;refine sem_run 9000 _ ?_;simp;refine sem_exit (sem_run 9000 _ ?_);simp;refine sf (insertion6_nil L) ?_;simp;refine sem_loop (fun w fr H' => w = 0 ∧ fr = [(0, .lit .nilslice), (1, .lit (.int .i64 0)), (2, .func (F 363) [] []), (6, .lit (.int .i64 20))] ∧ H' = H'') ?_ (k := 0) ⟨rfl, rfl, rfl⟩
 rintro w fr H' ⟨rfl, rfl, rfl⟩;refine sem_run 9000 _ ?_;simp;refine sem_exit (sem_run 9000 _ ?_);simp;refine sem_ok ?_;simp [M365];exact .le sR (D.le_refl _) (by simp)
theorem sortStable6_nil (L : HRows p ext F) : FnD p ext (F 362) [.lit .nilslice, .func (F 363) [] []] (.tup []) := by
 refine fn_of L.h362 (M := M362) rfl ok362 rfl fun H => sem_run 9000 _ ?_;simp;refine sf (stable6_nil L) ?_;simp;refine sem_ok ?_;simp [M362];exact .le sR (D.le_refl _) (by simp)
theorem view_rows (L : HRows p ext F) {bt bd bm bb n : Nat} {sb : D} {t : Tb} {k : Bk} {q : Pr} {me at_ : Int} {H : HpD} (h : TbAt H bt bd bm bb sb t k) (hq : PrS n q) (hc : Calm k.l me) (hs : SrtV (visF t.l q fun s => seesF k.l s me at_ true)) (hn : (visF t.l q fun s => seesF k.l s me at_ true).length < 20) : WcD p ext (F 359) [.ptr bt 0, .ptr bb 0, .lit (.int .i64 me), .lit (.int .i64 at_), .agg q.c] H (fun d H' => ∃ s, d = .tup [s, .lit .nilslice] ∧ Gr H H' 6 s (versE (visF t.l q fun s => seesF k.l s me at_ true))) := by
 refine wc_of L.h359 (M := M359) rfl ok359 rfl (sem_run 9000 _ ?_);simp;refine sem_call (WcD.args (view_there L.view h hq fun s => stam_Sees L.view.stam h.txs hc (s := s) (at_ := at_)) (by simp [D.les])) ?_;rintro _ H1 ⟨s, rfl, g1⟩;generalize visF t.l q (fun s => seesF k.l s me at_ true) = vs at g1 hs hn;refine sem_run 8 _ ?_;simp;refine sem_exact g1 fun H2 gx k2 n2 => ?_;rcases gx.at_ with ⟨rfl, he⟩ | ⟨b, ex, rfl, h1, h2, h3⟩
 ·refine sem_run 9000 _ ?_;simp;refine sf (sortStable6_nil L) ?_;simp;refine sem_ret ?_;simp [M359];exact gx.gr
 ·simp only [versE_len];refine sem_run 9000 _ ?_;simp;refine sem_td (sortStable6 L h3 h2 rfl hn hs) (by first | exact D.les_refl _ | simp) (sem_run 9000 _ ?_);simp;refine sem_ret ?_;simp [M359];have := gx.gr;simp only [versE_len] at this;exact this
end Go.Lib
end

section
namespace Go.Lib
open Go.Vm Go.Dv
set_option maxRecDepth 100000
abbrev K77 (_F : Nat → Nat) : KC := .seq (.region [⟨some 2,.p (.mov (.val (.nilslice))),none⟩] [] [0])
 (.seq (.region [mv 3 0,mv 4 0,lb 5 4,mv 6 0,lb 7 6,⟨some 8,.p (.slc 3 (.tmp 3) none (some (.tmp 5)) (some (.tmp 7))),none⟩,mv 2 8] [] [2])
 (.ret))
def M77 (F : Nat → Nat) : Fun := ⟨9,1,(K77 F).erase,[.tmp 2]⟩
theorem ok77 {F : Nat → Nat} : (K77 F).ok = true := rfl
end Go.Lib
end

section
set_option maxRecDepth 10000
namespace Go.Lib
open Go.Vm Go.Dv Go.Srt
variable {p : Prog} {ext : Ext} {F : Nat → Nat}
structure Rs where
 err : Int
 n : Int
 rows : List Row
def Rs.c (x : Rs) : List D := [.lit (.int .i64 x.err), .lit (.int .i64 x.n), rowsD x.rows]
structure Op where
 kind : Int
 row : Row
 pred : Pr
 sets : List Sx
 cols : List Int
 group : Int
 aggs : List Ag
def Op.c (o : Op) : List D := [.lit (.int .i64 o.kind), rowD o.row] ++ o.pred.c ++ [sxsD o.sets, intsD .p o.cols, .lit (.int .i64 o.group), agsD o.aggs]
theorem op_c {o : Op} : o.c = [.lit (.int .i64 o.kind), rowD o.row, .lit (.int .i64 o.pred.kind), .lit (.int .i64 o.pred.col), .lit (.int .i64 o.pred.op), .lit (.bool o.pred.v.null), .lit (.int .i64 o.pred.v.kind), .lit (.int .i64 o.pred.v.n), byD o.pred.v.bytes, prsD o.pred.l, sxsD o.sets, intsD .p o.cols, .lit (.int .i64 o.group), agsD o.aggs] := by
 rw [Op.c, pr_c]; rfl
theorem op_0 {o : Op} : o.c[0]? = some (.lit (.int .i64 o.kind)) := by rw [op_c]; rfl
theorem op_1 {o : Op} : o.c[1]? = some (rowD o.row) := by rw [op_c]; rfl
theorem op_10 {o : Op} : o.c[10]? = some (sxsD o.sets) := by rw [op_c]; rfl
theorem op_11 {o : Op} : o.c[11]? = some (intsD .p o.cols) := by rw [op_c]; rfl
theorem op_12 {o : Op} : o.c[12]? = some (.lit (.int .i64 o.group)) := by rw [op_c]; rfl
theorem op_13 {o : Op} : o.c[13]? = some (agsD o.aggs) := by rw [op_c]; rfl
theorem op_len {o : Op} : o.c.length = 14 := by rw [op_c]; rfl
theorem op_pred {o : Op} : (o.c.drop 2).take 8 = o.pred.c := by rw [op_c, pr_c]; rfl
theorem op_g {q : Op} {i : Nat} {d : D} (h : q.c[i]? = some d) (hi : i < q.c.length) : q.c[i] = d := (List.getElem?_eq_some_iff.1 h).2
theorem op_g0 {q : Op} (h : 0 < q.c.length) : q.c[0] = .lit (.int .i64 q.kind) := op_g op_0 h
theorem op_g1 {q : Op} (h : 1 < q.c.length) : q.c[1] = rowD q.row := op_g op_1 h
theorem op_g10 {q : Op} (h : 10 < q.c.length) : q.c[10] = sxsD q.sets := op_g op_10 h
theorem op_g11 {q : Op} (h : 11 < q.c.length) : q.c[11] = intsD .p q.cols := op_g op_11 h
theorem op_g12 {q : Op} (h : 12 < q.c.length) : q.c[12] = .lit (.int .i64 q.group) := op_g op_12 h
theorem op_g13 {q : Op} (h : 13 < q.c.length) : q.c[13] = agsD q.aggs := op_g op_13 h
theorem op_take {q : Op} : q.c.take 14 = q.c := List.take_of_length_le (by rw [op_len]; exact Nat.le_refl _)
theorem op_flats {q : Op} : flatsD q.c = true := by rw [op_c]; rfl
attribute [simp] op_0 op_1 op_10 op_11 op_12 op_13 op_len op_pred op_g0 op_g1 op_g10 op_g11 op_g12 op_g13 op_take op_flats
end Go.Lib
end

section
set_option maxRecDepth 10000
namespace Go.Lib
open Go.Vm Go.Dv Go.Srt
variable {p : Prog} {ext : Ext} {F : Nat → Nat}
end Go.Lib
end

section
set_option maxRecDepth 10000
namespace Go.Lib
open Go.Vm Go.Dv
variable {p : Prog} {ext : Ext} {F : Nat → Nat}
attribute [-simp] bin_and
end Go.Lib
end

section
namespace Go.Lib
open Go.Vm Go.Dv
set_option maxRecDepth 100000
abbrev K371 (F : Nat → Nat) : KC := .seq (.region [⟨some 6,.p (.mov (.val (.nilptr))),none⟩] [] [0,1,2])
 (.seq (.region [mv 10 0,mv 11 1,⟨some 12,.p (.build [.nilptr,.nilptr,.nilslice,.int .i64 (.ofNat 0),.int .i64 (.ofNat 0),.int .i64 (.ofNat 0),.int .i64 (.ofNat 0),.int .i64 (.ofNat 0),.nilslice,.nilslice,.nilslice,.int .i64 (.ofNat 0)] [(0,1,(.tmp 10)),(1,1,(.tmp 11))]),none⟩,⟨some 13,.a (.box (.tmp 12)),none⟩,mv 7 13] [] [2,7])
 (.seq (.seq (.region [mv 14 2,lb 15 14,mi 16 0] [] [7,14,15,16])
 (.block 0 (.loop (.seq (.region [bt 17 .lss 16 15] [] [7,14,15,16,17])
 (.seq (.cond (.tmp 17) (.skip)
 (.exit 0))
 (.seq (.block 1 (.seq (.region [ix 18 14 14 16,ln 19 14 18,⟨some 9,.a (.new [.int .i64 (.ofNat 0),.nilslice,.int .i64 (.ofNat 0),.int .i64 (.ofNat 0),.int .i64 (.ofNat 0),.bool false,.int .i64 (.ofNat 0),.int .i64 (.ofNat 0),.nilslice,.nilslice,.nilslice,.nilslice,.int .i64 (.ofNat 0),.nilslice]),none⟩,⟨none,.e (.store 14 (.tmp 9) (.tmp 19)),none⟩] [] [7,9,14,15,16])
 (.dregion [⟨ln 25 14 9,0,1⟩,⟨⟨some 26,.e (.call (F 378) [(.tmp 25)]),none⟩,0,7⟩,⟨mv 21 7,0,7⟩,⟨⟨some 22,.p (.nilchk (.tmp 21)),none⟩,0,7⟩,⟨fa 23 2 22,0,7⟩,⟨l1 24 23,0,7⟩,⟨⟨some 27,.a (.bslice [.int .i64 (.ofNat 0),.nilslice,.int .i64 (.ofNat 0),.int .i64 (.ofNat 0),.int .i64 (.ofNat 0),.bool false,.int .i64 (.ofNat 0),.int .i64 (.ofNat 0),.nilslice,.nilslice,.nilslice,.nilslice,.int .i64 (.ofNat 0),.nilslice] 14 1 [(0,14,(.tmp 26))]),none⟩,2,7⟩,⟨⟨some 28,.e (.append 14 208 (.tmp 24) (.tmp 27)),none⟩,2,11⟩,⟨mv 20 7,0,11⟩,⟨⟨some 29,.p (.nilchk (.tmp 20)),none⟩,8,11⟩,⟨fa 30 2 29,8,11⟩,⟨⟨none,.e (.store 1 (.tmp 30) (.tmp 28)),none⟩,8,12⟩] [7,14,15,16])))
 (.region [bi 31 .add 16 1,mv 16 31] [] [7,14,15,16])))))))
 (.seq (.region [mv 32 7,mv 6 32] [] [6])
 (.ret))))
def M371 (F : Nat → Nat) : Fun := ⟨33,3,(K371 F).erase,[.tmp 6]⟩
theorem ok371 {F : Nat → Nat} : (K371 F).ok = true := by kernel_rfl
abbrev K372 (F : Nat → Nat) : KC := .seq (.region [mi 2 0] [] [0])
 (.seq (.seq (.region [mv 3 0,⟨some 4,.p (.nilchk (.tmp 3)),none⟩,fa 5 3 4,l1 6 5] [] [0,6])
 (.block 0 (.seq (.region [bi 8 .eql 6 0,mv 7 8] [] [0,6,7])
 (.cond (.tmp 7) (.seq (.region [mv 9 0,mv 10 0,⟨some 11,.p (.nilchk (.tmp 10)),none⟩,fa 12 1 11,l1 13 12,⟨some 14,.e (.call (F 341) [(.tmp 13)]),none⟩,⟨some 15,.p (.nilchk (.tmp 9)),none⟩,fa 16 5 15,⟨none,.e (.store 1 (.tmp 16) (.tmp 14)),none⟩] [] [0])
 (.seq (.dregion [⟨mv 22 0,0,4⟩,⟨⟨some 23,.p (.nilchk (.tmp 22)),none⟩,0,4⟩,⟨fa 24 1 23,0,4⟩,⟨l1 25 24,0,4⟩,⟨⟨some 26,.e (.call (F 346) [(.tmp 25)]),none⟩,0,9⟩,⟨mv 18 0,0,9⟩,⟨⟨some 19,.p (.nilchk (.tmp 18)),none⟩,0,9⟩,⟨fa 20 5 19,0,9⟩,⟨l1 21 20,0,9⟩,⟨⟨some 27,.e (.call (F 340) [(.tmp 21),(.tmp 26)]),none⟩,5,14⟩,⟨mv 17 0,0,14⟩,⟨⟨some 28,.p (.field1 2 (.tmp 27)),none⟩,10,14⟩,⟨⟨some 29,.p (.nilchk (.tmp 17)),none⟩,10,14⟩,⟨fa 30 6 29,10,14⟩,⟨⟨none,.e (.store 1 (.tmp 30) (.tmp 28)),none⟩,10,15⟩] [0])
 (.seq (.region [mv 31 0,⟨some 32,.p (.nilchk (.tmp 31)),none⟩,fa 33 3 32,⟨none,.e (.store 1 (.tmp 33) (.val (.int .i64 (.ofNat 1)))),none⟩] [] [0])
 (.seq (.region [mv 34 0,mv 35 0,⟨some 36,.p (.nilchk (.tmp 35)),none⟩,fa 37 2 36,l1 38 37,lb 39 38,⟨some 40,.e (.call (F 379) [(.tmp 34),(.val (.int .i64 (.ofNat 2))),(.tmp 39)]),none⟩,mv 2 40] [] [2])
 (.ret)))))
 (.seq (.region [bi 42 .eql 6 1,mv 41 42] [] [0,6,41])
 (.cond (.tmp 41) (.seq (.region [mv 43 0,⟨some 44,.e (.call (F 380) [(.tmp 43)]),none⟩,mv 2 44] [] [2])
 (.ret))
 (.seq (.region [bi 46 .eql 6 2,mv 45 46] [] [0,6,45])
 (.cond (.tmp 45) (.seq (.dregion [⟨mv 49 0,0,8⟩,⟨⟨some 50,.p (.nilchk (.tmp 49)),none⟩,0,8⟩,⟨fa 51 1 50,0,8⟩,⟨l1 52 51,0,8⟩,⟨mv 53 0,0,8⟩,⟨⟨some 54,.p (.nilchk (.tmp 53)),none⟩,0,8⟩,⟨fa 55 5 54,0,8⟩,⟨l1 56 55,0,8⟩,⟨⟨some 57,.e (.call (F 342) [(.tmp 52),(.tmp 56)]),none⟩,0,14⟩,⟨mv 48 0,0,14⟩,⟨mv 47 57,9,14⟩,⟨et 58 47 0,9,14⟩,⟨⟨some 60,.p (.nilchk (.tmp 48)),none⟩,9,14⟩,⟨fa 61 7 60,9,14⟩,⟨⟨none,.e (.store 1 (.tmp 61) (.tmp 58)),none⟩,9,16⟩,⟨et 59 47 1,9,16⟩] [0])
 (.seq (.region [mv 62 0,⟨some 63,.p (.nilchk (.tmp 62)),none⟩,fa 64 3 63,⟨none,.e (.store 1 (.tmp 64) (.val (.int .i64 (.ofNat 3)))),none⟩] [] [0])
 (.seq (.region [mv 65 0,mv 66 0,⟨some 67,.p (.nilchk (.tmp 66)),none⟩,fa 68 9 67,l1 69 68,lb 70 69,⟨some 71,.e (.call (F 379) [(.tmp 65),(.val (.int .i64 (.ofNat 4))),(.tmp 70)]),none⟩,mv 2 71] [] [2])
 (.ret))))
 (.seq (.region [bi 73 .eql 6 3,mv 72 73] [] [0,6,72])
 (.cond (.tmp 72) (.seq (.region [mv 74 0,⟨some 75,.e (.call (F 381) [(.tmp 74)]),none⟩,mv 2 75] [] [2])
 (.ret))
 (.seq (.region [bi 77 .eql 6 4,mv 76 77] [] [0,76])
 (.cond (.tmp 76) (.seq (.region [mv 78 0,⟨some 79,.e (.call (F 382) [(.tmp 78)]),none⟩,mv 2 79] [] [2])
 (.ret))
 (.skip)))))))))))))
 (.seq (.region [mi 2 3] [] [2])
 (.ret)))
def M372 (F : Nat → Nat) : Fun := ⟨80,1,(K372 F).erase,[.tmp 2]⟩
theorem ok372 {F : Nat → Nat} : (K372 F).ok = true := by kernel_rfl
abbrev K373 (_F : Nat → Nat) : KC := .seq (.region [mi 2 0] [] [0])
 (.seq (.region [mv 3 0,⟨some 4,.p (.nilchk (.tmp 3)),none⟩,fa 5 11 4,l1 6 5,mv 2 6] [] [2])
 (.ret))
def M373 (F : Nat → Nat) : Fun := ⟨7,1,(K373 F).erase,[.tmp 2]⟩
theorem ok373 {F : Nat → Nat} : (K373 F).ok = true := by kernel_rfl
abbrev K374 (F : Nat → Nat) : KC := .seq (.region [⟨some 2,.p (.mov (.val (.nilslice))),none⟩] [] [0])
 (.seq (.region [mv 9 0,⟨some 10,.p (.nilchk (.tmp 9)),none⟩,fa 11 8 10,l1 12 11,⟨some 13,.e (.call (F 383) [(.tmp 12)]),none⟩,mv 3 13] [] [3])
 (.seq (.seq (.region [mv 14 3,lb 15 14,mi 16 0] [] [3,14,15,16])
 (.block 0 (.loop (.seq (.region [bt 17 .lss 16 15] [] [3,14,15,16,17])
 (.seq (.cond (.tmp 17) (.skip)
 (.exit 0))
 (.seq (.block 1 (.seq (.region [mv 18 16,ix 19 3 14 16,ln 20 3 19,⟨some 5,.a (.new [.int .i64 (.ofNat 0),.int .i64 (.ofNat 0),.nilslice]),none⟩,mv 4 18,⟨none,.e (.store 3 (.tmp 5) (.tmp 20)),none⟩] [] [3,4,5,14,15,16])
 (.seq (.region [⟨some 6,.p (.mov (.val (.nilslice))),none⟩] [] [3,4,5,6,14,15,16])
 (.seq (.seq (.region [fa 21 2 5,l1 22 21,lb 23 22,mi 24 0] [] [3,4,6,14,15,16,22,23,24])
 (.block 2 (.loop (.seq (.region [bt 25 .lss 24 23] [] [3,4,6,14,15,16,22,23,24,25])
 (.seq (.cond (.tmp 25) (.skip)
 (.exit 2))
 (.seq (.block 3 (.seq (.region [ix 26 1 22 24,l1 27 26,mv 8 27] [] [3,4,6,8,14,15,16,22,23,24])
 (.region [mv 28 6,mv 29 8,⟨some 30,.e (.call (F 4) [(.tmp 29)]),none⟩,⟨some 31,.a (.bslice [.nilslice] 1 1 [(0,1,(.tmp 30))]),none⟩,⟨some 32,.e (.append 1 24 (.tmp 28) (.tmp 31)),none⟩,mv 6 32] [31] [3,4,6,14,15,16,22,23,24])))
 (.region [bi 33 .add 24 1,mv 24 33] [] [3,4,6,14,15,16,22,23,24])))))))
 (.region [mv 34 3,mv 35 4,mv 36 6,ix 37 3 34 35,fa 38 2 37,⟨none,.e (.store 1 (.tmp 38) (.tmp 36)),none⟩] [] [3,14,15,16])))))
 (.region [bi 39 .add 16 1,mv 16 39] [] [3,14,15,16])))))))
 (.seq (.region [mv 40 3,⟨some 41,.e (.call (F 77) [(.tmp 40)]),none⟩,mv 2 41] [] [2])
 (.ret))))
def M374 (F : Nat → Nat) : Fun := ⟨42,1,(K374 F).erase,[.tmp 2]⟩
theorem ok374 {F : Nat → Nat} : (K374 F).ok = true := by kernel_rfl
abbrev K378 (F : Nat → Nat) : KC := .seq (.region [⟨some 1,.a (.box (.tmp 0)),none⟩,⟨some 2,.a (.new [.int .i64 (.ofNat 0),.nilslice,.int .i64 (.ofNat 0),.int .i64 (.ofNat 0),.int .i64 (.ofNat 0),.bool false,.int .i64 (.ofNat 0),.int .i64 (.ofNat 0),.nilslice,.nilslice,.nilslice,.nilslice,.int .i64 (.ofNat 0),.nilslice]),none⟩] [] [1,2])
 (.seq (.dregion [⟨fa 6 1 1,0,2⟩,⟨l1 7 6,0,2⟩,⟨⟨some 8,.e (.call (F 4) [(.tmp 7)]),none⟩,0,5⟩,⟨fa 9 2 1,0,5⟩,⟨ln 10 8 9,0,5⟩,⟨⟨some 11,.e (.call (F 385) [(.tmp 10)]),none⟩,3,7⟩,⟨fa 12 1 1,3,7⟩,⟨⟨none,.e (.store 1 (.tmp 12) (.tmp 8)),none⟩,6,9⟩,⟨fa 13 2 1,8,9⟩,⟨⟨none,.e (.store 8 (.tmp 13) (.tmp 11)),none⟩,8,10⟩] [1,2])
 (.seq (.dregion [⟨fa 14 11 1,0,2⟩,⟨l1 15 14,0,2⟩,⟨⟨some 16,.e (.call (F 384) [(.tmp 15)]),none⟩,0,5⟩,⟨fa 17 13 1,0,5⟩,⟨l1 18 17,0,5⟩,⟨⟨some 19,.e (.call (F 386) [(.tmp 18)]),none⟩,3,7⟩,⟨fa 20 11 1,3,7⟩,⟨⟨none,.e (.store 1 (.tmp 20) (.tmp 16)),none⟩,6,9⟩,⟨fa 21 13 1,8,9⟩,⟨⟨none,.e (.store 1 (.tmp 21) (.tmp 19)),none⟩,8,10⟩] [1,2])
 (.seq (.region [⟨some 3,.p (.mov (.val (.nilslice))),none⟩] [] [1,2,3])
 (.seq (.seq (.region [fa 22 10 1,l1 23 22,lb 24 23,mi 25 0] [] [1,2,3,23,24,25])
 (.block 0 (.loop (.seq (.region [bt 26 .lss 25 24] [] [1,2,3,23,24,25,26])
 (.seq (.cond (.tmp 26) (.skip)
 (.exit 0))
 (.seq (.block 1 (.seq (.region [ix 27 6 23 25,ln 28 6 27,⟨some 5,.a (.new [.int .i64 (.ofNat 0),.bool false,.bool false,.int .i64 (.ofNat 0),.int .i64 (.ofNat 0),.nilslice]),none⟩,⟨none,.e (.store 6 (.tmp 5) (.tmp 28)),none⟩] [] [1,2,3,5,23,24,25])
 (.seq (.region [fa 29 2 5,ln 30 4 29,⟨some 31,.e (.call (F 5) [(.tmp 30)]),none⟩,fa 32 2 5,⟨none,.e (.store 4 (.tmp 32) (.tmp 31)),none⟩] [] [1,2,3,5,23,24,25])
 (.region [mv 33 3,ln 34 6 5,⟨some 35,.a (.bslice [.int .i64 (.ofNat 0),.bool false,.bool false,.int .i64 (.ofNat 0),.int .i64 (.ofNat 0),.nilslice] 6 1 [(0,6,(.tmp 34))]),none⟩,⟨some 36,.e (.append 6 64 (.tmp 33) (.tmp 35)),none⟩,mv 3 36] [35] [1,2,3,23,24,25]))))
 (.region [bi 37 .add 25 1,mv 25 37] [] [1,2,3,23,24,25])))))))
 (.seq (.region [mv 38 3,fa 39 10 1,⟨none,.e (.store 1 (.tmp 39) (.tmp 38)),none⟩] [] [1,2])
 (.seq (.region [ln 40 14 1,⟨none,.e (.store 14 (.tmp 2) (.tmp 40)),none⟩] [] [2])
 (.ret)))))))
def M378 (F : Nat → Nat) : Fun := ⟨41,1,(K378 F).erase,[.celln 14 2]⟩
theorem ok378 {F : Nat → Nat} : (K378 F).ok = true := by kernel_rfl
abbrev K379 (_F : Nat → Nat) : KC := .seq (.region [mi 6 0] [] [0,1,2])
 (.seq (.seq (.region [mv 7 0,⟨some 8,.p (.nilchk (.tmp 7)),none⟩,fa 9 4 8,l1 10 9,mv 11 2,bt 12 .geq 10 11] [] [0,1,12])
 (.cond (.tmp 12) (.region [mv 13 0,mv 14 0,mv 15 1,⟨some 16,.p (.nilchk (.tmp 13)),none⟩,fa 17 3 16,⟨none,.e (.store 1 (.tmp 17) (.tmp 15)),none⟩,⟨some 18,.p (.nilchk (.tmp 14)),none⟩,fa 19 4 18,⟨none,.e (.store 1 (.tmp 19) (.val (.int .i64 (.ofNat 0)))),none⟩] [] [])
 (.skip)))
 (.seq (.region [mi 6 1] [] [6])
 (.ret)))
def M379 (F : Nat → Nat) : Fun := ⟨20,3,(K379 F).erase,[.tmp 6]⟩
theorem ok379 {F : Nat → Nat} : (K379 F).ok = true := by kernel_rfl
abbrev K380 (F : Nat → Nat) : KC := .seq (.region [mi 2 0] [] [0])
 (.seq (.dregion [⟨mv 4 0,0,11⟩,⟨mv 5 0,0,11⟩,⟨⟨some 6,.p (.nilchk (.tmp 5)),none⟩,0,11⟩,⟨fa 7 2 6,0,11⟩,⟨l1 8 7,0,11⟩,⟨mv 9 0,0,11⟩,⟨⟨some 10,.p (.nilchk (.tmp 9)),none⟩,0,11⟩,⟨fa 11 4 10,0,11⟩,⟨l1 12 11,0,11⟩,⟨ix 13 14 8 12,0,11⟩,⟨ln 14 14 13,0,11⟩,⟨⟨some 15,.e (.call (F 387) [(.tmp 4),(.tmp 14)]),none⟩,0,13⟩,⟨⟨some 3,.a (.new [.int .i64 (.ofNat 0),.int .i64 (.ofNat 0),.nilslice]),none⟩,0,13⟩,⟨⟨none,.e (.store 3 (.tmp 3) (.tmp 15)),none⟩,12,14⟩] [0,3])
 (.seq (.dregion [⟨mv 17 0,0,6⟩,⟨⟨some 18,.p (.nilchk (.tmp 17)),none⟩,0,6⟩,⟨fa 19 8 18,0,6⟩,⟨l1 20 19,0,6⟩,⟨ln 21 3 3,0,6⟩,⟨⟨some 22,.a (.bslice [.int .i64 (.ofNat 0),.int .i64 (.ofNat 0),.nilslice] 3 1 [(0,3,(.tmp 21))]),none⟩,0,6⟩,⟨⟨some 23,.e (.append 3 40 (.tmp 20) (.tmp 22)),none⟩,0,10⟩,⟨mv 16 0,0,10⟩,⟨⟨some 24,.p (.nilchk (.tmp 16)),none⟩,7,10⟩,⟨fa 25 8 24,7,10⟩,⟨⟨none,.e (.store 1 (.tmp 25) (.tmp 23)),none⟩,7,11⟩] [0,3])
 (.seq (.seq (.region [fa 26 0 3,l1 27 26,bi 28 .neq 27 0] [] [0,3,28])
 (.cond (.tmp 28) (.seq (.region [mv 29 0,fa 30 0 3,l1 31 30,⟨some 32,.e (.call (F 388) [(.tmp 29),(.tmp 31)]),none⟩,mv 2 32] [] [2])
 (.ret))
 (.skip)))
 (.seq (.region [mv 33 0,⟨some 34,.p (.nilchk (.tmp 33)),none⟩,fa 35 4 34,l1 36 35,bi 37 .add 36 1,⟨some 38,.p (.nilchk (.tmp 33)),none⟩,fa 39 4 38,⟨none,.e (.store 1 (.tmp 39) (.tmp 37)),none⟩] [] [0])
 (.seq (.region [mv 40 0,mv 41 0,⟨some 42,.p (.nilchk (.tmp 41)),none⟩,fa 43 2 42,l1 44 43,lb 45 44,⟨some 46,.e (.call (F 379) [(.tmp 40),(.val (.int .i64 (.ofNat 2))),(.tmp 45)]),none⟩,mv 2 46] [] [2])
 (.ret))))))
def M380 (F : Nat → Nat) : Fun := ⟨47,1,(K380 F).erase,[.tmp 2]⟩
theorem ok380 {F : Nat → Nat} : (K380 F).ok = true := by kernel_rfl
abbrev K381 (F : Nat → Nat) : KC := .seq (.region [mi 2 0] [] [0])
 (.seq (.dregion [⟨mv 6 0,0,11⟩,⟨⟨some 7,.p (.nilchk (.tmp 6)),none⟩,0,11⟩,⟨fa 8 9 7,0,11⟩,⟨l1 9 8,0,11⟩,⟨mv 10 0,0,11⟩,⟨⟨some 11,.p (.nilchk (.tmp 10)),none⟩,0,11⟩,⟨fa 12 4 11,0,11⟩,⟨l1 13 12,0,11⟩,⟨ix 14 9 9 13,0,11⟩,⟨ln 15 9 14,0,11⟩,⟨⟨some 3,.a (.new [.int .i64 (.ofNat 0),.int .i64 (.ofNat 0),.int .i64 (.ofNat 0),.bool false,.int .i64 (.ofNat 0),.int .i64 (.ofNat 0),.nilslice,.nilslice,.nilslice]),none⟩,0,11⟩,⟨⟨none,.e (.store 9 (.tmp 3) (.tmp 15)),none⟩,0,12⟩] [0,3])
 (.seq (.dregion [⟨mv 17 0,0,18⟩,⟨⟨some 18,.p (.nilchk (.tmp 17)),none⟩,0,18⟩,⟨fa 19 0 18,0,18⟩,⟨l1 20 19,0,18⟩,⟨mv 21 0,0,18⟩,⟨⟨some 22,.p (.nilchk (.tmp 21)),none⟩,0,18⟩,⟨fa 23 1 22,0,18⟩,⟨l1 24 23,0,18⟩,⟨mv 25 0,0,18⟩,⟨⟨some 26,.p (.nilchk (.tmp 25)),none⟩,0,18⟩,⟨fa 27 5 26,0,18⟩,⟨l1 28 27,0,18⟩,⟨mv 29 0,0,18⟩,⟨⟨some 30,.p (.nilchk (.tmp 29)),none⟩,0,18⟩,⟨fa 31 7 30,0,18⟩,⟨l1 32 31,0,18⟩,⟨fa 33 0 3,0,18⟩,⟨ln 34 8 33,0,18⟩,⟨⟨some 35,.e (.call (F 360) [(.tmp 20),(.tmp 24),(.tmp 28),(.tmp 32),(.tmp 34)]),none⟩,0,24⟩,⟨mv 16 35,19,24⟩,⟨et 36 16 0,19,24⟩,⟨et 37 16 1,19,24⟩,⟨mv 4 36,19,24⟩,⟨mv 5 37,19,24⟩] [0,3,4,5])
 (.seq (.block 0 (.seq (.region [mv 39 4,fa 40 8 3,l1 41 40,⟨some 42,.e (.call (F 389) [(.tmp 39),(.tmp 41)]),none⟩,⟨some 43,.p (.not (.tmp 42)),none⟩,mv 38 43] [] [0,5,38])
 (.cond (.tmp 38) (.seq (.region [mv 44 0,⟨some 45,.e (.call (F 388) [(.tmp 44),(.val (.int .i64 (.ofNat 6)))]),none⟩,mv 2 45] [] [2])
 (.ret))
 (.seq (.region [mv 47 0,mv 48 5,⟨some 49,.e (.call (F 390) [(.tmp 47),(.tmp 48)]),none⟩,⟨some 50,.p (.not (.tmp 49)),none⟩,mv 46 50] [] [0,46])
 (.cond (.tmp 46) (.seq (.region [mv 51 0,⟨some 52,.e (.call (F 388) [(.tmp 51),(.val (.int .i64 (.ofNat 8)))]),none⟩,mv 2 52] [] [2])
 (.ret))
 (.skip))))))
 (.seq (.region [mv 53 0,⟨some 54,.p (.nilchk (.tmp 53)),none⟩,fa 55 4 54,l1 56 55,bi 57 .add 56 1,⟨some 58,.p (.nilchk (.tmp 53)),none⟩,fa 59 4 58,⟨none,.e (.store 1 (.tmp 59) (.tmp 57)),none⟩] [] [0])
 (.seq (.region [mv 60 0,mv 61 0,⟨some 62,.p (.nilchk (.tmp 61)),none⟩,fa 63 9 62,l1 64 63,lb 65 64,⟨some 66,.e (.call (F 379) [(.tmp 60),(.val (.int .i64 (.ofNat 4))),(.tmp 65)]),none⟩,mv 2 66] [] [2])
 (.ret))))))
def M381 (F : Nat → Nat) : Fun := ⟨67,1,(K381 F).erase,[.tmp 2]⟩
theorem ok381 {F : Nat → Nat} : (K381 F).ok = true := by kernel_rfl
abbrev K382 (F : Nat → Nat) : KC := .seq (.region [mi 2 0] [] [0])
 (.seq (.region [mv 7 0,⟨some 8,.p (.nilchk (.tmp 7)),none⟩,fa 9 1 8,l1 10 9,⟨some 11,.e (.call (F 346) [(.tmp 10)]),none⟩,mv 3 11] [] [0,3])
 (.seq (.region [⟨some 4,.p (.mov (.val (.bool false))),none⟩] [] [0,3,4])
 (.seq (.seq (.region [mv 12 0,⟨some 13,.p (.nilchk (.tmp 12)),none⟩,fa 14 10 13,l1 15 14,lb 16 15,mi 17 0] [] [0,3,4,15,16,17])
 (.block 0 (.loop (.seq (.region [bt 18 .lss 17 16] [] [0,3,4,15,16,17,18])
 (.seq (.cond (.tmp 18) (.skip)
 (.exit 0))
 (.seq (.block 1 (.seq (.region [ix 19 1 15 17,l1 20 19,mv 6 20] [] [0,3,4,6,15,16,17])
 (.seq (.region [mv 21 6,mv 22 3,⟨some 23,.e (.call (F 340) [(.tmp 21),(.tmp 22)]),none⟩,⟨some 24,.p (.field1 1 (.tmp 23)),none⟩] [] [0,3,4,15,16,17,24])
 (.block 2 (.seq (.region [bi 26 .eql 24 4,mv 25 26] [] [0,3,4,15,16,17,24,25])
 (.cond (.tmp 25) (.seq (.region [mv 27 0,⟨some 28,.e (.call (F 388) [(.tmp 27),(.val (.int .i64 (.ofNat 7)))]),none⟩,mv 2 28] [] [2])
 (.ret))
 (.seq (.seq (.region [bi 30 .eql 24 1,mv 29 30] [] [0,3,4,15,16,17,24,29])
 (.cond (.tmp 29) (.skip)
 (.region [bi 31 .eql 24 2,mv 29 31] [] [0,3,4,15,16,17,29])))
 (.cond (.tmp 29) (.region [⟨some 4,.p (.mov (.val (.bool true))),none⟩] [] [0,3,4,15,16,17])
 (.skip)))))))))
 (.region [bi 32 .add 17 1,mv 17 32] [] [0,3,4,15,16,17])))))))
 (.seq (.seq (.region [mv 33 4] [] [0,33])
 (.cond (.tmp 33) (.seq (.region [mi 2 2] [] [2])
 (.ret))
 (.skip)))
 (.seq (.region [mv 34 0,⟨some 35,.e (.call (F 391) [(.tmp 34)]),none⟩,mv 2 35] [] [2])
 (.ret))))))
def M382 (F : Nat → Nat) : Fun := ⟨36,1,(K382 F).erase,[.tmp 2]⟩
theorem ok382 {F : Nat → Nat} : (K382 F).ok = true := by kernel_rfl
abbrev K383 (_F : Nat → Nat) : KC := .seq (.region [⟨some 2,.p (.mov (.val (.nilslice))),none⟩] [] [0])
 (.seq (.seq (.region [mv 3 0,⟨some 4,.p (.eq .slice false (.tmp 3) (.val (.nilslice))),none⟩] [] [0,4])
 (.cond (.tmp 4) (.seq (.region [⟨some 2,.p (.mov (.val (.nilslice))),none⟩] [] [2])
 (.ret))
 (.skip)))
 (.seq (.region [⟨some 5,.a (.bslice [] 3 0 []),none⟩,mv 6 0,⟨some 7,.e (.append 3 40 (.tmp 5) (.tmp 6)),none⟩,mv 2 7] [] [2])
 (.ret)))
def M383 (F : Nat → Nat) : Fun := ⟨8,1,(K383 F).erase,[.tmp 2]⟩
theorem ok383 {F : Nat → Nat} : (K383 F).ok = true := by kernel_rfl
abbrev K384 (_F : Nat → Nat) : KC := .seq (.region [⟨some 2,.p (.mov (.val (.nilslice))),none⟩] [] [0])
 (.seq (.seq (.region [mv 3 0,⟨some 4,.p (.eq .slice false (.tmp 3) (.val (.nilslice))),none⟩] [] [0,4])
 (.cond (.tmp 4) (.seq (.region [⟨some 2,.p (.mov (.val (.nilslice))),none⟩] [] [2])
 (.ret))
 (.skip)))
 (.seq (.region [⟨some 5,.a (.bslice [] 1 0 []),none⟩,mv 6 0,⟨some 7,.e (.append 1 8 (.tmp 5) (.tmp 6)),none⟩,mv 2 7] [] [2])
 (.ret)))
def M384 (F : Nat → Nat) : Fun := ⟨8,1,(K384 F).erase,[.tmp 2]⟩
theorem ok384 {F : Nat → Nat} : (K384 F).ok = true := by kernel_rfl
abbrev K385 (F : Nat → Nat) : KC := .seq (.region [⟨some 1,.a (.box (.tmp 0)),none⟩,⟨some 2,.a (.new [.int .i64 (.ofNat 0),.int .i64 (.ofNat 0),.int .i64 (.ofNat 0),.bool false,.int .i64 (.ofNat 0),.int .i64 (.ofNat 0),.nilslice,.nilslice]),none⟩] [] [1,2])
 (.seq (.region [fa 6 3 1,ln 7 4 6,⟨some 8,.e (.call (F 5) [(.tmp 7)]),none⟩,fa 9 3 1,⟨none,.e (.store 4 (.tmp 9) (.tmp 8)),none⟩] [] [1,2])
 (.seq (.region [⟨some 3,.p (.mov (.val (.nilslice))),none⟩] [] [1,2,3])
 (.seq (.seq (.region [fa 10 7 1,l1 11 10,lb 12 11,mi 13 0] [] [1,2,3,11,12,13])
 (.block 0 (.loop (.seq (.region [bt 14 .lss 13 12] [] [1,2,3,11,12,13,14])
 (.seq (.cond (.tmp 14) (.skip)
 (.exit 0))
 (.seq (.block 1 (.seq (.region [ix 15 8 11 13,ln 16 8 15,⟨some 5,.a (.new [.int .i64 (.ofNat 0),.int .i64 (.ofNat 0),.int .i64 (.ofNat 0),.bool false,.int .i64 (.ofNat 0),.int .i64 (.ofNat 0),.nilslice,.nilslice]),none⟩,⟨none,.e (.store 8 (.tmp 5) (.tmp 16)),none⟩] [] [1,2,3,5,11,12,13])
 (.region [mv 17 3,ln 18 8 5,⟨some 19,.e (.call (F 385) [(.tmp 18)]),none⟩,⟨some 20,.a (.bslice [.int .i64 (.ofNat 0),.int .i64 (.ofNat 0),.int .i64 (.ofNat 0),.bool false,.int .i64 (.ofNat 0),.int .i64 (.ofNat 0),.nilslice,.nilslice] 8 1 [(0,8,(.tmp 19))]),none⟩,⟨some 21,.e (.append 8 96 (.tmp 17) (.tmp 20)),none⟩,mv 3 21] [20] [1,2,3,11,12,13])))
 (.region [bi 22 .add 13 1,mv 13 22] [] [1,2,3,11,12,13])))))))
 (.seq (.region [mv 23 3,⟨some 24,.e (.call (F 392) [(.tmp 23)]),none⟩,fa 25 7 1,⟨none,.e (.store 1 (.tmp 25) (.tmp 24)),none⟩] [] [1,2])
 (.seq (.region [ln 26 8 1,⟨none,.e (.store 8 (.tmp 2) (.tmp 26)),none⟩] [] [2])
 (.ret))))))
def M385 (F : Nat → Nat) : Fun := ⟨27,1,(K385 F).erase,[.celln 8 2]⟩
theorem ok385 {F : Nat → Nat} : (K385 F).ok = true := by kernel_rfl
abbrev K386 (_F : Nat → Nat) : KC := .seq (.region [⟨some 2,.p (.mov (.val (.nilslice))),none⟩] [] [0])
 (.seq (.seq (.region [mv 3 0,⟨some 4,.p (.eq .slice false (.tmp 3) (.val (.nilslice))),none⟩] [] [0,4])
 (.cond (.tmp 4) (.seq (.region [⟨some 2,.p (.mov (.val (.nilslice))),none⟩] [] [2])
 (.ret))
 (.skip)))
 (.seq (.region [⟨some 5,.a (.bslice [] 2 0 []),none⟩,mv 6 0,⟨some 7,.e (.append 2 16 (.tmp 5) (.tmp 6)),none⟩,mv 2 7] [] [2])
 (.ret)))
def M386 (F : Nat → Nat) : Fun := ⟨8,1,(K386 F).erase,[.tmp 2]⟩
theorem ok386 {F : Nat → Nat} : (K386 F).ok = true := by kernel_rfl
abbrev K387 (F : Nat → Nat) : KC := .seq (.region [⟨some 3,.a (.box (.tmp 1)),none⟩,⟨some 4,.a (.new [.int .i64 (.ofNat 0),.int .i64 (.ofNat 0),.nilslice]),none⟩] [3] [0,3,4])
 (.seq (.seq (.region [fa 7 0 3,l1 8 7] [] [0,3,4,8])
 (.block 0 (.seq (.region [bi 10 .eql 8 6,mv 9 10] [] [0,3,4,8,9])
 (.cond (.tmp 9) (.seq (.region [⟨some 11,.p (.build [.int .i64 (.ofNat 0),.int .i64 (.ofNat 0),.nilslice] [(0,1,(.val (.int .i64 (.ofNat 3))))]),none⟩,⟨none,.e (.store 3 (.tmp 4) (.tmp 11)),none⟩] [] [4])
 (.ret))
 (.seq (.region [bi 13 .eql 8 1,mv 12 13] [] [0,3,4,12])
 (.cond (.tmp 12) (.seq (.region [mv 14 0,ln 15 14 3,⟨some 16,.e (.call (F 393) [(.tmp 14),(.tmp 15)]),none⟩,⟨none,.e (.store 3 (.tmp 4) (.tmp 16)),none⟩] [] [4])
 (.ret))
 (.skip)))))))
 (.seq (.region [mv 18 0,fa 19 2 3,ln 20 8 19,⟨some 21,.e (.call (F 394) [(.tmp 18),(.tmp 20)]),none⟩,mv 17 21,et 22 17 0,et 23 17 1,mv 5 22,mv 6 23] [] [0,3,4,5,6])
 (.seq (.block 1 (.seq (.region [mv 25 6,bi 26 .neq 25 0,mv 24 26] [] [0,3,4,5,6,24])
 (.cond (.tmp 24) (.seq (.region [mv 27 6,⟨some 28,.p (.build [.int .i64 (.ofNat 0),.int .i64 (.ofNat 0),.nilslice] [(0,1,(.tmp 27))]),none⟩,⟨none,.e (.store 3 (.tmp 4) (.tmp 28)),none⟩] [] [4])
 (.ret))
 (.seq (.region [fa 30 0 3,l1 31 30,bi 32 .eql 31 2,mv 29 32] [] [0,3,4,5,29])
 (.cond (.tmp 29) (.seq (.region [mv 33 0,mv 34 5,ln 35 14 3,⟨some 36,.e (.call (F 395) [(.tmp 33),(.tmp 34),(.tmp 35)]),none⟩,⟨none,.e (.store 3 (.tmp 4) (.tmp 36)),none⟩] [] [4])
 (.ret))
 (.seq (.region [fa 38 0 3,l1 39 38,bi 40 .eql 39 3,mv 37 40] [] [0,3,4,5,37])
 (.cond (.tmp 37) (.seq (.region [mv 41 0,mv 42 5,⟨some 43,.e (.call (F 396) [(.tmp 41),(.tmp 42)]),none⟩,⟨none,.e (.store 3 (.tmp 4) (.tmp 43)),none⟩] [] [4])
 (.ret))
 (.skip))))))))
 (.seq (.region [mv 44 5,ln 45 14 3,⟨some 46,.e (.call (F 397) [(.tmp 44),(.tmp 45)]),none⟩,⟨none,.e (.store 3 (.tmp 4) (.tmp 46)),none⟩] [] [4])
 (.ret)))))
def M387 (F : Nat → Nat) : Fun := ⟨47,2,(K387 F).erase,[.celln 3 4]⟩
theorem ok387 {F : Nat → Nat} : (K387 F).ok = true := by kernel_rfl
abbrev K388 (F : Nat → Nat) : KC := .seq (.region [⟨some 2,.a (.box (.tmp 0)),none⟩,mi 4 0] [2] [1,2])
 (.seq (.region [l1 5 2,⟨some 6,.p (.mkfunc (F 398) [] [(.tmp 2)]),none⟩,⟨some 7,.e (.call (F 399) [(.tmp 5),(.tmp 6)]),none⟩] [] [1,2])
 (.seq (.dregion [⟨l1 8 2,0,8⟩,⟨⟨some 9,.p (.nilchk (.tmp 8)),none⟩,0,8⟩,⟨fa 10 1 9,0,8⟩,⟨l1 11 10,0,8⟩,⟨l1 12 2,0,8⟩,⟨⟨some 13,.p (.nilchk (.tmp 12)),none⟩,0,8⟩,⟨fa 14 5 13,0,8⟩,⟨l1 15 14,0,8⟩,⟨⟨some 16,.e (.call (F 344) [(.tmp 11),(.tmp 15)]),none⟩,0,9⟩] [1,2])
 (.seq (.dregion [⟨l1 17 2,0,3⟩,⟨⟨some 20,.p (.nilchk (.tmp 17)),none⟩,0,3⟩,⟨fa 21 3 20,0,3⟩,⟨⟨none,.e (.store 1 (.tmp 21) (.val (.int .i64 (.ofNat 5)))),none⟩,0,8⟩,⟨l1 18 2,0,8⟩,⟨mv 19 1,0,8⟩,⟨⟨some 22,.p (.nilchk (.tmp 18)),none⟩,4,8⟩,⟨fa 23 11 22,4,8⟩,⟨⟨none,.e (.store 1 (.tmp 23) (.tmp 19)),none⟩,4,9⟩] [])
 (.seq (.region [mi 4 3] [] [4])
 (.ret)))))
def M388 (F : Nat → Nat) : Fun := ⟨24,2,(K388 F).erase,[.tmp 4]⟩
theorem ok388 {F : Nat → Nat} : (K388 F).ok = true := by kernel_rfl
abbrev K389 (_F : Nat → Nat) : KC := .seq (.region [⟨some 4,.p (.mov (.val (.bool false))),none⟩] [] [0,1])
 (.seq (.seq (.region [mv 6 0,lb 7 6,mv 8 1,lb 9 8,bt 10 .neq 7 9] [] [0,1,10])
 (.cond (.tmp 10) (.seq (.region [⟨some 4,.p (.mov (.val (.bool false))),none⟩] [] [4])
 (.ret))
 (.skip)))
 (.seq (.seq (.region [mv 11 0,lb 12 11,mi 13 0] [] [0,1,12,13])
 (.block 0 (.loop (.seq (.region [bt 14 .lss 13 12] [] [0,1,12,13,14])
 (.seq (.cond (.tmp 14) (.skip)
 (.exit 0))
 (.seq (.block 1 (.seq (.region [mv 15 13,mv 5 15] [] [0,1,5,12,13])
 (.seq (.dregion [⟨mv 16 0,0,9⟩,⟨mv 17 5,0,9⟩,⟨ix 18 1 16 17,0,9⟩,⟨l1 19 18,0,9⟩,⟨mv 20 1,0,9⟩,⟨mv 21 5,0,9⟩,⟨ix 22 1 20 21,0,9⟩,⟨l1 23 22,0,9⟩,⟨bt 24 .neq 19 23,0,9⟩] [0,1,12,13,24])
 (.cond (.tmp 24) (.seq (.region [⟨some 4,.p (.mov (.val (.bool false))),none⟩] [] [4])
 (.ret))
 (.skip)))))
 (.region [bi 25 .add 13 1,mv 13 25] [] [0,1,12,13])))))))
 (.seq (.region [⟨some 4,.p (.mov (.val (.bool true))),none⟩] [] [4])
 (.ret))))
def M389 (F : Nat → Nat) : Fun := ⟨26,2,(K389 F).erase,[.tmp 4]⟩
theorem ok389 {F : Nat → Nat} : (K389 F).ok = true := by kernel_rfl
abbrev K390 (F : Nat → Nat) : KC := .seq (.region [⟨some 4,.p (.mov (.val (.bool false))),none⟩] [] [0,1])
 (.seq (.region [mv 5 0,mv 6 0,⟨some 7,.p (.nilchk (.tmp 6)),none⟩,fa 8 10 7,l1 9 8,mv 10 1,⟨some 11,.a (.bslice [.nilslice,.nilslice] 1 2 [(0,1,(.tmp 9)),(1,1,(.tmp 10))]),none⟩,⟨some 12,.e (.call (F 400) [(.tmp 11)]),none⟩,⟨some 13,.e (.call (F 401) [(.tmp 12)]),none⟩,⟨some 14,.e (.call (F 334) [(.tmp 13)]),none⟩,⟨some 15,.e (.call (F 356) [(.tmp 14)]),none⟩,⟨some 16,.p (.nilchk (.tmp 5)),none⟩,fa 17 10 16,⟨none,.e (.store 1 (.tmp 17) (.tmp 15)),none⟩] [11] [0])
 (.seq (.region [mv 18 0,⟨some 19,.p (.nilchk (.tmp 18)),none⟩,fa 20 10 19,l1 21 20,lb 22 21,bi 23 .leq 22 8,mv 4 23] [] [4])
 (.ret)))
def M390 (F : Nat → Nat) : Fun := ⟨24,2,(K390 F).erase,[.tmp 4]⟩
theorem ok390 {F : Nat → Nat} : (K390 F).ok = true := by kernel_rfl
abbrev K391 (F : Nat → Nat) : KC := .seq (.region [⟨some 1,.a (.box (.tmp 0)),none⟩,mi 2 0] [1] [1])
 (.seq (.dregion [⟨l1 4 1,0,8⟩,⟨⟨some 5,.p (.nilchk (.tmp 4)),none⟩,0,8⟩,⟨fa 6 1 5,0,8⟩,⟨l1 7 6,0,8⟩,⟨l1 8 1,0,8⟩,⟨⟨some 9,.p (.nilchk (.tmp 8)),none⟩,0,8⟩,⟨fa 10 5 9,0,8⟩,⟨l1 11 10,0,8⟩,⟨⟨some 12,.e (.call (F 343) [(.tmp 7),(.tmp 11)]),none⟩,0,9⟩] [1])
 (.seq (.region [⟨some 13,.p (.mkfunc (F 402) [] [(.tmp 1)]),none⟩,⟨some 3,.a (.new [.nilfunc]),none⟩,⟨none,.e (.store 1 (.tmp 3) (.tmp 13)),none⟩] [] [1,3])
 (.seq (.region [l1 14 1,⟨some 15,.p (.mkfunc (F 403) [] [(.tmp 3),(.tmp 1)]),none⟩,⟨some 16,.e (.call (F 399) [(.tmp 14),(.tmp 15)]),none⟩] [] [1])
 (.seq (.region [l1 17 1,⟨some 18,.p (.nilchk (.tmp 17)),none⟩,fa 19 3 18,⟨none,.e (.store 1 (.tmp 19) (.val (.int .i64 (.ofNat 5)))),none⟩] [] [])
 (.seq (.region [mi 2 3] [] [2])
 (.ret))))))
def M391 (F : Nat → Nat) : Fun := ⟨20,1,(K391 F).erase,[.tmp 2]⟩
theorem ok391 {F : Nat → Nat} : (K391 F).ok = true := by kernel_rfl
abbrev K392 (_F : Nat → Nat) : KC := .seq (.region [⟨some 2,.p (.mov (.val (.nilslice))),none⟩] [] [0])
 (.seq (.region [mv 3 0,mv 4 0,lb 5 4,mv 6 0,lb 7 6,⟨some 8,.p (.slc 8 (.tmp 3) none (some (.tmp 5)) (some (.tmp 7))),none⟩,mv 2 8] [] [2])
 (.ret))
def M392 (F : Nat → Nat) : Fun := ⟨9,1,(K392 F).erase,[.tmp 2]⟩
theorem ok392 {F : Nat → Nat} : (K392 F).ok = true := by kernel_rfl
abbrev K393 (F : Nat → Nat) : KC := .seq (.region [⟨some 3,.a (.box (.tmp 1)),none⟩,⟨some 4,.a (.new [.int .i64 (.ofNat 0),.int .i64 (.ofNat 0),.nilslice]),none⟩] [3] [0,3,4])
 (.seq (.region [fa 14 1 3,l1 15 14,⟨some 16,.e (.call (F 3) [(.tmp 15),(.val (.int .i64 (.ofNat 0)))]),none⟩,⟨some 5,.a (.new [.bool false,.int .i64 (.ofNat 0),.int .i64 (.ofNat 0),.nilslice]),none⟩,⟨none,.e (.store 4 (.tmp 5) (.tmp 16)),none⟩] [] [0,3,4,5])
 (.seq (.region [mv 18 0,ln 19 4 5,⟨some 20,.p (.build [.int .i64 (.ofNat 0),.int .i64 (.ofNat 0),.int .i64 (.ofNat 0),.bool false,.int .i64 (.ofNat 0),.int .i64 (.ofNat 0),.nilslice,.nilslice] [(0,1,(.val (.int .i64 (.ofNat 2)))),(2,1,(.val (.int .i64 (.ofNat 1)))),(3,4,(.tmp 19))]),none⟩,⟨some 21,.e (.call (F 394) [(.tmp 18),(.tmp 20)]),none⟩,mv 17 21,et 22 17 0,et 23 17 1,mv 6 22,mv 7 23] [] [0,3,4,5,6,7])
 (.seq (.block 0 (.seq (.region [mv 25 7,bi 26 .neq 25 0,mv 24 26] [] [0,3,4,5,6,7,24])
 (.cond (.tmp 24) (.seq (.region [mv 27 7,⟨some 28,.p (.build [.int .i64 (.ofNat 0),.int .i64 (.ofNat 0),.nilslice] [(0,1,(.tmp 27))]),none⟩,⟨none,.e (.store 3 (.tmp 4) (.tmp 28)),none⟩] [] [4])
 (.ret))
 (.seq (.region [mv 30 6,lb 31 30,bi 32 .gtr 31 0,mv 29 32] [] [0,3,4,5,29])
 (.cond (.tmp 29) (.seq (.region [⟨some 33,.p (.build [.int .i64 (.ofNat 0),.int .i64 (.ofNat 0),.nilslice] [(0,1,(.val (.int .i64 (.ofNat 1))))]),none⟩,⟨none,.e (.store 3 (.tmp 4) (.tmp 33)),none⟩] [] [4])
 (.ret))
 (.skip))))))
 (.seq (.region [mv 34 0,⟨some 35,.p (.nilchk (.tmp 34)),none⟩,fa 36 1 35,l1 37 36,⟨some 38,.e (.call (F 346) [(.tmp 37)]),none⟩,mv 8 38] [] [0,3,4,5,8])
 (.seq (.seq (.dregion [⟨mv 39 0,0,6⟩,⟨⟨some 40,.p (.nilchk (.tmp 39)),none⟩,0,6⟩,⟨fa 41 0 40,0,6⟩,⟨l1 42 41,0,6⟩,⟨fa 43 2 5,0,6⟩,⟨l1 44 43,0,6⟩,⟨⟨some 45,.e (.call (F 312) [(.tmp 42),(.tmp 44)]),none⟩,0,9⟩,⟨lb 46 45,7,9⟩,⟨mi 47 0,0,9⟩] [0,3,4,8,45,46,47])
 (.block 1 (.loop (.seq (.region [bt 48 .lss 47 46] [] [0,3,4,8,45,46,47,48])
 (.seq (.cond (.tmp 48) (.skip)
 (.exit 1))
 (.seq (.block 2 (.seq (.region [ix 49 1 45 47,l1 50 49,mv 10 50] [] [0,3,4,8,10,45,46,47])
 (.seq (.region [mv 52 0,⟨some 53,.p (.nilchk (.tmp 52)),none⟩,fa 54 0 53,l1 55 54,mv 56 10,⟨some 57,.e (.call (F 306) [(.tmp 55),(.tmp 56)]),none⟩,mv 51 57,et 58 51 0,et 59 51 1,⟨some 11,.a (.new [.int .i64 (.ofNat 0),.nilslice,.int .i64 (.ofNat 0),.int .i64 (.ofNat 0),.int .i64 (.ofNat 0),.int .i64 (.ofNat 0)]),none⟩,⟨none,.e (.store 6 (.tmp 11) (.tmp 58)),none⟩,mv 12 59] [] [0,3,4,8,11,45,46,47])
 (.seq (.region [mv 60 0,ln 61 6 11,mv 62 8,⟨some 63,.e (.call (F 404) [(.tmp 60),(.tmp 61),(.tmp 62)]),none⟩] [] [0,3,4,8,45,46,47,63])
 (.cond (.tmp 63) (.seq (.region [⟨some 64,.p (.build [.int .i64 (.ofNat 0),.int .i64 (.ofNat 0),.nilslice] [(0,1,(.val (.int .i64 (.ofNat 5))))]),none⟩,⟨none,.e (.store 3 (.tmp 4) (.tmp 64)),none⟩] [] [4])
 (.ret))
 (.skip))))))
 (.region [bi 65 .add 47 1,mv 47 65] [] [0,3,4,8,45,46,47])))))))
 (.seq (.seq (.region [mv 66 0,fa 67 1 3,l1 68 67,⟨some 69,.e (.call (F 405) [(.tmp 66),(.tmp 68)]),none⟩,mv 13 69] [] [4,13])
 (.seq (.region [mv 70 13,bi 71 .neq 70 0] [] [4,13,71])
 (.cond (.tmp 71) (.seq (.region [mv 72 13,⟨some 73,.p (.build [.int .i64 (.ofNat 0),.int .i64 (.ofNat 0),.nilslice] [(0,1,(.tmp 72))]),none⟩,⟨none,.e (.store 3 (.tmp 4) (.tmp 73)),none⟩] [] [4])
 (.ret))
 (.skip))))
 (.seq (.region [⟨some 74,.p (.build [.int .i64 (.ofNat 0),.int .i64 (.ofNat 0),.nilslice] [(1,1,(.val (.int .i64 (.ofNat 1))))]),none⟩,⟨none,.e (.store 3 (.tmp 4) (.tmp 74)),none⟩] [] [4])
 (.ret))))))))
def M393 (F : Nat → Nat) : Fun := ⟨75,2,(K393 F).erase,[.celln 3 4]⟩
theorem ok393 {F : Nat → Nat} : (K393 F).ok = true := by kernel_rfl
abbrev K394 (F : Nat → Nat) : KC := .seq (.region [⟨some 3,.a (.box (.tmp 1)),none⟩,⟨some 4,.p (.mov (.val (.nilslice))),none⟩,mi 5 0] [3] [0,3])
 (.seq (.dregion [⟨mv 11 0,0,17⟩,⟨⟨some 12,.p (.nilchk (.tmp 11)),none⟩,0,17⟩,⟨fa 13 0 12,0,17⟩,⟨l1 14 13,0,17⟩,⟨mv 15 0,0,17⟩,⟨⟨some 16,.p (.nilchk (.tmp 15)),none⟩,0,17⟩,⟨fa 17 1 16,0,17⟩,⟨l1 18 17,0,17⟩,⟨mv 19 0,0,17⟩,⟨⟨some 20,.p (.nilchk (.tmp 19)),none⟩,0,17⟩,⟨fa 21 5 20,0,17⟩,⟨l1 22 21,0,17⟩,⟨mv 23 0,0,17⟩,⟨⟨some 24,.p (.nilchk (.tmp 23)),none⟩,0,17⟩,⟨fa 25 6 24,0,17⟩,⟨l1 26 25,0,17⟩,⟨ln 27 8 3,0,17⟩,⟨⟨some 28,.e (.call (F 359) [(.tmp 14),(.tmp 18),(.tmp 22),(.tmp 26),(.tmp 27)]),none⟩,0,23⟩,⟨mv 10 28,18,23⟩,⟨et 29 10 0,18,23⟩,⟨et 30 10 1,18,23⟩,⟨mv 6 29,18,23⟩,⟨mv 7 30,18,23⟩] [0,3,6,7])
 (.seq (.dregion [⟨mv 32 0,0,17⟩,⟨⟨some 33,.p (.nilchk (.tmp 32)),none⟩,0,17⟩,⟨fa 34 0 33,0,17⟩,⟨l1 35 34,0,17⟩,⟨mv 36 0,0,17⟩,⟨⟨some 37,.p (.nilchk (.tmp 36)),none⟩,0,17⟩,⟨fa 38 1 37,0,17⟩,⟨l1 39 38,0,17⟩,⟨mv 40 0,0,17⟩,⟨⟨some 41,.p (.nilchk (.tmp 40)),none⟩,0,17⟩,⟨fa 42 5 41,0,17⟩,⟨l1 43 42,0,17⟩,⟨mv 44 0,0,17⟩,⟨⟨some 45,.p (.nilchk (.tmp 44)),none⟩,0,17⟩,⟨fa 46 6 45,0,17⟩,⟨l1 47 46,0,17⟩,⟨ln 48 8 3,0,17⟩,⟨⟨some 49,.e (.call (F 360) [(.tmp 35),(.tmp 39),(.tmp 43),(.tmp 47),(.tmp 48)]),none⟩,0,23⟩,⟨mv 31 49,18,23⟩,⟨et 50 31 0,18,23⟩,⟨et 51 31 1,18,23⟩,⟨mv 8 50,18,23⟩,⟨mv 9 51,18,23⟩] [0,3,6,7,8])
 (.seq (.dregion [⟨mv 53 0,0,8⟩,⟨⟨some 54,.p (.nilchk (.tmp 53)),none⟩,0,8⟩,⟨fa 55 9 54,0,8⟩,⟨l1 56 55,0,8⟩,⟨ln 57 8 3,0,8⟩,⟨mv 58 8,0,8⟩,⟨⟨some 59,.p (.build [.int .i64 (.ofNat 0),.int .i64 (.ofNat 0),.int .i64 (.ofNat 0),.bool false,.int .i64 (.ofNat 0),.int .i64 (.ofNat 0),.nilslice,.nilslice,.nilslice] [(0,8,(.tmp 57)),(8,1,(.tmp 58))]),none⟩,0,8⟩,⟨⟨some 60,.a (.bslice [.int .i64 (.ofNat 0),.int .i64 (.ofNat 0),.int .i64 (.ofNat 0),.bool false,.int .i64 (.ofNat 0),.int .i64 (.ofNat 0),.nilslice,.nilslice,.nilslice] 9 1 [(0,9,(.tmp 59))]),none⟩,0,8⟩,⟨⟨some 61,.e (.append 9 120 (.tmp 56) (.tmp 60)),none⟩,0,12⟩,⟨mv 52 0,0,12⟩,⟨⟨some 62,.p (.nilchk (.tmp 52)),none⟩,9,12⟩,⟨fa 63 9 62,9,12⟩,⟨⟨none,.e (.store 1 (.tmp 63) (.tmp 61)),none⟩,9,13⟩] [0,6,7])
 (.seq (.seq (.region [mv 64 0,mv 65 7,⟨some 66,.e (.call (F 390) [(.tmp 64),(.tmp 65)]),none⟩,⟨some 67,.p (.not (.tmp 66)),none⟩] [] [6,67])
 (.cond (.tmp 67) (.seq (.region [⟨some 4,.p (.mov (.val (.nilslice))),none⟩,mi 5 8] [] [4,5])
 (.ret))
 (.skip)))
 (.seq (.region [mv 68 6,mv 4 68,mi 5 0] [] [4,5])
 (.ret))))))
def M394 (F : Nat → Nat) : Fun := ⟨69,2,(K394 F).erase,[.tmp 4,.tmp 5]⟩
theorem ok394 {F : Nat → Nat} : (K394 F).ok = true := by kernel_rfl
abbrev K398 (F : Nat → Nat) : KC := .seq (.region [⟨some 2,.a (.box (.tmp 0)),none⟩] [2] [1,2])
 (.block 0 (.seq (.dregion [⟨fa 4 2 2,0,10⟩,⟨fa 5 0 4,0,10⟩,⟨fa 6 0 5,0,10⟩,⟨l1 7 6,0,10⟩,⟨l1 8 1,0,10⟩,⟨⟨some 9,.p (.nilchk (.tmp 8)),none⟩,0,10⟩,⟨fa 10 5 9,0,10⟩,⟨l1 11 10,0,10⟩,⟨bt 12 .eql 7 11,0,10⟩,⟨mv 3 12,0,10⟩] [1,2,3])
 (.cond (.tmp 3) (.dregion [⟨l1 13 1,0,6⟩,⟨⟨some 14,.p (.nilchk (.tmp 13)),none⟩,0,6⟩,⟨fa 15 0 14,0,6⟩,⟨l1 16 15,0,6⟩,⟨fa 17 0 2,0,6⟩,⟨l1 18 17,0,6⟩,⟨⟨some 19,.e (.call (F 309) [(.tmp 16),(.tmp 18)]),none⟩,0,7⟩] [])
 (.seq (.dregion [⟨fa 21 2 2,0,10⟩,⟨fa 22 2 21,0,10⟩,⟨fa 23 0 22,0,10⟩,⟨l1 24 23,0,10⟩,⟨l1 25 1,0,10⟩,⟨⟨some 26,.p (.nilchk (.tmp 25)),none⟩,0,10⟩,⟨fa 27 5 26,0,10⟩,⟨l1 28 27,0,10⟩,⟨bt 29 .eql 24 28,0,10⟩,⟨mv 20 29,0,10⟩] [1,2,20])
 (.cond (.tmp 20) (.dregion [⟨l1 30 1,0,10⟩,⟨⟨some 31,.p (.nilchk (.tmp 30)),none⟩,0,10⟩,⟨fa 32 0 31,0,10⟩,⟨l1 33 32,0,10⟩,⟨fa 34 0 2,0,10⟩,⟨l1 35 34,0,10⟩,⟨fa 36 2 2,0,10⟩,⟨fa 37 0 36,0,10⟩,⟨ln 38 2 37,0,10⟩,⟨⟨some 39,.p (.build [.int .i64 (.ofNat 0),.int .i64 (.ofNat 0),.int .i64 (.ofNat 0),.int .i64 (.ofNat 0)] [(0,2,(.tmp 38))]),none⟩,0,10⟩,⟨⟨some 40,.e (.call (F 308) [(.tmp 33),(.tmp 35),(.tmp 39)]),none⟩,0,11⟩] [])
 (.skip))))))
def M398 (F : Nat → Nat) : Fun := ⟨41,2,(K398 F).erase,[]⟩
theorem ok398 {F : Nat → Nat} : (K398 F).ok = true := by kernel_rfl
abbrev K399 (F : Nat → Nat) : KC := .seq (.region [mv 8 0,⟨some 9,.p (.nilchk (.tmp 8)),none⟩,fa 10 0 9,l1 11 10,⟨some 12,.e (.call (F 310) [(.tmp 11)]),none⟩,lb 13 12,mi 14 0] [] [0,1,12,13,14])
 (.block 0 (.loop (.seq (.region [bt 15 .lss 14 13] [] [0,1,12,13,14,15])
 (.seq (.cond (.tmp 15) (.skip)
 (.exit 0))
 (.seq (.block 1 (.seq (.region [ix 16 1 12 14,l1 17 16,mv 5 17] [] [0,1,5,12,13,14])
 (.seq (.region [mv 19 0,⟨some 20,.p (.nilchk (.tmp 19)),none⟩,fa 21 0 20,l1 22 21,mv 23 5,⟨some 24,.e (.call (F 306) [(.tmp 22),(.tmp 23)]),none⟩,mv 18 24,et 25 18 0,et 26 18 1,⟨some 6,.a (.new [.int .i64 (.ofNat 0),.nilslice,.int .i64 (.ofNat 0),.int .i64 (.ofNat 0),.int .i64 (.ofNat 0),.int .i64 (.ofNat 0)]),none⟩,⟨none,.e (.store 6 (.tmp 6) (.tmp 25)),none⟩,mv 7 26] [] [0,1,6,12,13,14])
 (.region [mv 27 1,ln 28 6 6,⟨some 29,.e (.callv (.tmp 27) [(.tmp 28)]),none⟩] [] [0,1,12,13,14]))))
 (.region [bi 30 .add 14 1,mv 14 30] [] [0,1,12,13,14]))))))
def M399 (F : Nat → Nat) : Fun := ⟨31,2,(K399 F).erase,[]⟩
theorem ok399 {F : Nat → Nat} : (K399 F).ok = true := by kernel_rfl
abbrev K400 (F : Nat → Nat) : KC := .seq (.region [⟨some 2,.p (.mov (.val (.nilslice))),none⟩] [] [0])
 (.seq (.region [mi 3 0] [] [0,3])
 (.seq (.seq (.region [mv 9 0,lb 10 9,mi 11 0] [] [0,3,9,10,11])
 (.block 0 (.loop (.seq (.region [bt 12 .lss 11 10] [] [0,3,9,10,11,12])
 (.seq (.cond (.tmp 12) (.skip)
 (.exit 0))
 (.seq (.block 1 (.seq (.region [ix 13 1 9 11,l1 14 13,mv 5 14] [] [0,3,5,9,10,11])
 (.seq (.region [mv 15 3,mv 16 5,lb 17 16,bt 18 .add 15 17,mv 3 18] [] [0,3,9,10,11])
 (.seq (.region [mv 19 3,bi 20 .lss 19 0] [] [0,3,9,10,11,20])
 (.cond (.tmp 20) (.region [⟨some 21,.p (.mkiface 9 (.val (.str [108,101,110,32,111,117,116,32,111,102,32,114,97,110,103,101]))),none⟩,⟨none,.e (.stop),none⟩] [] [0,3,9,10,11])
 (.skip))))))
 (.region [bi 22 .add 11 1,mv 11 22] [] [0,3,9,10,11])))))))
 (.seq (.region [mv 23 3,⟨some 24,.e (.call (F 408) [(.val (.nilslice)),(.tmp 23)]),none⟩,mv 6 24] [] [0,6])
 (.seq (.seq (.region [mv 25 0,lb 26 25,mi 27 0] [] [6,25,26,27])
 (.block 2 (.loop (.seq (.region [bt 28 .lss 27 26] [] [6,25,26,27,28])
 (.seq (.cond (.tmp 28) (.skip)
 (.exit 2))
 (.seq (.block 3 (.seq (.region [ix 29 1 25 27,l1 30 29,mv 8 30] [] [6,8,25,26,27])
 (.region [mv 31 6,mv 32 8,⟨some 33,.e (.append 1 8 (.tmp 31) (.tmp 32)),none⟩,mv 6 33] [] [6,25,26,27])))
 (.region [bi 34 .add 27 1,mv 27 34] [] [6,25,26,27])))))))
 (.seq (.region [mv 35 6,mv 2 35] [] [2])
 (.ret))))))
def M400 (F : Nat → Nat) : Fun := ⟨36,1,(K400 F).erase,[.tmp 2]⟩
theorem ok400 {F : Nat → Nat} : (K400 F).ok = true := by kernel_rfl
abbrev K401 (F : Nat → Nat) : KC := .seq (.region [⟨some 1,.a (.box (.tmp 0)),none⟩,⟨some 2,.p (.mov (.val (.nilfunc))),none⟩] [1] [1])
 (.seq (.region [⟨some 3,.p (.mkfunc (F 409) [] [(.tmp 1)]),none⟩,mv 2 3] [] [2])
 (.ret))
def M401 (F : Nat → Nat) : Fun := ⟨4,1,(K401 F).erase,[.tmp 2]⟩
theorem ok401 {F : Nat → Nat} : (K401 F).ok = true := by kernel_rfl
abbrev K402 (_F : Nat → Nat) : KC := .seq (.region [⟨some 2,.a (.box (.tmp 0)),none⟩,⟨some 3,.a (.new [.int .i64 (.ofNat 0),.int .i64 (.ofNat 0)]),none⟩] [2] [1,2,3])
 (.seq (.seq (.dregion [⟨fa 4 0 2,0,7⟩,⟨l1 5 4,0,7⟩,⟨l1 6 1,0,7⟩,⟨⟨some 7,.p (.nilchk (.tmp 6)),none⟩,0,7⟩,⟨fa 8 5 7,0,7⟩,⟨l1 9 8,0,7⟩,⟨bt 10 .eql 5 9,0,7⟩] [1,2,3,10])
 (.cond (.tmp 10) (.seq (.region [l1 11 1,⟨some 12,.p (.nilchk (.tmp 11)),none⟩,fa 13 7 12,l1 14 13,⟨some 15,.p (.build [.int .i64 (.ofNat 0),.int .i64 (.ofNat 0)] [(1,1,(.tmp 14))]),none⟩,⟨none,.e (.store 2 (.tmp 3) (.tmp 15)),none⟩] [] [3])
 (.ret))
 (.skip)))
 (.seq (.region [ln 16 2 2,⟨none,.e (.store 2 (.tmp 3) (.tmp 16)),none⟩] [] [3])
 (.ret)))
def M402 (F : Nat → Nat) : Fun := ⟨17,2,(K402 F).erase,[.celln 2 3]⟩
theorem ok402 {F : Nat → Nat} : (K402 F).ok = true := by kernel_rfl
abbrev K403 (F : Nat → Nat) : KC := .seq (.region [⟨some 3,.a (.box (.tmp 0)),none⟩] [3] [1,2,3])
 (.seq (.dregion [⟨l1 5 1,0,4⟩,⟨fa 6 2 3,0,4⟩,⟨fa 7 0 6,0,4⟩,⟨ln 8 2 7,0,4⟩,⟨⟨some 9,.e (.callv (.tmp 5) [(.tmp 8)]),none⟩,0,9⟩,⟨l1 10 1,0,9⟩,⟨fa 11 2 3,0,9⟩,⟨fa 12 2 11,0,9⟩,⟨ln 13 2 12,0,9⟩,⟨⟨some 14,.e (.callv (.tmp 10) [(.tmp 13)]),none⟩,5,12⟩,⟨⟨some 15,.p (.build [.int .i64 (.ofNat 0),.int .i64 (.ofNat 0),.int .i64 (.ofNat 0),.int .i64 (.ofNat 0)] [(0,2,(.tmp 9)),(2,2,(.tmp 14))]),none⟩,10,12⟩,⟨⟨some 4,.a (.new [.int .i64 (.ofNat 0),.int .i64 (.ofNat 0),.int .i64 (.ofNat 0),.int .i64 (.ofNat 0)]),none⟩,0,12⟩,⟨⟨none,.e (.store 4 (.tmp 4) (.tmp 15)),none⟩,10,13⟩] [2,3,4])
 (.seq (.region [ln 16 4 4,fa 17 2 3,ln 18 4 17,⟨some 19,.p (.eq (.struct [(0,(some 2),(.struct [(0,none,.int),(1,none,.int)])),(2,(some 2),(.struct [(0,none,.int),(1,none,.int)]))]) true (.tmp 16) (.tmp 18)),none⟩] [] [2,3,4,19])
 (.cond (.tmp 19) (.dregion [⟨l1 20 2,0,7⟩,⟨⟨some 21,.p (.nilchk (.tmp 20)),none⟩,0,7⟩,⟨fa 22 0 21,0,7⟩,⟨l1 23 22,0,7⟩,⟨fa 24 0 3,0,7⟩,⟨l1 25 24,0,7⟩,⟨ln 26 4 4,0,7⟩,⟨⟨some 27,.e (.call (F 308) [(.tmp 23),(.tmp 25),(.tmp 26)]),none⟩,0,8⟩] [])
 (.skip))))
def M403 (F : Nat → Nat) : Fun := ⟨28,3,(K403 F).erase,[]⟩
theorem ok403 {F : Nat → Nat} : (K403 F).ok = true := by kernel_rfl
abbrev K404 (F : Nat → Nat) : KC := .seq (.region [⟨some 4,.a (.box (.tmp 1)),none⟩,⟨some 6,.p (.mov (.val (.bool false))),none⟩] [4] [0,2,4])
 (.seq (.dregion [⟨fa 10 2 4,0,17⟩,⟨fa 11 0 10,0,17⟩,⟨fa 12 0 11,0,17⟩,⟨l1 13 12,0,17⟩,⟨bi 14 .eql 13 0,0,17⟩,⟨mv 15 14,0,17⟩,⟨⟨some 16,.p (.faddr 2 (.tmp 4)),(some (15,true))⟩,0,17⟩,⟨⟨some 17,.p (.faddr 0 (.tmp 16)),(some (15,true))⟩,0,17⟩,⟨⟨some 18,.p (.faddr 1 (.tmp 17)),(some (15,true))⟩,0,17⟩,⟨⟨some 19,.load1 (.tmp 18),(some (15,true))⟩,0,17⟩,⟨⟨some 20,.p (.mov (.tmp 0)),(some (15,true))⟩,0,17⟩,⟨⟨some 21,.p (.nilchk (.tmp 20)),(some (15,true))⟩,0,17⟩,⟨⟨some 22,.p (.faddr 6 (.tmp 21)),(some (15,true))⟩,0,17⟩,⟨⟨some 23,.load1 (.tmp 22),(some (15,true))⟩,0,17⟩,⟨⟨some 24,.p (.bin .gtr (.tmp 19) (.tmp 23)),(some (15,true))⟩,0,17⟩,⟨⟨some 25,.p (.pick (.tmp 15) (.tmp 24) (.val (.bool false))),none⟩,0,17⟩,⟨mv 7 25,0,17⟩] [0,2,4,7])
 (.seq (.seq (.region [fa 26 2 4,fa 27 0 26,fa 28 0 27,l1 29 28,mv 8 29] [] [0,2,4,7,8])
 (.seq (.region [mv 30 8,bi 31 .neq 30 0,mv 32 31,⟨some 33,.p (.mov (.tmp 8)),(some (32,true))⟩,⟨some 34,.p (.mov (.tmp 0)),(some (32,true))⟩,⟨some 35,.p (.nilchk (.tmp 34)),(some (32,true))⟩,⟨some 36,.p (.faddr 5 (.tmp 35)),(some (32,true))⟩,⟨some 37,.load1 (.tmp 36),(some (32,true))⟩,⟨some 38,.p (.bin .neq (.tmp 33) (.tmp 37)),(some (32,true))⟩,⟨some 39,.p (.pick (.tmp 32) (.tmp 38) (.val (.bool false))),none⟩] [] [2,4,7,8,39])
 (.cond (.tmp 39) (.seq (.region [mv 40 8,mv 41 2,⟨some 42,.e (.call (F 340) [(.tmp 40),(.tmp 41)]),none⟩,⟨some 43,.p (.field1 1 (.tmp 42)),none⟩,mv 9 43] [] [4,9])
 (.region [mv 44 9,bi 45 .eql 44 1,mv 46 45,⟨some 47,.p (.mov (.tmp 9)),(some (46,false))⟩,⟨some 48,.p (.bin .eql (.tmp 47) (.val (.int .i64 (.ofNat 2)))),(some (46,false))⟩,⟨some 49,.p (.pick (.tmp 46) (.val (.bool true)) (.tmp 48)),none⟩,mv 7 49] [] [4,7]))
 (.skip))))
 (.seq (.region [mv 50 7,mv 51 50,⟨some 52,.p (.faddr 2 (.tmp 4)),(some (51,true))⟩,⟨some 53,.p (.faddr 2 (.tmp 52)),(some (51,true))⟩,⟨some 54,.loadn 2 (.tmp 53),(some (51,true))⟩,⟨some 55,.e (.call (F 349) [(.tmp 54)]),(some (51,true))⟩,⟨some 56,.p (.mov (.tmp 55)),(some (51,true))⟩,⟨some 57,.p (.faddr 2 (.tmp 4)),(some (56,false))⟩,⟨some 58,.p (.faddr 2 (.tmp 57)),(some (56,false))⟩,⟨some 59,.p (.faddr 0 (.tmp 58)),(some (56,false))⟩,⟨some 60,.load1 (.tmp 59),(some (56,false))⟩,⟨some 61,.p (.bin .neq (.tmp 60) (.val (.int .i64 (.ofNat 0)))),(some (56,false))⟩,⟨some 62,.p (.pick (.tmp 56) (.val (.bool true)) (.tmp 61)),(some (51,true))⟩,⟨some 63,.p (.pick (.tmp 51) (.tmp 62) (.val (.bool false))),none⟩,mv 6 63] [] [6])
 (.ret))))
def M404 (F : Nat → Nat) : Fun := ⟨64,3,(K404 F).erase,[.tmp 6]⟩
theorem ok404 {F : Nat → Nat} : (K404 F).ok = true := by kernel_rfl
abbrev K405 (F : Nat → Nat) : KC := .seq (.region [mi 4 0] [] [0,1])
 (.seq (.seq (.dregion [⟨mv 13 0,0,1⟩,⟨⟨some 14,.e (.call (F 410) [(.tmp 13)]),none⟩,0,8⟩,⟨mv 8 0,0,8⟩,⟨⟨some 9,.p (.nilchk (.tmp 8)),none⟩,0,8⟩,⟨fa 10 0 9,0,8⟩,⟨l1 11 10,0,8⟩,⟨mv 12 1,0,8⟩,⟨⟨some 15,.p (.build [.int .i64 (.ofNat 0),.int .i64 (.ofNat 0),.int .i64 (.ofNat 0),.int .i64 (.ofNat 0)] [(0,2,(.tmp 14))]),none⟩,2,8⟩,⟨⟨some 16,.e (.call (F 304) [(.tmp 11),(.tmp 12),(.tmp 15)]),none⟩,2,14⟩,⟨mv 7 16,9,14⟩,⟨et 17 7 0,9,14⟩,⟨et 18 7 1,9,14⟩,⟨mv 5 17,9,14⟩,⟨mv 6 18,9,14⟩] [6])
 (.seq (.region [mv 19 6,⟨some 20,.p (.not (.tmp 19)),none⟩] [] [20])
 (.cond (.tmp 20) (.seq (.region [mi 4 4] [] [4])
 (.ret))
 (.skip))))
 (.seq (.region [mi 4 0] [] [4])
 (.ret)))
def M405 (F : Nat → Nat) : Fun := ⟨21,2,(K405 F).erase,[.tmp 4]⟩
theorem ok405 {F : Nat → Nat} : (K405 F).ok = true := by kernel_rfl
abbrev K408 (_F : Nat → Nat) : KC := .seq (.region [⟨some 4,.p (.mov (.val (.nilslice))),none⟩] [] [0,1])
 (.seq (.seq (.region [mv 5 1,bi 6 .lss 5 0] [] [0,1,6])
 (.cond (.tmp 6) (.region [⟨some 7,.p (.mkiface 9 (.val (.str [99,97,110,110,111,116,32,98,101,32,110,101,103,97,116,105,118,101]))),none⟩,⟨none,.e (.stop),none⟩] [] [0,1])
 (.skip)))
 (.seq (.seq (.region [mv 8 1,mv 9 0,⟨some 10,.p (.caps (.tmp 9)),none⟩,mv 11 0,lb 12 11,bt 13 .sub 10 12,bt 14 .sub 8 13,mv 1 14] [] [0,1])
 (.seq (.region [mv 15 1,bi 16 .gtr 15 0] [] [0,1,16])
 (.cond (.tmp 16) (.region [mv 17 0,mv 18 0,⟨some 19,.p (.caps (.tmp 18)),none⟩,⟨some 20,.p (.slc 1 (.tmp 17) none (some (.tmp 19)) none),none⟩,mv 21 1,⟨some 22,.e (.appendz [.int .i64 (.ofNat 0)] 1 8 (.tmp 20) (.tmp 21)),none⟩,mv 23 0,lb 24 23,⟨some 25,.p (.slc 1 (.tmp 22) none (some (.tmp 24)) none),none⟩,mv 0 25] [] [0])
 (.skip))))
 (.seq (.region [mv 26 0,mv 4 26] [] [4])
 (.ret))))
def M408 (F : Nat → Nat) : Fun := ⟨27,2,(K408 F).erase,[.tmp 4]⟩
theorem ok408 {F : Nat → Nat} : (K408 F).ok = true := by kernel_rfl
abbrev K410 (_F : Nat → Nat) : KC := .seq (.region [⟨some 2,.a (.new [.int .i64 (.ofNat 0),.int .i64 (.ofNat 0)]),none⟩] [] [0,2])
 (.seq (.region [mv 3 0,⟨some 4,.p (.nilchk (.tmp 3)),none⟩,fa 5 5 4,l1 6 5,⟨some 7,.p (.build [.int .i64 (.ofNat 0),.int .i64 (.ofNat 0)] [(0,1,(.tmp 6))]),none⟩,⟨none,.e (.store 2 (.tmp 2) (.tmp 7)),none⟩] [] [2])
 (.ret))
def M410 (F : Nat → Nat) : Fun := ⟨8,1,(K410 F).erase,[.celln 2 2]⟩
theorem ok410 {F : Nat → Nat} : (K410 F).ok = true := by kernel_rfl
end Go.Lib
end

section
set_option maxRecDepth 10000
namespace Go.Lib
open Go.Vm Go.Dv
end Go.Lib
end
