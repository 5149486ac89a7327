/-
  Texts that the claim's last one rests on, joined.
-/
import Derived.Test.YtnbmmnjihipahaaBModlPlaysi
import Derived.Test.YtnbmmnjihipahaaBModlPlaysh
import Derived.Test.YtnbmmnjihipahaaBModlPlaysf

section
set_option maxRecDepth 10000
namespace Go.Lib
open Go.Vm Go.Dv Go.Srt
variable {p : Prog} {ext : Ext} {F : Nat → Nat}
inductive Pr where
  | mk (kind col op : Int) (v : Vl) (l : List Pr)
def Pr.kind : Pr → Int | .mk k _ _ _ _ => k
def Pr.col : Pr → Int | .mk _ c _ _ _ => c
def Pr.op : Pr → Int | .mk _ _ o _ _ => o
def Pr.v : Pr → Vl | .mk _ _ _ v _ => v
def Pr.l : Pr → List Pr | .mk _ _ _ _ l => l
mutual
def Pr.c : Pr → List D
  | .mk k c o v l => [.lit (.int .i64 k), .lit (.int .i64 c), .lit (.int .i64 o), .lit (.bool v.null), .lit (.int .i64 v.kind), .lit (.int .i64 v.n), byD v.bytes, .row 8 .p (Pr.cs l)]
def Pr.cs : List Pr → List (List D)
  | [] => []
  | p :: l => p.c :: Pr.cs l
end
theorem Pr.cs_map : ∀ {l : List Pr}, Pr.cs l = l.map Pr.c
  | [] => by simp [Pr.cs]
  | p :: l => by simp [Pr.cs, Pr.cs_map (l := l)]
def prsD (l : List Pr) : D := .row 8 .p (l.map Pr.c)
theorem pr_c {q : Pr} : q.c = [.lit (.int .i64 q.kind), .lit (.int .i64 q.col), .lit (.int .i64 q.op), .lit (.bool q.v.null), .lit (.int .i64 q.v.kind), .lit (.int .i64 q.v.n), byD q.v.bytes, prsD q.l] := by
  cases q; simp [Pr.c, Pr.kind, Pr.col, Pr.op, Pr.v, Pr.l, prsD, Pr.cs_map]
theorem pr_0 {q : Pr} : q.c[0]? = some (.lit (.int .i64 q.kind)) := by rw [pr_c]; rfl
theorem pr_1 {q : Pr} : q.c[1]? = some (.lit (.int .i64 q.col)) := by rw [pr_c]; rfl
theorem pr_2 {q : Pr} : q.c[2]? = some (.lit (.int .i64 q.op)) := by rw [pr_c]; rfl
theorem pr_7 {q : Pr} : q.c[7]? = some (prsD q.l) := by rw [pr_c]; rfl
theorem pr_len {q : Pr} : q.c.length = 8 := by rw [pr_c]; rfl
theorem pr_g {q : Pr} {i : Nat} {d : D} (h : q.c[i]? = some d) (hi : i < q.c.length) : q.c[i] = d := (List.getElem?_eq_some_iff.1 h).2
theorem pr_g0 {q : Pr} (h : 0 < q.c.length) : q.c[0] = .lit (.int .i64 q.kind) := pr_g pr_0 h
theorem pr_g1 {q : Pr} (h : 1 < q.c.length) : q.c[1] = .lit (.int .i64 q.col) := pr_g pr_1 h
theorem pr_g2 {q : Pr} (h : 2 < q.c.length) : q.c[2] = .lit (.int .i64 q.op) := pr_g pr_2 h
theorem pr_g7 {q : Pr} (h : 7 < q.c.length) : q.c[7] = prsD q.l := pr_g pr_7 h
theorem pr_v {q : Pr} : (q.c.drop 3).take 4 = q.v.c := by rw [pr_c]; rfl
theorem pr_take {q : Pr} : q.c.take 8 = q.c := List.take_of_length_le (by rw [pr_len]; exact Nat.le_refl _)
theorem pr_drop {q : Pr} : q.c.drop 8 = [] := List.drop_eq_nil_of_le (by rw [pr_len]; exact Nat.le_refl _)
theorem pr_flats {q : Pr} : flatsD q.c = true := by rw [pr_c]; rfl
theorem prs_len {l : List Pr} : lenbD (prsD l) = some (.lit (.int .i64 (l.length : Int))) := by simp [prsD]
theorem at_prs {l : List Pr} {n : Nat} : atO 8 (prsD l) (some n) = elemD (l[n]?.map Pr.c) := by simp [prsD]
theorem pr_unders {n : Nat} : ∀ q : Pr, D.unders n q.c := by
  have key : ∀ (k : Nat) (q : Pr), SizeOf.sizeOf q < k → D.unders n q.c := by
    intro k
    induction k with
    | zero => intro q h; omega
    | succ k ih =>
      intro q h
      cases q with
      | mk kd c o v l =>
        simp only [Pr.c, Pr.cs_map, D.unders, D.under, by_under, true_and, and_true]
        have : ∀ l' : List Pr, (∀ q, q ∈ l' → D.unders n q.c) → D.underss n (l'.map Pr.c) := by
          intro l'
          induction l' with
          | nil => intro _; simp [D.underss]
          | cons q l' ih2 => intro h; simp only [List.map_cons, D.underss]; exact ⟨h q (by simp), ih2 fun x hx => h x (by simp [hx])⟩
        refine this l fun q hq => ih q ?_;have := List.sizeOf_lt_of_mem hq;simp at h; omega
  exact fun q => key (SizeOf.sizeOf q + 1) q (by omega)
theorem prs_under {n : Nat} {l : List Pr} : (prsD l).under n := by simp only [prsD, D.under]; exact underss_map (fun q => pr_unders q) _
theorem cellsD_prs {l : List Pr} : cellsD (prsD l) = some [prsD l] := rfl
theorem prs_flat {l : List Pr} : flatD (prsD l) = true := rfl
attribute [simp] pr_g0 pr_g1 pr_g2 pr_g7 pr_0 pr_1 pr_2 pr_7 pr_len pr_v pr_take pr_drop pr_flats prs_len at_prs pr_unders prs_under cellsD_prs prs_flat
def truthF (b : Bool) : Int := if b then 1 else 2
def notF (n : Int) : Int := if n = 1 then 2 else if n = 2 then 1 else 3
def holdsF (o c : Int) : Bool := if o = 1 then decide (c = 0) else if o = 2 then decide (¬ c = 0) else if o = 3 then decide (c < 0) else if o = 4 then decide (c ≤ 0) else if o = 5 then decide (0 < c) else if o = 6 then decide (0 ≤ c) else false
mutual
def evalF : Pr → Row → Int
  | .mk k c o v l, r => if k = 1 then 1 else if k = 2 then (if (atV r c).null = true then 3 else truthF (holdsF o (cmpV (atV r c) v))) else if k = 3 then truthF (atV r c).null
      else if k = 4 then listF l r 2 1 else if k = 5 then listF l r 1 2 else if k = 6 then headF l r else 3
def headF : List Pr → Row → Int
  | [], _ => 3
  | p :: _, r => notF (evalF p r)
def listF : List Pr → Row → Int → Int → Int
  | [], _, _, cur => cur
  | p :: l, r, d, cur => if evalF p r = d then d else listF l r d (if evalF p r = 3 then 3 else cur)
end
theorem evalF_eq {q : Pr} {r : Row} : evalF q r = if q.kind = 1 then 1 else if q.kind = 2 then (if (atV r q.col).null = true then 3 else truthF (holdsF q.op (cmpV (atV r q.col) q.v))) else if q.kind = 3 then truthF (atV r q.col).null
      else if q.kind = 4 then listF q.l r 2 1 else if q.kind = 5 then listF q.l r 1 2 else if q.kind = 6 then headF q.l r else 3 := by
  cases q; simp only [evalF, Pr.kind, Pr.col, Pr.op, Pr.v, Pr.l]; rfl
structure HPred (p : Prog) (ext : Ext) (F : Nat → Nat) : Prop where
  schm : HSchm p ext F
  h65 : Has p ext F 65 M65
  h66 : Has p ext F 66 M66
  h67 : Has p ext F 67 M67
  h68 : Has p ext F 68 M68
  h69 : Has p ext F 69 M69
theorem pred_truth (L : HPred p ext F) {b : Bool} : FnD p ext (F 67) [.lit (.bool b)] (.lit (.int .i64 (truthF b))) := by
  refine fn_of L.h67 (M := M67) rfl ok67 rfl fun H => sem_run 9000 _ ?_;simp
  cases b with
  | true =>
    simp;refine sem_ret ?_;simp [M67, truthF];exact .same (by simp)
  | false =>
    simp;refine sem_ret ?_;simp [M67, truthF];exact .same (by simp)
theorem pred_not (L : HPred p ext F) {n : Int} : FnD p ext (F 69) [.lit (.int .i64 n)] (.lit (.int .i64 (notF n))) := by
  refine fn_of L.h69 (M := M69) rfl ok69 rfl fun H => sem_run 9000 _ ?_;simp
  by_cases h1 : n = 1
  · simp [h1];refine sem_ret ?_;simp [M69, notF];exact .same (by simp)
  · by_cases h2 : n = 2
    · simp [h2];refine sem_ret ?_;simp [M69, notF];exact .same (by simp)
    · simp [h1, h2];refine sem_ret ?_;simp [M69, notF, h1, h2];exact .same (by simp)
theorem pred_holds (L : HPred p ext F) {o c : Int} : FnD p ext (F 66) [.lit (.int .i64 o), .lit (.int .i64 c)] (.lit (.bool (holdsF o c))) := by
  refine fn_of L.h66 (M := M66) rfl ok66 rfl fun H => sem_run 9000 _ ?_;simp
  by_cases h1 : o = 1
  · simp [h1];refine sem_ret ?_;simp [M66, holdsF];exact .same (by simp)
  · by_cases h2 : o = 2
    · simp [h2];refine sem_ret ?_;simp [M66, holdsF];exact .same (by simp)
    · by_cases h3 : o = 3
      · simp [h3];refine sem_ret ?_;simp [M66, holdsF];exact .same (by simp)
      · by_cases h4 : o = 4
        · simp [h4];refine sem_ret ?_;simp [M66, holdsF];exact .same (by simp)
        · by_cases h5 : o = 5
          · simp [h5];refine sem_ret ?_;simp [M66, holdsF];exact .same (by simp)
          · by_cases h6 : o = 6
            · simp [h6];refine sem_ret ?_;simp [M66, holdsF];exact .same (by simp)
            · simp [h1, h2, h3, h4, h5, h6];refine sem_ret ?_;simp [M66, holdsF, h1, h2, h3, h4, h5, h6];exact .same (by simp)
def PListI (H0 : HpD) (r : Row) (l : List Pr) (d oth : Int) (k : Nat) (fr : FrD) (H : HpD) : Prop :=
  ∃ (i : Nat) (cur : Int), k = l.length - i ∧ i ≤ l.length ∧ listF l r d oth = listF (l.drop i) r d cur ∧ fr = [(1, rowD r), (2, .lit (.int .i64 d)), (9, .lit (.int .i64 cur)), (15, prsD l), (16, .lit (.int .i64 (l.length : Int))), (17, .lit (.int .i64 (i : Int)))] ∧ Sub H0 H
theorem pred_list (L : HPred p ext F) {q : Pr} {r : Row} {d oth : Int} (hl : q.l.length < 1000) (ih : ∀ x, x ∈ q.l → FnD p ext (F 65) [.agg x.c, rowD r] (.lit (.int .i64 (evalF x r)))) : FnD p ext (F 68) [.agg q.c, rowD r, .lit (.int .i64 d), .lit (.int .i64 oth)] (.lit (.int .i64 (listF q.l r d oth))) := by
  refine fn_of L.h68 (M := M68) rfl ok68 rfl fun H => sem_run 9000 _ ?_;simp;refine sem_loop (PListI H r q.l d oth) ?_ (k := q.l.length) ⟨0, oth, by simp, by simp, by simp, rfl, (by repeat (first | exact Sub.refl | apply Sub.new | refine Sub.put ?_ (by first | omega | (simp only [put_next, new_next]; omega))))⟩;rintro k fr H' ⟨i, cur, rfl, hi, hc, rfl, hs⟩;refine sem_run 9000 _ ?_;simp
  by_cases c : i < q.l.length
  · obtain ⟨x, hx⟩ : ∃ x, q.l[i]? = some x := ⟨q.l[i], by simp⟩
    have hdrop : q.l.drop i = x :: q.l.drop (i + 1) := by
      rw [List.drop_eq_getElem_cons c]; congr; exact (List.getElem?_eq_some_iff.1 hx).2
    rw [hdrop] at hc;have wi : wr .i64 ((i : Int) + 1) = ((i + 1 : Nat) : Int) := (by rw [wr_of] <;> omega);simp [c, hx, -getElem?_pos];refine sem_fn (ih x (List.mem_of_getElem? hx)) (by first | exact D.les_refl _ | simp) (sem_run 9000 _ ?_)
    by_cases c1 : evalF x r = d
    · simp [c1];refine sem_ret ?_;simp;refine sem_ret ?_;simp [M68];exact .le (by have := hs.next; repeat (first | exact hs | apply Sub.new | refine Sub.put ?_ (by first | omega | (simp only [put_next, new_next]; omega)))) (by rw [hc, listF, if_pos c1]; exact D.le_refl _) trivial
    · by_cases c2 : evalF x r = 3
      · have c1' : ¬ 3 = d := c2 ▸ c1;simp [c1', c2];refine sem_ok ?_;exact ⟨q.l.length - (i + 1), by omega, i + 1, 3, rfl, by omega, by rw [hc, listF, if_neg c1, if_pos c2], by rw [wi], (by have := hs.next; repeat (first | exact hs | apply Sub.new | refine Sub.put ?_ (by first | omega | (simp only [put_next, new_next]; omega))))⟩
      · simp [c1, c2];refine sem_ok ?_;exact ⟨q.l.length - (i + 1), by omega, i + 1, cur, rfl, by omega, by rw [hc, listF, if_neg c1, if_neg c2], by rw [wi], (by have := hs.next; repeat (first | exact hs | apply Sub.new | refine Sub.put ?_ (by first | omega | (simp only [put_next, new_next]; omega))))⟩
  · have : i = q.l.length := (by omega);subst this;simp;refine sem_exit (sem_run 9000 _ ?_);simp;refine sem_ret ?_;simp [M68];exact .le (by have := hs.next; repeat (first | exact hs | apply Sub.new | refine Sub.put ?_ (by first | omega | (simp only [put_next, new_next]; omega)))) (by rw [hc, List.drop_length, listF]; exact D.le_refl _) trivial
def PrS : Nat → Pr → Prop
  | 0, _ => False
  | n + 1, q => q.l.length < 1000 ∧ ∀ x, x ∈ q.l → PrS n x
theorem pred_eval1 (L : HPred p ext F) {q : Pr} {r : Row} (hl : q.l.length < 1000) (ih : ∀ x, x ∈ q.l → FnD p ext (F 65) [.agg x.c, rowD r] (.lit (.int .i64 (evalF x r)))) : FnD p ext (F 65) [.agg q.c, rowD r] (.lit (.int .i64 (evalF q r))) := by
  refine fn_of L.h65 (M := M65) rfl ok65 rfl fun H => sem_run 9000 _ ?_;simp;rw [evalF_eq]
  by_cases h1 : q.kind = 1
  · simp [h1];refine sem_ret ?_;simp [M65];exact .same (by simp)
  · by_cases h2 : q.kind = 2
    · simp [h2];refine sem_fn (schm_at L.schm) (by first | exact D.les_refl _ | simp) (sem_run 9000 _ ?_);simp
      cases hn : (atV r q.col).null with
      | true =>
        simp;refine sem_ret ?_;simp [M65];exact .le (by repeat (first | exact Sub.refl | apply Sub.new | refine Sub.put ?_ (by first | omega | (simp only [put_next, new_next]; omega)))) (by simp) (by simp)
      | false =>
        simp;refine sem_dfn (schm_compare L.schm) (by first | exact D.les_refl _ | simp) (sem_run 9000 _ ?_);simp;refine sem_dfn (pred_holds L) (by first | exact D.les_refl _ | simp) (sem_run 9000 _ ?_);simp;refine sem_dfn (pred_truth L) (by first | exact D.les_refl _ | simp) (sem_run 9000 _ ?_);simp;refine sem_ret ?_;simp [M65];exact .le (by repeat (first | exact Sub.refl | apply Sub.new | refine Sub.put ?_ (by first | omega | (simp only [put_next, new_next]; omega)))) (by simp) (by simp)
    · by_cases h3 : q.kind = 3
      · simp [h3];refine sem_fn (schm_at L.schm) (by first | exact D.les_refl _ | simp) (sem_run 9000 _ ?_);simp;refine sem_fn (pred_truth L) (by first | exact D.les_refl _ | simp) (sem_run 9000 _ ?_);simp;refine sem_ret ?_;simp [M65];exact .same (by simp)
      · by_cases h4 : q.kind = 4
        · simp [h4];refine sem_fn (pred_list L hl ih) (by first | exact D.les_refl _ | simp) (sem_run 9000 _ ?_);simp;refine sem_ret ?_;simp [M65];exact .same (by simp)
        · by_cases h5 : q.kind = 5
          · simp [h5];refine sem_fn (pred_list L hl ih) (by first | exact D.les_refl _ | simp) (sem_run 9000 _ ?_);simp;refine sem_ret ?_;simp [M65];exact .same (by simp)
          · by_cases h6 : q.kind = 6
            · cases hq : q.l with
              | nil =>
                simp [h6, hq];refine sem_ret ?_;simp [M65, headF];exact .same (by simp)
              | cons x l =>
                have hx : q.l[0]? = some x := (by rw [hq]; rfl);simp [h6, hq];refine sem_fn (ih x (by rw [hq]; simp)) (by first | exact D.les_refl _ | simp) (sem_run 9000 _ ?_);simp;refine sem_fn (pred_not L) (by first | exact D.les_refl _ | simp) (sem_run 9000 _ ?_);simp;refine sem_ret ?_;simp [M65, headF];exact .same (by simp)
            · simp [h1, h2, h3, h4, h5, h6];refine sem_ret ?_;simp [M65];exact .same (by simp)
theorem pred_eval (L : HPred p ext F) : ∀ (n : Nat) (q : Pr), PrS n q → ∀ r : Row, FnD p ext (F 65) [.agg q.c, rowD r] (.lit (.int .i64 (evalF q r)))
  | 0, _, h, _ => h.elim
  | n + 1, _, h, r => pred_eval1 L h.1 fun x hx => pred_eval L n x (h.2 x hx) r
end Go.Lib
end

section
set_option maxRecDepth 10000
namespace Go.Lib
open Go.Vm Go.Dv Go.Srt
variable {p : Prog} {ext : Ext} {F : Nat → Nat}
structure HRef6e (p : Prog) (ext : Ext) (F : Nat → Nat) : Prop where
  ref6 : HRef6 p ext F
  h87 : Has p ext F 87 M87
  h88 : Has p ext F 88 M88
  h89 : Has p ext F 89 M89
  h90 : Has p ext F 90 M90
  h91 : Has p ext F 91 M91
theorem ref6_truth (L : HRef6e p ext F) {b : Bool} : FnD p ext (F 90) [.lit (.bool b)] (.lit (.int .i64 (truthF b))) := by
  refine fn_of L.h90 (M := M90) rfl ok90 rfl fun H => sem_run 9000 _ ?_;simp
  cases b with
  | true =>
    simp;refine sem_ret ?_;simp [M90, truthF];exact .same (by simp)
  | false =>
    simp;refine sem_ret ?_;simp [M90, truthF];exact .same (by simp)
theorem ref6_holds (L : HRef6e p ext F) {o c : Int} (ho : 1 ≤ o ∧ o ≤ 6) : FnD p ext (F 89) [.lit (.int .i64 o), .lit (.int .i64 c)] (.lit (.bool (holdsF o c))) := by
  refine fn_of L.h89 (M := M89) rfl ok89 rfl fun H => sem_run 9000 _ ?_;simp
  by_cases h1 : o = 1
  · simp [h1];refine sem_ret ?_;simp [M89, holdsF];exact .same (by simp)
  · by_cases h2 : o = 2
    · simp [h2];refine sem_ret ?_;simp [M89, holdsF];exact .same (by simp)
    · by_cases h3 : o = 3
      · simp [h3];refine sem_ret ?_;simp [M89, holdsF];exact .same (by simp)
      · by_cases h4 : o = 4
        · simp [h4];refine sem_ret ?_;simp [M89, holdsF];exact .same (by simp)
        · by_cases h5 : o = 5
          · simp [h5];refine sem_ret ?_;simp [M89, holdsF];exact .same (by simp)
          · have h6 : o = 6 := (by omega);simp [h6];refine sem_ret ?_;simp [M89, holdsF];exact .same (by simp)
def PrW (ks : List Int) : Nat → Pr → Prop
  | 0, _ => False
  | n + 1, q => q.l.length < 1000 ∧ (∀ x, x ∈ q.l → PrW ks n x) ∧ (q.kind = 1 ∨ (q.kind = 2 ∧ InK ks q.col ∧ 1 ≤ q.op ∧ q.op ≤ 6) ∨ (q.kind = 3 ∧ InK ks q.col) ∨ q.kind = 4 ∨ q.kind = 5 ∨ (q.kind = 6 ∧ q.l ≠ []))
theorem PrW.short {ks : List Int} : ∀ {n : Nat} {q : Pr}, PrW ks n q → PrS n q
  | 0, _, h => h
  | _ + 1, _, h => ⟨h.1, fun x hx => (h.2.1 x hx).short⟩
def PList6I (H0 : HpD) (q : Pr) (r : Row) (d oth : Int) (k : Nat) (fr : FrD) (H : HpD) : Prop :=
  ∃ (i : Nat) (cur : Int), k = q.l.length - i ∧ i ≤ q.l.length ∧ listF q.l r d oth = listF (q.l.drop i) r d cur ∧ fr = [(1, rowD r), (2, .rptr q.c 0), (5, .lit (.int .i64 d)), (6, .lit (.int .i64 cur)), (7, .lit (.int .i64 (i : Int)))] ∧ Sub H0 H
theorem ref6_eval1 (L : HRef6e p ext F) {ks : List Int} {n : Nat} {q : Pr} {r : Row} (hq : PrW ks (n + 1) q) (hr : r.length = ks.length) (ih : ∀ x, x ∈ q.l → FnD p ext (F 87) [.agg x.c, rowD r] (.lit (.int .i64 (evalF x r)))) : FnD p ext (F 87) [.agg q.c, rowD r] (.lit (.int .i64 (evalF q r))) := by
  refine fn_of L.h87 (M := M87) rfl ok87 rfl fun H => sem_run 9000 _ ?_;simp;obtain ⟨hl, _, hk⟩ := hq;rw [evalF_eq];rcases hk with h1 | ⟨h2, hc, ho⟩ | ⟨h3, hc⟩ | h45
  · simp [h1];refine sem_ret ?_;simp [M87];exact .same (by simp)
  · obtain ⟨c, hcn⟩ : ∃ c : Nat, q.col = c := ⟨q.col.toNat, by have := hc.1; omega⟩;have hv : r[c]? = some (atV r c) := (atV_mem (r := r) (c := (c : Int)) (by omega) (by have := hc.2; omega)).2
    cases hn : (atV r c).null with
    | true =>
      simp [h2, hcn, hv, hn, -getElem?_pos];refine sem_ret ?_;simp [M87];exact .same (by simp)
    | false =>
      simp [h2, hcn, hv, hn, -getElem?_pos];refine sem_dfn (ref6_compare L.ref6) (by first | exact D.les_refl _ | simp) (sem_run 9000 _ ?_);simp;refine sem_dfn (ref6_holds L ho) (by first | exact D.les_refl _ | simp) (sem_run 9000 _ ?_);simp;refine sem_dfn (ref6_truth L) (by first | exact D.les_refl _ | simp) (sem_run 9000 _ ?_);simp;refine sem_ret ?_;simp [M87];exact .le (by repeat (first | exact Sub.refl | apply Sub.new | refine Sub.put ?_ (by first | omega | (simp only [put_next, new_next]; omega)))) (by simp) (by simp)
  · obtain ⟨c, hcn⟩ : ∃ c : Nat, q.col = c := ⟨q.col.toNat, by have := hc.1; omega⟩;have hv : r[c]? = some (atV r c) := (atV_mem (r := r) (c := (c : Int)) (by omega) (by have := hc.2; omega)).2;simp [h3, hcn, hv, -getElem?_pos];refine sem_fn (ref6_truth L) (by first | exact D.les_refl _ | simp) (sem_run 9000 _ ?_);simp;refine sem_ret ?_;simp [M87];exact .same (by simp)
  · have h45' : (∃ d oth, (q.kind = 4 ∧ d = 2 ∧ oth = 1 ∨ q.kind = 5 ∧ d = 1 ∧ oth = 2)) ∨ (q.kind = 6 ∧ q.l ≠ []) := by
      rcases h45 with h | h | h
      · exact .inl ⟨2, 1, .inl ⟨h, rfl, rfl⟩⟩
      · exact .inl ⟨1, 2, .inr ⟨h, rfl, rfl⟩⟩
      · exact .inr h
    rcases h45' with ⟨d, oth, hk⟩ | ⟨h6, hne⟩
    · have hres : (if q.kind = 1 then (1 : Int) else if q.kind = 2 then (if (atV r q.col).null = true then 3 else truthF (holdsF q.op (cmpV (atV r q.col) q.v))) else if q.kind = 3 then truthF (atV r q.col).null
        else if q.kind = 4 then listF q.l r 2 1 else if q.kind = 5 then listF q.l r 1 2 else if q.kind = 6 then headF q.l r else 3) = listF q.l r d oth := by
        rcases hk with ⟨h, rfl, rfl⟩ | ⟨h, rfl, rfl⟩ <;> simp [h]
      rw [hres];rcases hk with ⟨h, rfl, rfl⟩ | ⟨h, rfl, rfl⟩
      case' inl => simp [h]
      case' inr => simp [h]
      case' inl => refine sem_loop (PList6I H q r 2 1) ?_ (k := q.l.length) ⟨0, 1, by simp, by simp, by simp, rfl, (by repeat (first | exact Sub.refl | apply Sub.new | refine Sub.put ?_ (by first | omega | (simp only [put_next, new_next]; omega))))⟩
      case' inr => refine sem_loop (PList6I H q r 1 2) ?_ (k := q.l.length) ⟨0, 2, by simp, by simp, by simp, rfl, (by repeat (first | exact Sub.refl | apply Sub.new | refine Sub.put ?_ (by first | omega | (simp only [put_next, new_next]; omega))))⟩
      all_goals
        rintro k fr H' ⟨i, cur, rfl, hi, hc, rfl, hs⟩;refine sem_run 9000 _ ?_;simp
        by_cases c : i < q.l.length
        · obtain ⟨x, hx⟩ : ∃ x, q.l[i]? = some x := ⟨q.l[i], by simp⟩
          have hdrop : q.l.drop i = x :: q.l.drop (i + 1) := by
            rw [List.drop_eq_getElem_cons c]; congr; exact (List.getElem?_eq_some_iff.1 hx).2
          rw [hdrop] at hc;have wi : wr .i64 ((i : Int) + 1) = ((i + 1 : Nat) : Int) := (by rw [wr_of] <;> omega);simp [c, hx, -getElem?_pos];refine sem_fn (ih x (List.mem_of_getElem? hx)) (by first | exact D.les_refl _ | simp) (sem_run 9000 _ ?_);rw [listF] at hc;split at hc
          · rename_i c1;simp [c1];refine sem_ret ?_;simp;refine sem_ret ?_;simp [M87];exact .le (by have := hs.next; repeat (first | exact hs | apply Sub.new | refine Sub.put ?_ (by first | omega | (simp only [put_next, new_next]; omega)))) (by rw [hc]; exact D.le_refl _) trivial
          · rename_i c1
            by_cases c2 : evalF x r = 3
            · rw [if_pos c2] at hc;simp [c2];refine sem_ok ?_;exact ⟨q.l.length - (i + 1), by omega, i + 1, 3, rfl, by omega, hc, by rw [wi], (by have := hs.next; repeat (first | exact hs | apply Sub.new | refine Sub.put ?_ (by first | omega | (simp only [put_next, new_next]; omega))))⟩
            · rw [if_neg c2] at hc;simp [c1, c2];refine sem_ok ?_;exact ⟨q.l.length - (i + 1), by omega, i + 1, cur, rfl, by omega, hc, by rw [wi], (by have := hs.next; repeat (first | exact hs | apply Sub.new | refine Sub.put ?_ (by first | omega | (simp only [put_next, new_next]; omega))))⟩
        · have : i = q.l.length := (by omega);subst this;simp;refine sem_exit (sem_run 9000 _ ?_);simp;refine sem_ret ?_;simp [M87];exact .le (by have := hs.next; repeat (first | exact hs | apply Sub.new | refine Sub.put ?_ (by first | omega | (simp only [put_next, new_next]; omega)))) (by rw [hc, List.drop_length, listF]; exact D.le_refl _) trivial
    · cases hq : q.l with
      | nil => exact absurd hq hne
      | cons x l =>
        have hx : q.l[0]? = some x := (by rw [hq]; rfl);simp [h6, hq];refine sem_fn (ih x (by rw [hq]; simp)) (by first | exact D.les_refl _ | simp) (sem_run 9000 _ ?_)
        by_cases e1 : evalF x r = 1
        · simp [e1];refine sem_ret ?_;simp [M87, headF, notF, e1];exact .same (by simp)
        · by_cases e2 : evalF x r = 2
          · simp [e2];refine sem_ret ?_;simp [M87, headF, notF, e2];exact .same (by simp)
          · simp [e1, e2];refine sem_ret ?_;simp [M87, headF, notF, e1, e2];exact .same (by simp)
theorem ref6_eval (L : HRef6e p ext F) {ks : List Int} : ∀ (n : Nat) (q : Pr), PrW ks n q → ∀ r : Row, r.length = ks.length → FnD p ext (F 87) [.agg q.c, rowD r] (.lit (.int .i64 (evalF q r)))
  | 0, _, h, _, _ => h.elim
  | n + 1, _, h, r, hr => ref6_eval1 L h hr fun x hx => ref6_eval L n x (h.2.1 x hx) r hr
end Go.Lib
end

section
namespace Go.Lib
open Go.Vm Go.Dv
set_option maxRecDepth 100000
abbrev K70 (F : Nat → Nat) : KC := .seq (.region [⟨some 3,.a (.box (.tmp 0)),none⟩,⟨some 5,.a (.box (.tmp 2)),none⟩,⟨some 6,.p (.mov (.val (.nilslice))),none⟩,⟨some 7,.a (.new [.int .i64 (.ofNat 0),.int .i64 (.ofNat 0),.nilslice]),none⟩] [3,5] [1,5,7])
 (.seq (.region [mv 14 1,⟨some 15,.e (.call (F 72) [(.tmp 14)]),none⟩,mv 1 15] [] [1,5,7])
 (.seq (.region [⟨some 16,.p (.mkfunc (F 73) [] [(.tmp 5)]),none⟩,mv 8 16] [] [1,5,7,8])
 (.seq (.region [⟨some 9,.p (.mov (.val (.nilslice))),none⟩] [] [1,5,7,8,9])
 (.seq (.seq (.region [mv 17 1,lb 18 17,mi 19 0] [] [1,5,7,8,9,17,18,19])
 (.block 0 (.loop (.seq (.region [bt 20 .lss 19 18] [] [1,5,7,8,9,17,18,19,20])
 (.seq (.cond (.tmp 20) (.skip)
 (.exit 0))
 (.seq (.block 1 (.seq (.region [ix 21 1 17 19,l1 22 21,mv 11 22] [] [1,5,7,8,9,11,17,18,19])
 (.seq (.region [mv 23 8,mv 24 11,⟨some 25,.e (.callv (.tmp 23) [(.tmp 24)]),none⟩] [] [1,5,7,8,9,11,17,18,19,25])
 (.cond (.tmp 25) (.region [mv 26 9,mv 27 11,⟨some 28,.a (.bslice [.nilslice] 1 1 [(0,1,(.tmp 27))]),none⟩,⟨some 29,.e (.append 1 24 (.tmp 26) (.tmp 28)),none⟩,mv 9 29] [28] [1,5,7,8,9,17,18,19])
 (.skip)))))
 (.region [bi 30 .add 19 1,mv 19 30] [] [1,5,7,8,9,17,18,19])))))))
 (.seq (.seq (.region [fa 31 0 5,l1 32 31] [] [1,5,7,8,9,32])
 (.block 2 (.seq (.region [bi 34 .eql 32 1,mv 33 34] [] [1,5,7,8,9,32,33])
 (.cond (.tmp 33) (.seq (.region [mv 35 1,fa 36 1 5,l1 37 36,⟨some 38,.e (.call (F 74) [(.tmp 35),(.tmp 37)]),none⟩,et 39 38 0,et 40 38 1,mv 6 39,⟨none,.e (.store 3 (.tmp 7) (.tmp 40)),none⟩] [] [6,7])
 (.ret))
 (.seq (.region [bi 42 .eql 32 2,mv 41 42] [] [1,5,7,8,9,32,41])
 (.cond (.tmp 41) (.seq (.region [mv 43 1,ln 44 14 5,⟨some 45,.e (.call (F 75) [(.tmp 43),(.tmp 44)]),none⟩,et 46 45 0,et 47 45 1,mv 6 46,⟨none,.e (.store 3 (.tmp 7) (.tmp 47)),none⟩] [] [6,7])
 (.ret))
 (.seq (.region [bi 49 .eql 32 3,mv 48 49] [] [1,5,7,8,9,32,48])
 (.cond (.tmp 48) (.seq (.region [mv 50 1,mv 51 8,⟨some 52,.e (.call (F 76) [(.tmp 50),(.tmp 51)]),none⟩,⟨some 53,.e (.call (F 39) [(.tmp 52)]),none⟩,mv 54 9,lb 55 54,⟨some 56,.p (.build [.int .i64 (.ofNat 0),.int .i64 (.ofNat 0),.nilslice] [(1,1,(.tmp 55))]),none⟩,mv 6 53,⟨none,.e (.store 3 (.tmp 7) (.tmp 56)),none⟩] [] [6,7])
 (.ret))
 (.seq (.region [bi 58 .eql 32 4,mv 57 58] [] [1,5,7,9,32,57])
 (.cond (.tmp 57) (.seq (.region [mv 59 1,mv 60 9,fa 61 11 5,l1 62 61,⟨some 63,.e (.call (F 34) [(.tmp 60),(.tmp 62)]),none⟩,⟨some 64,.p (.build [.int .i64 (.ofNat 0),.int .i64 (.ofNat 0),.nilslice] [(2,1,(.tmp 63))]),none⟩,mv 6 59,⟨none,.e (.store 3 (.tmp 7) (.tmp 64)),none⟩] [] [6,7])
 (.ret))
 (.seq (.region [bi 66 .eql 32 5,mv 65 66] [] [1,5,7,9,32,65])
 (.cond (.tmp 65) (.seq (.region [mv 68 9,fa 69 12 5,l1 70 69,fa 71 13 5,l1 72 71,⟨some 73,.e (.call (F 32) [(.tmp 68),(.tmp 70),(.tmp 72)]),none⟩,mv 67 73,et 74 67 0,et 75 67 1,mv 12 74,mv 13 75] [] [1,7,12,13])
 (.seq (.seq (.region [mv 76 13,⟨some 77,.p (.not (.tmp 76)),none⟩] [] [1,7,12,77])
 (.cond (.tmp 77) (.seq (.region [mv 78 1,⟨some 79,.p (.build [.int .i64 (.ofNat 0),.int .i64 (.ofNat 0),.nilslice] [(0,1,(.val (.int .i64 (.ofNat 2))))]),none⟩,mv 6 78,⟨none,.e (.store 3 (.tmp 7) (.tmp 79)),none⟩] [] [6,7])
 (.ret))
 (.skip)))
 (.seq (.region [mv 80 1,mv 81 12,⟨some 82,.p (.build [.int .i64 (.ofNat 0),.int .i64 (.ofNat 0),.nilslice] [(2,1,(.tmp 81))]),none⟩,mv 6 80,⟨none,.e (.store 3 (.tmp 7) (.tmp 82)),none⟩] [] [6,7])
 (.ret))))
 (.seq (.region [bi 84 .eql 32 6,mv 83 84] [] [1,7,83])
 (.cond (.tmp 83) (.seq (.region [mv 85 1,⟨some 86,.p (.build [.int .i64 (.ofNat 0),.int .i64 (.ofNat 0),.nilslice] [(0,1,(.val (.int .i64 (.ofNat 3))))]),none⟩,mv 6 85,⟨none,.e (.store 3 (.tmp 7) (.tmp 86)),none⟩] [] [6,7])
 (.ret))
 (.skip)))))))))))))))
 (.seq (.region [mv 87 1,⟨some 88,.p (.build [.int .i64 (.ofNat 0),.int .i64 (.ofNat 0),.nilslice] []),none⟩,mv 6 87,⟨none,.e (.store 3 (.tmp 7) (.tmp 88)),none⟩] [] [6,7])
 (.ret)))))))
def M70 (F : Nat → Nat) : Fun := ⟨89,3,(K70 F).erase,[.tmp 6,.celln 3 7]⟩
theorem ok70 {F : Nat → Nat} : (K70 F).ok = true := rfl
abbrev K71 (F : Nat → Nat) : KC := .seq (.region [⟨some 3,.a (.box (.tmp 0)),none⟩,⟨some 6,.p (.mov (.val (.nilslice))),none⟩,⟨some 7,.p (.mov (.val (.nilslice))),none⟩] [3] [1,2,3])
 (.seq (.region [mv 14 1,⟨some 15,.e (.call (F 72) [(.tmp 14)]),none⟩,mv 1 15] [] [1,2,3])
 (.seq (.region [mv 16 1,mv 8 16] [] [1,2,3,8])
 (.seq (.region [⟨some 9,.p (.mov (.val (.nilslice))),none⟩] [] [1,2,3,8,9])
 (.seq (.seq (.region [mv 17 2,lb 18 17,mi 19 0] [] [1,3,8,9,17,18,19])
 (.block 0 (.loop (.seq (.region [bt 20 .lss 19 18] [] [1,3,8,9,17,18,19,20])
 (.seq (.cond (.tmp 20) (.skip)
 (.exit 0))
 (.seq (.block 1 (.seq (.region [ix 21 14 17 19,ln 22 14 21,⟨some 11,.a (.new [.int .i64 (.ofNat 0),.nilslice,.int .i64 (.ofNat 0),.int .i64 (.ofNat 0),.int .i64 (.ofNat 0),.bool false,.int .i64 (.ofNat 0),.int .i64 (.ofNat 0),.nilslice,.nilslice,.nilslice,.nilslice,.int .i64 (.ofNat 0),.nilslice]),none⟩,⟨none,.e (.store 14 (.tmp 11) (.tmp 22)),none⟩] [] [1,3,8,9,11,17,18,19])
 (.seq (.region [ln 24 1 3,mv 25 8,ln 26 14 11,⟨some 27,.e (.call (F 70) [(.tmp 24),(.tmp 25),(.tmp 26)]),none⟩,mv 23 27,et 28 23 0,et 29 23 1,⟨some 13,.a (.new [.int .i64 (.ofNat 0),.int .i64 (.ofNat 0),.nilslice]),none⟩,mv 12 28,⟨none,.e (.store 3 (.tmp 13) (.tmp 29)),none⟩] [] [1,3,9,12,13,17,18,19])
 (.seq (.region [mv 30 9,ln 31 3 13,⟨some 32,.a (.bslice [.int .i64 (.ofNat 0),.int .i64 (.ofNat 0),.nilslice] 3 1 [(0,3,(.tmp 31))]),none⟩,⟨some 33,.e (.append 3 40 (.tmp 30) (.tmp 32)),none⟩,mv 9 33] [32] [1,3,9,12,13,17,18,19])
 (.seq (.seq (.region [fa 34 0 13,l1 35 34,bi 36 .neq 35 0] [] [1,3,9,12,17,18,19,36])
 (.cond (.tmp 36) (.seq (.region [mv 37 1,mv 38 9,⟨some 39,.e (.call (F 77) [(.tmp 38)]),none⟩,mv 6 37,mv 7 39] [] [6,7])
 (.ret))
 (.skip)))
 (.region [mv 40 12,mv 8 40] [] [1,3,8,9,17,18,19]))))))
 (.region [bi 41 .add 19 1,mv 19 41] [] [1,3,8,9,17,18,19])))))))
 (.seq (.region [mv 42 8,mv 43 9,⟨some 44,.e (.call (F 77) [(.tmp 43)]),none⟩,mv 6 42,mv 7 44] [] [6,7])
 (.ret))))))
def M71 (F : Nat → Nat) : Fun := ⟨45,3,(K71 F).erase,[.tmp 6,.tmp 7]⟩
theorem ok71 {F : Nat → Nat} : (K71 F).ok = true := rfl
abbrev K72 (F : Nat → Nat) : KC := .seq (.region [⟨some 2,.p (.mov (.val (.nilslice))),none⟩] [] [0])
 (.seq (.region [⟨some 3,.p (.mov (.val (.nilslice))),none⟩] [] [0,3])
 (.seq (.seq (.region [mv 6 0,lb 7 6,mi 8 0] [] [3,6,7,8])
 (.block 0 (.loop (.seq (.region [bt 9 .lss 8 7] [] [3,6,7,8,9])
 (.seq (.cond (.tmp 9) (.skip)
 (.exit 0))
 (.seq (.block 1 (.seq (.region [ix 10 1 6 8,l1 11 10,mv 5 11] [] [3,5,6,7,8])
 (.region [mv 12 3,mv 13 5,⟨some 14,.e (.call (F 4) [(.tmp 13)]),none⟩,⟨some 15,.a (.bslice [.nilslice] 1 1 [(0,1,(.tmp 14))]),none⟩,⟨some 16,.e (.append 1 24 (.tmp 12) (.tmp 15)),none⟩,mv 3 16] [15] [3,6,7,8])))
 (.region [bi 17 .add 8 1,mv 8 17] [] [3,6,7,8])))))))
 (.seq (.region [mv 18 3,⟨some 19,.e (.call (F 39) [(.tmp 18)]),none⟩,mv 2 19] [] [2])
 (.ret))))
def M72 (F : Nat → Nat) : Fun := ⟨20,1,(K72 F).erase,[.tmp 2]⟩
theorem ok72 {F : Nat → Nat} : (K72 F).ok = true := rfl
abbrev K73 (F : Nat → Nat) : KC := .seq (.region [⟨some 3,.p (.mov (.val (.bool false))),none⟩] [] [0,1])
 (.seq (.region [fa 4 2 1,ln 5 8 4,mv 6 0,⟨some 7,.e (.call (F 65) [(.tmp 5),(.tmp 6)]),none⟩,bi 8 .eql 7 1,mv 3 8] [] [3])
 (.ret))
def M73 (F : Nat → Nat) : Fun := ⟨9,2,(K73 F).erase,[.tmp 3]⟩
theorem ok73 {F : Nat → Nat} : (K73 F).ok = true := rfl
abbrev K74 (F : Nat → Nat) : KC := .seq (.region [⟨some 4,.p (.mov (.val (.nilslice))),none⟩,⟨some 5,.a (.new [.int .i64 (.ofNat 0),.int .i64 (.ofNat 0),.nilslice]),none⟩] [] [0,1,5])
 (.seq (.region [mv 9 0,mv 10 1,⟨some 11,.e (.call (F 78) [(.tmp 10)]),none⟩,⟨some 12,.e (.call (F 79) [(.tmp 9),(.tmp 11),(.val (.func (F 80) [] []))]),none⟩,mv 8 12,et 13 8 0,et 14 8 1,mv 6 13,mv 7 14] [] [0,1,5,6,7])
 (.seq (.seq (.region [mv 15 7] [] [0,1,5,6,15])
 (.cond (.tmp 15) (.seq (.region [mv 16 0,⟨some 17,.p (.build [.int .i64 (.ofNat 0),.int .i64 (.ofNat 0),.nilslice] [(0,1,(.val (.int .i64 (.ofNat 1))))]),none⟩,mv 4 16,⟨none,.e (.store 3 (.tmp 5) (.tmp 17)),none⟩] [] [4,5])
 (.ret))
 (.skip)))
 (.seq (.region [mv 18 0,mv 19 6,mv 20 1,⟨some 21,.e (.call (F 4) [(.tmp 20)]),none⟩,⟨some 22,.a (.bslice [.nilslice] 1 1 [(0,1,(.tmp 21))]),none⟩,⟨some 23,.e (.call (F 81) [(.tmp 18),(.tmp 19),(.tmp 22)]),none⟩,⟨some 24,.p (.build [.int .i64 (.ofNat 0),.int .i64 (.ofNat 0),.nilslice] [(1,1,(.val (.int .i64 (.ofNat 1))))]),none⟩,mv 4 23,⟨none,.e (.store 3 (.tmp 5) (.tmp 24)),none⟩] [22] [4,5])
 (.ret))))
def M74 (F : Nat → Nat) : Fun := ⟨25,2,(K74 F).erase,[.tmp 4,.celln 3 5]⟩
theorem ok74 {F : Nat → Nat} : (K74 F).ok = true := rfl
abbrev K75 (F : Nat → Nat) : KC := .seq (.region [⟨some 3,.a (.box (.tmp 1)),none⟩,⟨some 4,.p (.mov (.val (.nilslice))),none⟩,⟨some 5,.a (.new [.int .i64 (.ofNat 0),.int .i64 (.ofNat 0),.nilslice]),none⟩] [3] [0,3,5])
 (.seq (.region [mv 12 0,⟨some 13,.e (.call (F 72) [(.tmp 12)]),none⟩,mv 6 13] [] [0,3,5,6])
 (.seq (.region [mi 7 0] [] [0,3,5,6,7])
 (.seq (.seq (.region [mv 14 0,lb 15 14,mi 16 0] [] [0,3,5,6,7,14,15,16])
 (.block 0 (.loop (.seq (.region [bt 17 .lss 16 15] [] [0,3,5,6,7,14,15,16,17])
 (.seq (.cond (.tmp 17) (.skip)
 (.exit 0))
 (.seq (.block 1 (.seq (.region [mv 18 16,ix 19 1 14 16,l1 20 19,mv 8 18,mv 9 20] [] [0,3,5,6,7,8,9,14,15,16])
 (.seq (.seq (.region [fa 21 2 3,ln 22 8 21,mv 23 9,⟨some 24,.e (.call (F 65) [(.tmp 22),(.tmp 23)]),none⟩,bi 25 .neq 24 1] [] [0,3,5,6,7,8,9,14,15,16,25])
 (.cond (.tmp 25) (.exit 1)
 (.skip)))
 (.seq (.region [mv 27 9,fa 28 10 3,l1 29 28,⟨some 30,.e (.call (F 35) [(.tmp 27),(.tmp 29)]),none⟩,mv 26 30,et 31 26 0,et 32 26 1,mv 10 31,mv 11 32] [] [0,3,5,6,7,8,10,11,14,15,16])
 (.seq (.seq (.region [mv 33 11,⟨some 34,.p (.not (.tmp 33)),none⟩] [] [0,3,5,6,7,8,10,14,15,16,34])
 (.cond (.tmp 34) (.seq (.region [mv 35 0,⟨some 36,.p (.build [.int .i64 (.ofNat 0),.int .i64 (.ofNat 0),.nilslice] [(0,1,(.val (.int .i64 (.ofNat 2))))]),none⟩,mv 4 35,⟨none,.e (.store 3 (.tmp 5) (.tmp 36)),none⟩] [] [4,5])
 (.ret))
 (.skip)))
 (.seq (.region [mv 37 6,mv 38 8,mv 39 10,ix 40 1 37 38,⟨none,.e (.store 1 (.tmp 40) (.tmp 39)),none⟩] [] [0,3,5,6,7,14,15,16])
 (.region [mv 41 7,bi 42 .add 41 1,mv 7 42] [] [0,3,5,6,7,14,15,16])))))))
 (.region [bi 43 .add 16 1,mv 16 43] [] [0,3,5,6,7,14,15,16])))))))
 (.seq (.region [mv 44 6,mv 45 7,⟨some 46,.p (.build [.int .i64 (.ofNat 0),.int .i64 (.ofNat 0),.nilslice] [(1,1,(.tmp 45))]),none⟩,mv 4 44,⟨none,.e (.store 3 (.tmp 5) (.tmp 46)),none⟩] [] [4,5])
 (.ret)))))
def M75 (F : Nat → Nat) : Fun := ⟨47,2,(K75 F).erase,[.tmp 4,.celln 3 5]⟩
theorem ok75 {F : Nat → Nat} : (K75 F).ok = true := rfl
abbrev K76 (F : Nat → Nat) : KC := .seq (.region [⟨some 4,.p (.mov (.val (.nilslice))),none⟩] [] [0,1])
 (.seq (.region [mv 8 0,mv 9 1,⟨some 10,.e (.call (F 82) [(.tmp 8),(.tmp 9)]),none⟩,mv 5 10] [] [0,1,5])
 (.seq (.seq (.region [mv 11 5,⟨some 12,.p (.bin .eql (.tmp 11) (.val (.int .i64 (.negSucc 0)))),none⟩] [] [0,1,5,12])
 (.cond (.tmp 12) (.seq (.region [mv 13 0,mv 4 13] [] [4])
 (.ret))
 (.skip)))
 (.seq (.seq (.region [mv 14 5,bi 15 .add 14 1,mv 6 15] [] [0,1,5,6])
 (.block 0 (.loop (.seq (.seq (.region [mv 16 6,mv 17 0,lb 18 17,bt 19 .lss 16 18] [] [0,1,5,6,19])
 (.cond (.tmp 19) (.skip)
 (.exit 0)))
 (.seq (.block 1 (.seq (.region [mv 22 0,mv 23 6,ix 24 1 22 23,l1 25 24,mv 7 25] [] [0,1,5,6,7])
 (.seq (.region [mv 26 1,mv 27 7,⟨some 28,.e (.callv (.tmp 26) [(.tmp 27)]),none⟩,⟨some 29,.p (.not (.tmp 28)),none⟩] [] [0,1,5,6,7,29])
 (.cond (.tmp 29) (.seq (.region [mv 30 0,mv 31 5,mv 32 7,ix 33 1 30 31,⟨none,.e (.store 1 (.tmp 33) (.tmp 32)),none⟩] [] [0,1,5,6])
 (.region [mv 34 5,bi 35 .add 34 1,mv 5 35] [] [0,1,5,6]))
 (.skip)))))
 (.region [mv 20 6,bi 21 .add 20 1,mv 6 21] [] [0,1,5,6]))))))
 (.seq (.region [mv 36 0,mv 37 5,⟨some 38,.p (.slc 1 (.tmp 36) (some (.tmp 37)) none none),none⟩,⟨none,.e (.clear [.nilslice] (.tmp 38)),none⟩] [] [0,5])
 (.seq (.region [mv 39 0,mv 40 5,⟨some 41,.p (.slc 1 (.tmp 39) none (some (.tmp 40)) none),none⟩,mv 4 41] [] [4])
 (.ret))))))
def M76 (F : Nat → Nat) : Fun := ⟨42,2,(K76 F).erase,[.tmp 4]⟩
theorem ok76 {F : Nat → Nat} : (K76 F).ok = true := rfl
abbrev K77 (_F : Nat → Nat) : KC := .seq (.region [⟨some 2,.p (.mov (.val (.nilslice))),none⟩] [] [0])
 (.seq (.region [mv 3 0,mv 4 0,lb 5 4,mv 6 0,lb 7 6,⟨some 8,.p (.slc 3 (.tmp 3) none (some (.tmp 5)) (some (.tmp 7))),none⟩,mv 2 8] [] [2])
 (.ret))
def M77 (F : Nat → Nat) : Fun := ⟨9,1,(K77 F).erase,[.tmp 2]⟩
theorem ok77 {F : Nat → Nat} : (K77 F).ok = true := rfl
abbrev K78 (F : Nat → Nat) : KC := .seq (.region [mi 2 0] [] [0])
 (.seq (.region [mv 3 0,⟨some 4,.e (.call (F 3) [(.tmp 3),(.val (.int .i64 (.ofNat 0)))]),none⟩,⟨some 5,.p (.field1 2 (.tmp 4)),none⟩,mv 2 5] [] [2])
 (.ret))
def M78 (F : Nat → Nat) : Fun := ⟨6,1,(K78 F).erase,[.tmp 2]⟩
theorem ok78 {F : Nat → Nat} : (K78 F).ok = true := rfl
abbrev K79 (_F : Nat → Nat) : KC := .seq (.region [mi 6 0,⟨some 7,.p (.mov (.val (.bool false))),none⟩] [] [0,1,2])
 (.seq (.region [mv 12 0,lb 13 12,mv 8 13] [] [0,1,2,8])
 (.seq (.region [mv 14 8,mi 9 0,mv 10 14] [] [0,1,2,8,9,10])
 (.seq (.block 0 (.loop (.seq (.seq (.region [mv 15 9,mv 16 10,bt 17 .lss 15 16] [] [0,1,2,8,9,10,17])
 (.cond (.tmp 17) (.skip)
 (.exit 0)))
 (.block 1 (.seq (.region [mv 18 9,mv 19 10,bt 20 .add 18 19,⟨some 21,.p (.conv (.int .u64) (.tmp 20)),none⟩,⟨some 22,.p (.bin .shr (.tmp 21) (.val (.int .u64 (.ofNat 1)))),none⟩,⟨some 23,.p (.conv (.int .i64) (.tmp 22)),none⟩,mv 11 23] [] [0,1,2,8,9,10,11])
 (.seq (.region [mv 24 2,mv 25 0,mv 26 11,ix 27 1 25 26,l1 28 27,mv 29 1,⟨some 30,.e (.callv (.tmp 24) [(.tmp 28),(.tmp 29)]),none⟩,bi 31 .lss 30 0] [] [0,1,2,8,9,10,11,31])
 (.cond (.tmp 31) (.region [mv 32 11,bi 33 .add 32 1,mv 9 33] [] [0,1,2,8,9,10])
 (.region [mv 34 11,mv 10 34] [] [0,1,2,8,9,10]))))))))
 (.seq (.region [mv 35 9,mv 36 9,mv 37 8,bt 38 .lss 36 37,mv 39 38,⟨some 40,.p (.mov (.tmp 2)),(some (39,true))⟩,⟨some 41,.p (.mov (.tmp 0)),(some (39,true))⟩,⟨some 42,.p (.mov (.tmp 9)),(some (39,true))⟩,⟨some 43,.p (.iaddr 1 (.tmp 41) (.tmp 42)),(some (39,true))⟩,⟨some 44,.load1 (.tmp 43),(some (39,true))⟩,⟨some 45,.p (.mov (.tmp 1)),(some (39,true))⟩,⟨some 46,.e (.callv (.tmp 40) [(.tmp 44),(.tmp 45)]),(some (39,true))⟩,⟨some 47,.p (.bin .eql (.tmp 46) (.val (.int .i64 (.ofNat 0)))),(some (39,true))⟩,⟨some 48,.p (.pick (.tmp 39) (.tmp 47) (.val (.bool false))),none⟩,mv 6 35,mv 7 48] [] [6,7])
 (.ret)))))
def M79 (F : Nat → Nat) : Fun := ⟨49,3,(K79 F).erase,[.tmp 6,.tmp 7]⟩
theorem ok79 {F : Nat → Nat} : (K79 F).ok = true := rfl
abbrev K80 (F : Nat → Nat) : KC := .seq (.region [mi 4 0] [] [0,1])
 (.seq (.region [mv 5 0,⟨some 6,.e (.call (F 78) [(.tmp 5)]),none⟩,mv 7 1,⟨some 8,.e (.call (F 10) [(.tmp 6),(.tmp 7)]),none⟩,mv 4 8] [] [4])
 (.ret))
def M80 (F : Nat → Nat) : Fun := ⟨9,2,(K80 F).erase,[.tmp 4]⟩
theorem ok80 {F : Nat → Nat} : (K80 F).ok = true := rfl
abbrev K81 (F : Nat → Nat) : KC := .seq (.region [⟨some 6,.p (.mov (.val (.nilslice))),none⟩] [] [0,1,2])
 (.seq (.region [mv 10 0,mv 11 1,⟨some 12,.p (.slc 1 (.tmp 10) (some (.tmp 11)) none none),none⟩] [] [0,1,2])
 (.seq (.region [mv 13 2,lb 14 13,mv 7 14] [] [0,1,2,7])
 (.seq (.seq (.region [mv 15 7,bi 16 .eql 15 0] [] [0,1,2,7,16])
 (.cond (.tmp 16) (.seq (.region [mv 17 0,mv 6 17] [] [6])
 (.ret))
 (.skip)))
 (.seq (.region [mv 18 0,lb 19 18,mv 8 19] [] [0,1,2,7,8])
 (.seq (.seq (.region [mv 20 1,mv 21 8,bt 22 .eql 20 21] [] [0,1,2,7,8,22])
 (.cond (.tmp 22) (.seq (.region [mv 23 0,mv 24 2,⟨some 25,.e (.append 1 24 (.tmp 23) (.tmp 24)),none⟩,mv 6 25] [] [6])
 (.ret))
 (.skip)))
 (.seq (.seq (.region [mv 26 8,mv 27 7,bt 28 .add 26 27,mv 29 0,⟨some 30,.p (.caps (.tmp 29)),none⟩,bt 31 .gtr 28 30] [] [0,1,2,7,8,31])
 (.cond (.tmp 31) (.seq (.region [mv 32 0,mv 33 1,⟨some 34,.p (.slc 1 (.tmp 32) none (some (.tmp 33)) none),none⟩,mv 35 8,mv 36 7,bt 37 .add 35 36,mv 38 1,bt 39 .sub 37 38,⟨some 40,.e (.appendz [.nilslice] 1 24 (.tmp 34) (.tmp 39)),none⟩,mv 9 40] [] [0,1,2,7,9])
 (.seq (.region [mv 41 9,mv 42 1,⟨some 43,.p (.slc 1 (.tmp 41) (some (.tmp 42)) none none),none⟩,mv 44 2,⟨some 45,.e (.copy 1 (.tmp 43) (.tmp 44)),none⟩] [] [0,1,7,9])
 (.seq (.dregion [⟨mv 46 9,0,8⟩,⟨mv 47 1,0,8⟩,⟨mv 48 7,0,8⟩,⟨bt 49 .add 47 48,0,8⟩,⟨⟨some 50,.p (.slc 1 (.tmp 46) (some (.tmp 49)) none none),none⟩,0,8⟩,⟨mv 51 0,0,8⟩,⟨mv 52 1,0,8⟩,⟨⟨some 53,.p (.slc 1 (.tmp 51) (some (.tmp 52)) none none),none⟩,0,8⟩,⟨⟨some 54,.e (.copy 1 (.tmp 50) (.tmp 53)),none⟩,0,9⟩] [9])
 (.seq (.region [mv 55 9,mv 6 55] [] [6])
 (.ret)))))
 (.skip)))
 (.seq (.region [mv 56 0,mv 57 8,mv 58 7,bt 59 .add 57 58,⟨some 60,.p (.slc 1 (.tmp 56) none (some (.tmp 59)) none),none⟩,mv 0 60] [] [0,1,2,7,8])
 (.seq (.seq (.region [mv 61 2,mv 62 0,mv 63 1,mv 64 7,bt 65 .add 63 64,⟨some 66,.p (.slc 1 (.tmp 62) (some (.tmp 65)) none none),none⟩,⟨some 67,.e (.extern (F 83) [(.tmp 61),(.tmp 66)]),none⟩,⟨some 68,.p (.not (.tmp 67)),none⟩] [] [0,1,2,7,8,68])
 (.cond (.tmp 68) (.seq (.dregion [⟨mv 69 0,0,8⟩,⟨mv 70 1,0,8⟩,⟨mv 71 7,0,8⟩,⟨bt 72 .add 70 71,0,8⟩,⟨⟨some 73,.p (.slc 1 (.tmp 69) (some (.tmp 72)) none none),none⟩,0,8⟩,⟨mv 74 0,0,8⟩,⟨mv 75 1,0,8⟩,⟨⟨some 76,.p (.slc 1 (.tmp 74) (some (.tmp 75)) none none),none⟩,0,8⟩,⟨⟨some 77,.e (.copy 1 (.tmp 73) (.tmp 76)),none⟩,0,9⟩] [0,1,2])
 (.seq (.region [mv 78 0,mv 79 1,⟨some 80,.p (.slc 1 (.tmp 78) (some (.tmp 79)) none none),none⟩,mv 81 2,⟨some 82,.e (.copy 1 (.tmp 80) (.tmp 81)),none⟩] [] [0])
 (.seq (.region [mv 83 0,mv 6 83] [] [6])
 (.ret))))
 (.skip)))
 (.seq (.region [mv 84 0,mv 85 8,⟨some 86,.p (.slc 1 (.tmp 84) (some (.tmp 85)) none none),none⟩,mv 87 2,⟨some 88,.e (.copy 1 (.tmp 86) (.tmp 87)),none⟩] [] [0,1,7])
 (.seq (.region [mv 89 0,mv 90 1,⟨some 91,.p (.slc 1 (.tmp 89) (some (.tmp 90)) none none),none⟩,mv 92 7,⟨some 93,.e (.call (F 84) [(.tmp 91),(.tmp 92)]),none⟩] [] [0])
 (.seq (.region [mv 94 0,mv 6 94] [] [6])
 (.ret))))))))))))
def M81 (F : Nat → Nat) : Fun := ⟨95,3,(K81 F).erase,[.tmp 6]⟩
theorem ok81 {F : Nat → Nat} : (K81 F).ok = true := rfl
abbrev K82 (_F : Nat → Nat) : KC := .seq (.region [mi 4 0] [] [0,1])
 (.seq (.seq (.region [mv 6 0,lb 7 6,mi 8 0] [] [0,1,7,8])
 (.block 0 (.loop (.seq (.region [bt 9 .lss 8 7] [] [0,1,7,8,9])
 (.seq (.cond (.tmp 9) (.skip)
 (.exit 0))
 (.seq (.block 1 (.seq (.region [mv 10 8,mv 5 10] [] [0,1,5,7,8])
 (.seq (.region [mv 11 1,mv 12 0,mv 13 5,ix 14 1 12 13,l1 15 14,⟨some 16,.e (.callv (.tmp 11) [(.tmp 15)]),none⟩] [] [0,1,5,7,8,16])
 (.cond (.tmp 16) (.seq (.region [mv 17 5,mv 4 17] [] [4])
 (.ret))
 (.skip)))))
 (.region [bi 18 .add 8 1,mv 8 18] [] [0,1,7,8])))))))
 (.seq (.region [⟨some 4,.p (.mov (.val (.int .i64 (.negSucc 0)))),none⟩] [] [4])
 (.ret)))
def M82 (F : Nat → Nat) : Fun := ⟨19,2,(K82 F).erase,[.tmp 4]⟩
theorem ok82 {F : Nat → Nat} : (K82 F).ok = true := rfl
abbrev K84 (F : Nat → Nat) : KC := .region [mv 4 0,mv 5 0,lb 6 5,mv 7 1,bt 8 .sub 6 7,⟨some 9,.e (.call (F 85) [(.tmp 4),(.tmp 8)]),none⟩] [] []
def M84 (F : Nat → Nat) : Fun := ⟨10,2,(K84 F).erase,[]⟩
abbrev K85 (F : Nat → Nat) : KC := .seq (.region [mv 4 0,mv 5 1,⟨some 6,.p (.slc 1 (.tmp 4) none (some (.tmp 5)) none),none⟩,⟨some 7,.e (.call (F 86) [(.tmp 6)]),none⟩] [] [0,1])
 (.seq (.region [mv 8 0,mv 9 1,⟨some 10,.p (.slc 1 (.tmp 8) (some (.tmp 9)) none none),none⟩,⟨some 11,.e (.call (F 86) [(.tmp 10)]),none⟩] [] [0])
 (.region [mv 12 0,⟨some 13,.e (.call (F 86) [(.tmp 12)]),none⟩] [] []))
def M85 (F : Nat → Nat) : Fun := ⟨14,2,(K85 F).erase,[]⟩
abbrev K86 (_F : Nat → Nat) : KC := .seq (.region [mv 4 0,lb 5 4,bi 6 .sub 5 1,mi 2 0,mv 3 6] [] [0,2,3])
 (.block 0 (.loop (.seq (.seq (.region [mv 7 2,mv 8 3,bt 9 .lss 7 8] [] [0,2,3,9])
 (.cond (.tmp 9) (.skip)
 (.exit 0)))
 (.seq (.block 1 (.dregion [⟨mv 14 0,0,11⟩,⟨mv 15 2,0,11⟩,⟨mv 18 0,0,11⟩,⟨mv 19 3,0,11⟩,⟨ix 20 1 18 19,0,11⟩,⟨l1 21 20,0,11⟩,⟨mv 22 0,0,11⟩,⟨mv 23 2,0,11⟩,⟨ix 24 1 22 23,0,11⟩,⟨l1 25 24,0,11⟩,⟨ix 26 1 14 15,0,11⟩,⟨⟨none,.e (.store 1 (.tmp 26) (.tmp 21)),none⟩,0,15⟩,⟨mv 16 0,0,15⟩,⟨mv 17 3,0,15⟩,⟨ix 27 1 16 17,12,15⟩,⟨⟨none,.e (.store 1 (.tmp 27) (.tmp 25)),none⟩,12,16⟩] [0,2,3]))
 (.region [mv 10 2,bi 11 .add 10 1,mv 12 3,bi 13 .sub 12 1,mv 2 11,mv 3 13] [] [0,2,3])))))
def M86 (F : Nat → Nat) : Fun := ⟨28,1,(K86 F).erase,[]⟩
end Go.Lib
end

section
set_option maxRecDepth 10000
namespace Go.Lib
open Go.Vm Go.Dv Go.Srt
variable {p : Prog} {ext : Ext} {F : Nat → Nat}
theorem clip_tight (L : HAggr p ext F) {H0 H : HpD} {s : D} {el : List (List D)} (g : Gr H0 H 1 s el) : WcD p ext (F 39) [s] H (fun d H' => Gr H0 H' 1 d el ∧ ∀ b o z n c, ¬ d = .slice b o z n c false) := by
  refine wc_of L.h39 (M := M39) rfl ok39 rfl (sem_run 9000 _ ?_);rcases g.at_ with ⟨rfl, rfl⟩ | ⟨b, ex, el0, rfl, h1, h2, h3, h4⟩
  · simp [slc_nil];refine sem_ret ?_;simp [M39];exact g
  · simp [slc_own];refine sem_ret ?_;simp [M39];exact ⟨g.sub, g.len, .inr ⟨b, true, el0, rfl, h1, h2, h3, h4⟩⟩
structure HModl (p : Prog) (ext : Ext) (F : Nat → Nat) : Prop where
  aggr : HAggr p ext F
  pred : HPred p ext F
  x45 : ∀ args h, ext (F 45) args h = extV .add64 args h
  h70 : Has p ext F 70 M70
  h71 : Has p ext F 71 M71
  h72 : Has p ext F 72 M72
  h73 : Has p ext F 73 M73
  h74 : Has p ext F 74 M74
  h75 : Has p ext F 75 M75
  h76 : Has p ext F 76 M76
  h77 : Has p ext F 77 M77
  h78 : Has p ext F 78 M78
  h79 : Has p ext F 79 M79
  h80 : Has p ext F 80 M80
  h81 : Has p ext F 81 M81
  h82 : Has p ext F 82 M82
structure GrT (H0 H : HpD) (s : D) (R : List Row) : Prop where
  x : GrX H0 H 1 s (rowsE R)
  tight : ∀ b o z n c, ¬ s = .slice b o z n c false
theorem GrT.at_ {H0 H : HpD} {s : D} {R : List Row} (g : GrT H0 H s R) : (s = .lit .nilslice ∧ R = []) ∨ ∃ b, s = .slice b 0 1 R.length R.length true ∧ H0.next ≤ b ∧ b < H.next ∧ H.blk b = .cells (rowsE R).flatten false := by
  rcases g.x.at_ with ⟨h, h'⟩ | ⟨b, ex, rfl, h1, h2, h3⟩
  · exact .inl ⟨h, by simpa [rowsE] using h'⟩
  · have : ex = true := by
      cases ex with
      | true => rfl
      | false => exact absurd rfl (g.tight _ _ _ _ _)
    subst this;exact .inr ⟨b, by simp, h1, h2, h3⟩
theorem GrT.keep {H0 H H1 : HpD} {s : D} {R : List Row} (g : GrT H0 H s R) (hs : Sub H H1) (hk : ∀ x, s.hasB x → H1.blk x = H.blk x) : GrT H0 H1 s R := ⟨g.x.keep hs hk, g.tight⟩
theorem GrT.far {H0 H H1 : HpD} {s : D} {R : List Row} (g : GrT H0 H s R) (hs : Sub H H1) : GrT H0 H1 s R := g.keep hs fun x hx => hs.blk x (g.x.gr.far hx).2
theorem mstill_own (L : HModl p ext F) {l : List Row} {H : HpD} (hl : Fine l) : WcD p ext (F 72) [rowsD l] H (fun d H' => Gr H H' 1 d (rowsE l) ∧ ∀ b o z n c, ¬ d = .slice b o z n c false) := by
  refine wc_of L.h72 (M := M72) rfl ok72 rfl (sem_run 9000 _ ?_);simp;refine sem_loop (StillI H l) ?_ (k := l.length) ⟨0, .lit .nilslice, by simp, by simp, rfl, by simpa [rowsE] using Gr.start⟩;rintro k fr H' ⟨i, s, rfl, hi, rfl, g⟩;refine sem_run 9000 _ ?_;simp;have hl1 := hl.1
  by_cases c : i < l.length
  · have hx : l[i]? = some l[i] := (by simp);have hr := hl.2 l[i] (by simp);simp [c];refine sem_fn (schm_row L.aggr.schm hr) (by first | exact D.les_refl _ | simp) (sem_run 9000 _ ?_);simp;refine sem_push (g.mono (by repeat (first | exact Sub.refl | apply Sub.new | refine Sub.put ?_ (by first | omega | (simp only [put_next, new_next]; omega))))) rfl rfl (roomyD (by simp; omega) (by simp; omega)) fun s' H1 g1 _ _ => ?_;simp;refine sem_ok ?_;have hw : wr .i64 ((i : Int) + 1) = ((i + 1 : Nat) : Int) := (by rw [wr_of] <;> omega);rw [rowsE_snoc hx] at g1;exact ⟨_, by omega, i + 1, s', rfl, by omega, by rw [hw], g1⟩
  · simp [c];refine sem_exit (sem_run 9000 _ ?_);have : i = l.length := (by omega);subst this;rw [List.take_length] at g;simp;refine sem_call (clip_tight L.aggr g) fun d H2 g2 => ?_;refine sem_run 9000 _ ?_;simp;refine sem_ret ?_;simp [M72];exact g2
def keyF (r : Row) : Int := (atV r 0).n
theorem modl_key (L : HModl p ext F) {r : Row} : FnD p ext (F 78) [rowD r] (.lit (.int .i64 (keyF r))) := by
  refine fn_of L.h78 (M := M78) rfl ok78 rfl fun H => sem_run 9000 _ ?_;simp;refine sem_fn (schm_at L.aggr.schm) (by first | exact D.les_refl _ | simp) (sem_run 9000 _ ?_);simp;refine sem_ret ?_;simp [M78, keyF];exact .same (by simp)
theorem modl_insert1 (L : HModl p ext F) {r : Row} {k : Int} : FnD p ext (F 80) [rowD r, .lit (.int .i64 k)] (.lit (.int .i64 (cmpI (keyF r) k))) := by
  refine fn_of L.h80 (M := M80) rfl ok80 rfl fun H => sem_run 9000 _ ?_;simp;refine sem_fn (modl_key L) (by first | exact D.les_refl _ | simp) (sem_run 9000 _ ?_);simp;refine sem_fn (compare_int64 L.aggr.schm) (by first | exact D.les_refl _ | simp) (sem_run 9000 _ ?_);simp;refine sem_ret ?_;simp [M80];exact .same (by simp)
def KeyRise (R : List Row) : Prop := R.Pairwise fun a b => keyF a < keyF b
theorem shr1 {n : Int} : shrI .u64 n 1 = n / 2 := by
  rw [shr_eq, Int.fdiv_eq_ediv_of_nonneg _ (by decide)];rfl
def KeyAt (R : List Row) (k : Int) (i : Nat) : Prop := i ≤ R.length ∧ (∀ q r, q < i → R[q]? = some r → keyF r < k) ∧ ∀ q r, i ≤ q → R[q]? = some r → k ≤ keyF r
def BsI (s : D) (R : List Row) (k : Int) (cv : D) (w : Nat) (fr : FrD) (H' : HpD) (H : HpD) : Prop :=
  ∃ i j : Nat, w = j - i ∧ i ≤ j ∧ j ≤ R.length ∧ (∀ q r, q < i → R[q]? = some r → keyF r < k) ∧ (∀ q r, j ≤ q → R[q]? = some r → k ≤ keyF r) ∧
    fr = [(0, s), (1, .lit (.int .i64 k)), (2, cv), (8, .lit (.int .i64 (R.length : Int))), (9, .lit (.int .i64 (i : Int))), (10, .lit (.int .i64 (j : Int)))] ∧ H' = H
def hasK (R : List Row) (k : Int) (i : Nat) : Bool := match R[i]? with
  | some r => decide (keyF r = k)
  | none => false
theorem cell_row {R : List Row} {h : Nat} {r : Row} (hr : R[h]? = some r) : (rowsE R).flatten[h]? = some (rowD r) := by
  have e : (rowsE R)[h]? = some [rowD r] := (by simp [rowsE, hr]);simpa using flat_get (j := 0) rows_one e (by omega)
theorem bsearch (L : HModl p ext F) {H0 H : HpD} {s : D} {R : List Row} {k : Int} (g : GrT H0 H s R) (hl : R.length < 1000000) (hk : KeyRise R) : WcD p ext (F 79) [s, .lit (.int .i64 k), .func (F 80) [] []] H (fun d H' => H' = H ∧ ∃ i, KeyAt R k i ∧ d = .tup [.lit (.int .i64 (i : Int)), .lit (.bool (hasK R k i))]) := by
  refine wc_of L.h79 (M := M79) rfl ok79 rfl (sem_run 9000 _ ?_);simp;have hlen : lenbD s = some (.lit (.int .i64 (R.length : Int))) := (by rw [g.x.gr.lenb, rows_len]);simp [hlen];refine sem_loop (fun w fr H' => BsI s R k (.func (F 80) [] []) w fr H' H) ?_ (k := R.length) ⟨0, R.length, by simp, by simp, by simp, fun q r h => by omega, fun q r h1 h2 => by have := (List.getElem?_eq_some_iff.1 h2).1; omega, rfl, rfl⟩;rintro w fr H' ⟨i, j, rfl, hij, hj, hlo, hhi, rfl, rfl⟩;refine sem_run 9000 _ ?_;simp
  by_cases c : i < j
  · rcases g.at_ with ⟨rfl, rfl⟩ | ⟨b, rfl, h1, h2, h3⟩
    · simp at hj; omega
    · obtain ⟨m, hm⟩ : ∃ m, m = (i + j) / 2 := ⟨_, rfl⟩;obtain ⟨r, hr⟩ : ∃ r, R[m]? = some r := ⟨R[m]'(by omega), by simp⟩;have w1 : wr .i64 ((i : Int) + j) = (i : Int) + j := (by rw [wr_of] <;> omega);have w2 : wr .u64 ((i : Int) + j) = (i : Int) + j := (by rw [wr_u64m]; omega);have w3 : shrI .u64 ((i : Int) + j) 1 = (m : Int) := (by rw [shr1]; omega);have w4 : wr .i64 (m : Int) = (m : Int) := (by rw [wr_of] <;> omega);have w5 : wr .i64 ((m : Int) + 1) = ((m + 1 : Nat) : Int) := (by rw [wr_of] <;> omega);have hml : m < R.length := (by omega);have hc := cell_row hr;simp [c, w1, w2, w3, w4, hml, h3, hc, -List.length_flatten];refine sem_fn (modl_insert1 L (r := r) (k := k)) (by first | exact D.les_refl _ | simp) (sem_run 9000 _ ?_)
      have hmono : ∀ p q x y, p < q → R[p]? = some x → R[q]? = some y → keyF x < keyF y := fun p q x y hpq hx hy => by
        obtain ⟨hp', rfl⟩ := List.getElem?_eq_some_iff.1 hx;obtain ⟨hq', rfl⟩ := List.getElem?_eq_some_iff.1 hy;exact List.pairwise_iff_getElem.1 hk p q hp' hq' hpq
      by_cases cc : keyF r < k
      · have ci : cmpI (keyF r) k < 0 := (by unfold cmpI; rw [if_pos cc]; omega);simp [ci, w5];refine sem_ok ?_;refine ⟨j - (m + 1), by omega, m + 1, j, rfl, by omega, hj, fun q x h1 h2 => ?_, hhi, by simp, rfl⟩
        by_cases e : q = m
        · subst e; rw [hr] at h2; cases h2; exact cc
        · have := hmono q m x r (by omega) h2 hr; omega
      · have ci : ¬ cmpI (keyF r) k < 0 := (by unfold cmpI; rw [if_neg cc]; split <;> omega);simp [ci];refine sem_ok ?_;refine ⟨m - i, by omega, i, m, rfl, by omega, by omega, hlo, fun q x h1 h2 => ?_, by simp, rfl⟩
        by_cases e : q = m
        · subst e; rw [hr] at h2; cases h2; omega
        · have := hmono m q r x (by omega) hr h2; omega
  · have : i = j := (by omega);subst this;simp;refine sem_exit (sem_run 9000 _ ?_);have hat : KeyAt R k i := ⟨hj, hlo, hhi⟩
    by_cases c2 : i < R.length
    · obtain ⟨r, hr⟩ : ∃ r, R[i]? = some r := ⟨R[i], by simp⟩;have hc := cell_row hr;rcases g.at_ with ⟨rfl, rfl⟩ | ⟨b, rfl, h1, h2, h3⟩
      · simp at c2
      · simp [c2, h3, hc, -List.length_flatten];refine sem_fn (modl_insert1 L (r := r) (k := k)) (by first | exact D.les_refl _ | simp) (sem_run 9000 _ ?_);simp;refine sem_ret ?_;simp [M79];refine ⟨i, hat, rfl, ?_⟩;rw [hasK, hr];simp only [cmpI_eq]
    · simp [c2];refine sem_ret ?_;simp [M79];refine ⟨i, hat, rfl, ?_⟩;have : R[i]? = none := (by simp; omega);rw [hasK, this]
theorem slc_from {sz b o n cap i : Nat} {ex : Bool} (h : i ≤ n) : slcD sz (.slice b o sz n cap ex) (some (.lit (.int .i64 (i : Int)))) none none = some (.slice b (o + i * sz) sz (n - i) (cap - i) ex) := by
  simp [slcD, bndD, slcV, sliceO, needH, boundM, boundH, boundL, ble_d, h]
theorem slc_to {sz b o n cap i : Nat} {ex : Bool} (h : i ≤ cap) : slcD sz (.slice b o sz n cap ex) none (some (.lit (.int .i64 (i : Int)))) none = some (.slice b o sz i cap ex) := by
  simp [slcD, bndD, slcV, sliceO, needH, boundM, boundH, boundL, ble_d, h]
theorem slc_nil0 {sz : Nat} : slcD sz (.lit .nilslice) (some (.lit (.int .i64 0))) none none = some (.lit .nilslice) := rfl
theorem caps_slice {b o sz n c : Nat} : capsD (.slice b o sz n c true) = some (.lit (.int .i64 (c : Int))) := rfl
theorem rep_nil {m : Nat} : repD (dVs [.nilslice]) m = List.replicate m (.lit .nilslice) := by
  induction m with
  | zero => rfl
  | succ m ih => rw [repD, ih]; rfl
theorem appz {H : HpD} {b n i m : Nat} {cs : List D} {ro : Bool} (hb : H.blk b = .cells cs ro) (hcs : cs.length = n) (hi : i ≤ n) (hm : n < i + m) (hl : i + m < 1000000000) :
    appendZD [.nilslice] 1 24 H (.slice b 0 1 i n true) (.lit (.int .i64 (m : Int))) = some (.slice H.next 0 1 (i + m) (i + m) false, H.new (.cells (cs.take i ++ List.replicate m (.lit .nilslice)) false)) := by
  obtain ⟨m', rfl⟩ : ∃ m', m = m' + 1 := ⟨m - 1, by omega⟩;have hr1 : roomy 24 (m' + 1) = true := roomyD (by omega) (by omega);have hr2 : roomy 24 (i + (m' + 1)) = true := roomyD (by omega) (by omega)
  have h1 : readD H b 0 (i * 1) = some (cs.take i) := by
    rw [readD_eq, hb]; simp; omega
  have h2 : ¬ i + (m' + 1) ≤ n := (by omega);unfold appendZD;simp only [natD_cast];simp only [hr1, cond_true];show appendCD 1 24 H (.slice b 0 1 i n true) (m' + 1) (repD (dVs [.nilslice]) (m' + 1)) = _;rw [rep_nil];unfold appendCD;simp only [beq_d, decide_true, cond_true, ble_d, h2, decide_false, cond_false, hr2, h1, growD]
theorem copy_row {H : HpD} {nb o len cap : Nat} {ex : Bool} {m : Md} {d : D} {cs : List D} (hb : H.blk nb = .cells cs false) (h1 : 1 ≤ len) (h2 : o + 1 ≤ cs.length) (hf : flatD d = true) :
    copyD H 1 (.slice nb o 1 len cap ex) (.row 1 m [[d]]) = some (.lit (.int .i64 1), H.put nb (.cells (spliceD cs o [d]) false)) := by
  have hmin : minN 1 len = 1 := by unfold minN; rw [ble_d]; simp [h1]
  have hw : writeD H nb o [d] = some (H.put nb (.cells (spliceD cs o [d]) false)) := by
    rw [writeD_eq, hb, writeBD_cells, if_pos ⟨h2, by simp [flatsD, hf]⟩]; rfl
  show cond (Nat.beq 1 1) (copyC H (minN 1 len) nb o (srcD H 1 (minN 1 len) (.row 1 m [[d]]))) none = _;rw [hmin];have hs : srcD H 1 1 (.row 1 m [[d]]) = some [d] := (by cases m <;> rfl);rw [hs]
  show (match writeD H nb o [d] with | some H' => some (D.lit (.int .i64 1), H') | none => none) = _
  rw [hw]
theorem copy_slice {H : HpD} {nb o len cap b o2 cap2 : Nat} {ex ex2 : Bool} {cs cs2 : List D} {ro : Bool} (hb : H.blk nb = .cells cs false) (hb2 : H.blk b = .cells cs2 ro) (h1 : 1 ≤ len) (h2 : o + len ≤ cs.length) (h3 : o2 + len ≤ cs2.length) (hf : flatsD ((cs2.drop o2).take len) = true) :
    copyD H 1 (.slice nb o 1 len cap ex) (.slice b o2 1 len cap2 ex2) = some (.lit (.int .i64 (len : Int)), H.put nb (.cells (spliceD cs o ((cs2.drop o2).take len)) false)) := by
  have hmin : minN len len = len := (by unfold minN; rw [ble_d]; simp)
  have hlen : ((cs2.drop o2).take len).length = len := by simp; omega
  have hw : writeD H nb o ((cs2.drop o2).take len) = some (H.put nb (.cells (spliceD cs o ((cs2.drop o2).take len)) false)) := by
    rw [writeD_eq, hb, writeBD_cells, if_pos ⟨by rw [hlen]; exact h2, hf⟩]; rfl
  show cond (Nat.beq 1 1) (copyC H (minN len len) nb o (srcD H 1 (minN len len) (.slice b o2 1 len cap2 ex2))) none = _;rw [hmin]
  have hs : srcD H 1 len (.slice b o2 1 len cap2 ex2) = some ((cs2.drop o2).take len) := by
    show cond (Nat.beq 1 1) (cond (Nat.ble len len) (readD H b o2 (len * 1)) none) none = _;rw [ble_d, readD_eq, hb2]; simp [h3]
  rw [hs];generalize hL : (cs2.drop o2).take len = L at *
  cases L with
  | nil => simp at hlen; omega
  | cons x L =>
    show (match writeD H nb o (x :: L) with | some H' => some (D.lit (.int .i64 (len : Int)), H') | none => none) = _
    rw [hw]
def putAt (R : List Row) (i : Nat) (r : Row) : List Row := R.take i ++ r :: R.drop i
theorem put_cells {A D0 M : List D} {x : D} (hm : M.length = D0.length + 1) : spliceD (spliceD (A ++ M) A.length [x]) (A.length + 1) D0 = A ++ x :: D0 := by
  have e1 : spliceD (A ++ M) A.length [x] = (A ++ [x]) ++ M.drop 1 := by
    have := splice_left (x := [x]) A M 0;rw [Nat.add_zero] at this;rw [this, spliceD_zero]; simp
  have e2 : A.length + 1 = (A ++ [x]).length + 0 := (by simp);rw [e1, e2, splice_left, spliceD_zero];have : (M.drop 1).drop D0.length = [] := List.drop_eq_nil_of_le (by simp; omega);rw [this]; simp
theorem sl_insert (L : HModl p ext F) {H0 H : HpD} {s : D} {R : List Row} {i : Nat} {r : Row} {m : Md} (g : GrT H0 H s R) (hl : R.length < 1000000) (hi : i ≤ R.length) : WcD p ext (F 81) [s, .lit (.int .i64 (i : Int)), .row 1 m [[rowD r]]] H (fun d H' => Gr H0 H' 1 d (rowsE (putAt R i r)) ∧ (∀ x, d.hasB x → H.next ≤ x) ∧ H.next ≤ H'.next ∧ ∀ x, x < H.next → ¬ s.hasB x → H'.blk x = H.blk x) := by
  refine wc_of L.h81 (M := M81) rfl ok81 rfl (sem_run 9000 _ ?_);have hlen : lenbD s = some (.lit (.int .i64 (R.length : Int))) := (by rw [g.x.gr.lenb, rows_len]);rcases g.at_ with ⟨rfl, rfl⟩ | ⟨b, rfl, h1, h2, h3⟩
  · simp at hi; subst hi;simp [slc_nil0];refine sem_push g.x.gr rfl rfl (roomyD (by simp [rowsE]) (by simp [rowsE])) fun s' H1 g1 k1 n1 => ?_;obtain ⟨n1, rfl⟩ := n1;simp;refine sem_ret ?_;simp [M81];exact ⟨g1, fun x hx => by simp only [D.hasB] at hx; omega, n1, k1⟩
  · simp [slc_from hi]
    by_cases c : i = R.length
    · subst c;simp;refine sem_push g.x.gr rfl rfl (roomyD (by simp; omega) (by simp; omega)) fun s' H1 g1 k1 n1 => ?_;obtain ⟨n1, rfl⟩ := n1;simp;refine sem_ret ?_;simp [M81];have e : rowsE (putAt R R.length r) = rowsE R ++ [[rowD r]] := (by simp [putAt, rowsE]);rw [e];exact ⟨by simpa using g1, fun x hx => by simp only [D.hasB] at hx; omega, n1, k1⟩
    · have c' : ¬ (i : Int) = (R.length : Int) := (by omega);have hlt : i < R.length := (by omega);obtain ⟨m', hm⟩ : ∃ m', R.length + 1 - i = m' := ⟨_, rfl⟩;have w1 : wr .i64 ((R.length : Int) + 1) = (R.length : Int) + 1 := (by rw [wr_of] <;> omega);have w2 : wr .i64 ((R.length : Int) + 1 - (i : Int)) = (m' : Int) := (by rw [wr_of] <;> omega);have w3 : wr .i64 ((i : Int) + 1) = ((i + 1 : Nat) : Int) := (by rw [wr_of] <;> omega);have hgt : (R.length : Int) < (R.length : Int) + 1 := (by omega);have hfl : (rowsE R).flatten.length = R.length := (by rw [flatten_len rows_one, rows_len]; omega);obtain ⟨cs, hcs⟩ : ∃ cs, cs = (rowsE R).flatten := ⟨_, rfl⟩;rw [← hcs] at h3 hfl;have hap := appz (m := m') h3 hfl hi (by omega) (by omega)
      have hfs : flatsD ((cs.drop i).take (R.length - i)) = true := by
        have : ∀ l : List Row, flatsD (rowsE l).flatten = true := fun l => flatsD_flatten rows_flats
        have e : (cs.drop i).take (R.length - i) = (rowsE (R.drop i)).flatten := by
          rw [List.take_of_length_le (by simp; omega), hcs, rowsE_flat, rowsE_flat, List.map_drop]
        rw [e]; exact this _
      have hA : (cs.take i).length = i := (by simp; omega);have hc1 : i + 1 ≤ (cs.take i ++ List.replicate m' (D.lit .nilslice)).length := (by simp; omega);simp [c', w1, hgt, slc_to hi, caps_slice, w2, hap];rw [slc_from (i := i) (by omega)];simp;rw [copy_row (cs := cs.take i ++ List.replicate m' (.lit .nilslice)) (by simp) (by omega) hc1 (by simp)]
      have hs1 : slcD 1 (.slice H.next 0 1 (i + m') (i + m') false) (some (.lit (.int .i64 ((i : Int) + 1)))) none none = some (.slice H.next (0 + (i + 1) * 1) 1 (R.length - i) (R.length - i) false) := by
        have := slc_from (sz := 1) (b := H.next) (o := 0) (n := i + m') (cap := i + m') (i := i + 1) (ex := false) (by omega);rw [show i + m' - (i + 1) = R.length - i by omega] at this;simpa using this
      have hc2 : i + 1 + (R.length - i) ≤ (spliceD (cs.take i ++ List.replicate m' (D.lit .nilslice)) i [rowD r]).length := by
        rw [spliceD_length (by simp; omega)]; simp; omega
      simp [w3, hs1, slc_from hi];rw [copy_slice (cs := spliceD (cs.take i ++ List.replicate m' (D.lit .nilslice)) i [rowD r]) (cs2 := cs) (ro := false) (by simp) (by rw [put_blk, if_neg (by omega), new_blk, if_neg (by omega)]; exact h3) (by omega) (by simpa using hc2) (by omega) hfs]
      have hfin : spliceD (spliceD (cs.take i ++ List.replicate m' (D.lit .nilslice)) i [rowD r]) (i + 1) ((cs.drop i).take (R.length - i)) = (rowsE (putAt R i r)).flatten := by
        have := put_cells (A := cs.take i) (D0 := (cs.drop i).take (R.length - i)) (M := List.replicate m' (D.lit .nilslice)) (x := rowD r) (by simp; omega);rw [hA] at this;rw [this, List.take_of_length_le (i := R.length - i) (l := cs.drop i) (by simp; omega), hcs, rowsE_flat, rowsE_flat, putAt, List.map_append, List.map_cons, List.map_take, List.map_drop];rfl
      simp [hfin];refine sem_ret ?_;simp [M81];refine ⟨⟨⟨Nat.le_trans g.x.gr.sub.next (by simp), fun x hx => ?_⟩, rows_one, .inr ⟨H.next, false, rowsE (putAt R i r), ?_, g.x.gr.sub.next, by simp, by simp, D.less_refl _⟩⟩, fun x hx => by simp only [D.hasB] at hx; omega, fun x hx _ => by rw [if_neg (by omega), if_neg (by omega)]⟩
      · have := g.x.gr.sub.next;rw [put_blk, if_neg (by omega), new_blk, if_neg (by omega)];exact g.x.gr.sub.blk x hx
      · have e : (rowsE (putAt R i r)).length = i + m' := (by simp [putAt]; omega);rw [e]
structure Rs where
  err : Int
  n : Int
  rows : List Row
def Rs.c (x : Rs) : List D := [.lit (.int .i64 x.err), .lit (.int .i64 x.n), rowsD x.rows]
theorem rs_unders {n : Nat} {x : Rs} : D.unders n x.c := by simp [Rs.c, rows_under]
attribute [simp] rs_unders
theorem rows_nil : D.le (.lit .nilslice) (rowsD []) := by simp [rowsD, rowsE, D.le]
theorem modl_insert (L : HModl p ext F) {H0 H : HpD} {s : D} {R : List Row} {r : Row} (g : GrT H0 H s R) (hl : R.length < 1000000) (hk : KeyRise R) (hr : r.length < 1000000) : WcD p ext (F 74) [s, rowD r] H (fun d H' => ∃ i, KeyAt R (keyF r) i ∧ ((hasK R (keyF r) i = true ∧ d = .tup [s, .agg [.lit (.int .i64 1), .lit (.int .i64 0), .lit .nilslice]] ∧ Gr H0 H' 1 s (rowsE R)) ∨ (hasK R (keyF r) i = false ∧ ∃ s', d = .tup [s', .agg [.lit (.int .i64 0), .lit (.int .i64 1), .lit .nilslice]] ∧ Gr H0 H' 1 s' (rowsE (putAt R i r))))) := by
  refine wc_of L.h74 (M := M74) rfl ok74 rfl (sem_run 9000 _ ?_);simp;refine sem_fn (modl_key L) (by first | exact D.les_refl _ | simp) (sem_run 9000 _ ?_);simp;refine sem_call (bsearch L (g.far (by repeat (first | exact Sub.refl | apply Sub.new | refine Sub.put ?_ (by first | omega | (simp only [put_next, new_next]; omega))))) hl hk) ?_;rintro _ H2 ⟨rfl, i, hi, rfl⟩;refine sem_run 9000 _ ?_;simp
  cases hh : hasK R (keyF r) i with
  | true =>
    simp;refine sem_ret ?_;simp [M74];exact ⟨i, hi, hh, (g.far (by repeat (first | exact Sub.refl | apply Sub.new | refine Sub.put ?_ (by first | omega | (simp only [put_next, new_next]; omega))))).x.gr⟩
  | false =>
    simp;refine sem_fn (schm_row L.aggr.schm hr) (by first | exact D.les_refl _ | simp) (sem_run 9000 _ ?_);simp;refine sem_call (sl_insert L (g.far (by repeat (first | exact Sub.refl | apply Sub.new | refine Sub.put ?_ (by first | omega | (simp only [put_next, new_next]; omega))))) hl hi.1) fun d H3 g3 => ?_;obtain ⟨g3, f3, n3, k3⟩ := g3;simp at n3 f3
    have h5 : H3.blk H.next = .cells [.lit (.int .i64 0), .lit (.int .i64 0), .lit .nilslice] false := by
      rw [k3 H.next (by simp) (fun h => by have := (g.x.gr.far h).2; omega)]; simp
    have l5 : H.next < H3.next := (by omega);refine sem_run 9000 _ ?_;simp;simp [h5];refine sem_ret ?_;simp [M74];refine ⟨i, hi, hh, g3.keep (g3.sub.put g.x.gr.sub.next) (by simp) fun x hx => ?_⟩;rw [put_blk, if_neg (by have := f3 x hx; omega)]
def IxI (s : D) (R : List Row) (pf : Row → Bool) (cv : D) (w : Nat) (fr : FrD) (H' : HpD) (H : HpD) : Prop :=
  ∃ i : Nat, w = R.length - i ∧ i ≤ R.length ∧ (∀ q r, q < i → R[q]? = some r → pf r = false) ∧
    fr = [(0, s), (1, cv), (7, .lit (.int .i64 (R.length : Int))), (8, .lit (.int .i64 (i : Int)))] ∧ H' = H
def IxR (R : List Row) (pf : Row → Bool) (n : Int) : Prop := (n = -1 ∧ ∀ r, r ∈ R → pf r = false) ∨ ∃ i : Nat, n = i ∧ i < R.length ∧ (∀ q r, q < i → R[q]? = some r → pf r = false) ∧ ∀ r, R[i]? = some r → pf r = true
theorem indexFunc (L : HModl p ext F) {H0 H : HpD} {s : D} {R : List Row} {f : Nat} {cs : List D} {pf : Row → Bool} (g : GrT H0 H s R) (hl : R.length < 1000000) (hf : ∀ r, r ∈ R → FnD p ext f (rowD r :: cs) (.lit (.bool (pf r)))) : WcD p ext (F 82) [s, .func f [] cs] H (fun d H' => H' = H ∧ ∃ n, IxR R pf n ∧ d = .lit (.int .i64 n)) := by
  refine wc_of L.h82 (M := M82) rfl ok82 rfl (sem_run 9000 _ ?_);simp;have hlen : lenbD s = some (.lit (.int .i64 (R.length : Int))) := (by rw [g.x.gr.lenb, rows_len]);simp [hlen];refine sem_loop (fun w fr H' => IxI s R pf (.func f [] cs) w fr H' H) ?_ (k := R.length) ⟨0, by simp, by simp, fun q r h => by omega, rfl, rfl⟩;rintro w fr H' ⟨i, rfl, hi, hlo, rfl, rfl⟩;refine sem_run 9000 _ ?_;simp
  by_cases c : i < R.length
  · rcases g.at_ with ⟨rfl, rfl⟩ | ⟨b, rfl, h1, h2, h3⟩
    · simp at c
    · obtain ⟨r, hr⟩ : ∃ r, R[i]? = some r := ⟨R[i], by simp⟩;have hc := cell_row hr;have wi : wr .i64 ((i : Int) + 1) = ((i + 1 : Nat) : Int) := (by rw [wr_of] <;> omega);simp [c, h3, hc, -List.length_flatten];refine sem_fn (hf r (List.mem_of_getElem? hr)) (by first | exact D.les_refl _ | simp) (sem_run 9000 _ ?_)
      cases hp : pf r with
      | true =>
        simp;refine sem_ret ?_;simp;refine sem_ret ?_;simp [M82];exact .inr ⟨i, rfl, c, hlo, fun x hx => by rw [hr] at hx; cases hx; exact hp⟩
      | false =>
        simp;refine sem_ok ?_;refine ⟨R.length - (i + 1), by omega, i + 1, rfl, by omega, fun q x h e => ?_, by rw [wi], rfl⟩
        by_cases e2 : q = i
        · subst e2; rw [hr] at e; cases e; exact hp
        · exact hlo q x (by omega) e
  · have : i = R.length := (by omega);subst this;simp;refine sem_exit (sem_run 9000 _ ?_);simp;refine sem_ret ?_;simp [M82];refine .inl ⟨rfl, fun r hr => ?_⟩;obtain ⟨q, hq⟩ := List.mem_iff_getElem?.1 hr;exact hlo q r (List.getElem?_eq_some_iff.1 hq).1 hq
theorem clear_slice {H : HpD} {b o n c : Nat} {ex : Bool} {cs : List D} (hb : H.blk b = .cells cs false) (h : o + n ≤ cs.length) :
    ∃ H' cs', clearD H [.nilslice] (.slice b o 1 n c ex) = some (.tup [], H') ∧ H'.next = H.next ∧ (∀ x, x ≠ b → H'.blk x = H.blk x) ∧ H'.blk b = .cells cs' false ∧ cs'.take o = cs.take o := by
  cases n with
  | zero => exact ⟨H, cs, rfl, rfl, fun _ _ => rfl, hb, rfl⟩
  | succ n =>
    refine ⟨H.put b (.cells (spliceD cs o (List.replicate (n + 1) (.lit .nilslice))) false), spliceD cs o (List.replicate (n + 1) (.lit .nilslice)), ?_, by simp, fun x hx => by rw [put_blk, if_neg hx], by simp, splice_take (by omega)⟩
    have hf : ∀ m, flatsD (List.replicate m (D.lit .nilslice)) = true := by
      intro m
      induction m with
      | zero => rfl
      | succ m ih => simp [List.replicate_succ, flatsD, ih]
    show cond (Nat.beq 1 1) (tupO (writeD H b o (repD (dVs [.nilslice]) (n + 1)))) none = _;rw [rep_nil, writeD_eq, hb, writeBD_cells, if_pos ⟨by simpa using h, hf _⟩];rfl
def keepF (pf : Row → Bool) (R : List Row) : List Row := R.filter fun r => !pf r
def DelI (H0 H : HpD) (b : Nat) (R : List Row) (pf : Row → Bool) (cv : D) (w : Nat) (fr : FrD) (H' : HpD) : Prop :=
  ∃ (i j : Nat) (cs : List D), w = R.length - j ∧ i ≤ j ∧ j ≤ R.length ∧ fr = [(0, .slice b 0 1 R.length R.length true), (1, cv), (5, .lit (.int .i64 (i : Int))), (6, .lit (.int .i64 (j : Int)))] ∧
    Sub H0 H' ∧ H'.next = H.next ∧ H'.blk b = .cells cs false ∧ cs.length = R.length ∧ i = (keepF pf (R.take j)).length ∧ cs.take i = (keepF pf (R.take j)).map rowD ∧ cs.drop j = (R.drop j).map rowD
theorem deleteFunc (L : HModl p ext F) {H0 H : HpD} {s : D} {R : List Row} {f : Nat} {cl : List D} {pf : Row → Bool} (g : GrT H0 H s R) (hl : R.length < 1000000) (hf : ∀ r, r ∈ R → FnD p ext f (rowD r :: cl) (.lit (.bool (pf r)))) : WcD p ext (F 76) [s, .func f [] cl] H (fun d H' => (d = .lit .nilslice ∧ keepF pf R = [] ∧ Sub H0 H') ∨ ∃ b cs, d = .slice b 0 1 (keepF pf R).length R.length true ∧ (keepF pf R).length ≤ R.length ∧ H0.next ≤ b ∧ b < H'.next ∧ H'.blk b = .cells cs false ∧ cs.take (keepF pf R).length = (keepF pf R).map rowD ∧ Sub H0 H') := by
  refine wc_of L.h76 (M := M76) rfl ok76 rfl (sem_run 9000 _ ?_);simp;refine sem_call (indexFunc L g hl hf) ?_;rintro _ H2 ⟨rfl, n, hn, rfl⟩;refine sem_run 9000 _ ?_;simp;rcases hn with ⟨rfl, hall⟩ | ⟨i0, rfl, hi0, hlo, hat⟩
  · have hk : keepF pf R = R := List.filter_eq_self.2 fun r hr => (by simp [hall r hr]);simp;refine sem_ret ?_;simp [M76];rcases g.at_ with ⟨rfl, rfl⟩ | ⟨b, rfl, h1, h2, h3⟩
    · left; exact ⟨rfl, rfl, g.x.gr.sub⟩
    · right;rw [hk];refine ⟨b, by simp, Nat.le_refl _, h1, h2, _, h3, ?_, g.x.gr.sub⟩;rw [rowsE_flat, List.take_of_length_le (by simp)]; rfl
  · rcases g.at_ with ⟨rfl, rfl⟩ | ⟨b, rfl, h1, h2, h3⟩
    · simp at hi0
    · have hne : ¬ (i0 : Int) = -1 := (by omega);obtain ⟨r0, hr0⟩ : ∃ r, R[i0]? = some r := ⟨R[i0], by simp⟩;have hp0 := hat r0 hr0
      have w0 : wr .i64 ((i0 : Int) + 1) = ((i0 + 1 : Nat) : Int) := by rw [wr_of] <;> omega
      have hk0 : keepF pf (R.take i0) = R.take i0 := List.filter_eq_self.2 fun r hr => by
        obtain ⟨q, hq⟩ := List.mem_iff_getElem?.1 hr;rw [List.getElem?_take] at hq;split at hq
        · simp [hlo q r (by assumption) hq]
        · cases hq
      have hk1 : keepF pf (R.take (i0 + 1)) = R.take i0 := by
        rw [List.take_add_one, hr0];unfold keepF at hk0 ⊢;rw [List.filter_append, hk0]; simp [hp0]
      simp [hne, w0];refine sem_loop (DelI H0 H2 b R pf (.func f [] cl)) ?_ (k := R.length - (i0 + 1)) ⟨i0, i0 + 1, (rowsE R).flatten, rfl, by omega, by omega, by simp, g.x.gr.sub, rfl, h3, by rw [rowsE_flat]; simp, by rw [hk1]; simp; omega, by rw [hk1, rowsE_flat, List.map_take]; rfl, by rw [rowsE_flat, List.map_drop]; rfl⟩;rintro w fr H3 ⟨i, j, cs, rfl, hij, hj, rfl, s3, n3, b3, hcl, hil, hci, hcj⟩;refine sem_run 9000 _ ?_;simp
      have lb : b < H3.next := by omega
      by_cases c : j < R.length
      · obtain ⟨r, hr⟩ : ∃ r, R[j]? = some r := ⟨R[j], by simp⟩
        have hcr : cs[j]? = some (rowD r) := by
          have := congrArg (fun l => l[0]?) hcj;simpa [hr] using this
        have wj : wr .i64 ((j : Int) + 1) = ((j + 1 : Nat) : Int) := (by rw [wr_of] <;> omega)
        have wi : wr .i64 ((i : Int) + 1) = ((i + 1 : Nat) : Int) := by rw [wr_of] <;> omega
        have hdr : cs.drop (j + 1) = (R.drop (j + 1)).map rowD := by
          rw [← List.drop_drop, hcj, ← List.map_drop, List.drop_drop]
        simp [c, b3, hcr];refine sem_fn (hf r (List.mem_of_getElem? hr)) (by first | exact D.les_refl _ | simp) (sem_run 9000 _ ?_)
        cases hp : pf r with
        | true =>
          have hk : keepF pf (R.take (j + 1)) = keepF pf (R.take j) := by
            rw [List.take_add_one, hr]; unfold keepF; rw [List.filter_append]; simp [hp]
          simp;refine sem_ok ?_;exact ⟨R.length - (j + 1), by omega, i, j + 1, cs, rfl, by omega, by omega, by rw [wj], s3, n3, b3, hcl, by rw [hk]; exact hil, by rw [hk]; exact hci, hdr⟩
        | false =>
          have hk : keepF pf (R.take (j + 1)) = keepF pf (R.take j) ++ [r] := by
            rw [List.take_add_one, hr]; unfold keepF; rw [List.filter_append]; simp [hp]
          have il : i < R.length := (by omega);have hwl : i + 1 ≤ cs.length := (by omega);simp [il, b3, hwl];refine sem_ok ?_;refine ⟨R.length - (j + 1), by omega, i + 1, j + 1, cs.set i (rowD r), rfl, by omega, by omega, by rw [wj, wi], s3.put h1, by simpa using n3, by rw [put_blk, if_pos rfl, splice_one (by omega)], by simpa using hcl, by rw [hk]; simp; exact hil, ?_, ?_⟩
          · rw [hk, List.map_append, ← hci, List.take_add_one, List.take_set_of_le (Nat.le_refl _), List.getElem?_set_self (by omega)]; rfl
          · rw [List.drop_set_of_lt (by omega), hdr]
      · have : j = R.length := (by omega);subst this;rw [List.take_length] at hil hci;simp;refine sem_exit (sem_run 9000 _ ?_);have hir : i ≤ R.length := hij;obtain ⟨H4, cs', e4, n4, k4, b4, t4⟩ := clear_slice (o := i) (n := R.length - i) (c := R.length - i) (ex := true) b3 (by omega);simp [slc_from hir, slc_to hir, e4];refine sem_ret ?_;simp [M76];refine ⟨b, ⟨rfl, hil⟩, by omega, h1, by omega, cs', b4, ?_, ⟨by have := s3.next; omega, fun x hx => ?_⟩⟩
        · rw [← hil, t4, hci]
        · rw [k4 x (by omega)]; exact s3.blk x hx
structure Op where
  kind : Int
  row : Row
  pred : Pr
  sets : List Sx
  cols : List Int
  group : Int
  aggs : List Ag
def Op.c (o : Op) : List D := [.lit (.int .i64 o.kind), rowD o.row] ++ o.pred.c ++ [sxsD o.sets, intsD .p o.cols, .lit (.int .i64 o.group), agsD o.aggs]
theorem op_c {o : Op} : o.c = [.lit (.int .i64 o.kind), rowD o.row, .lit (.int .i64 o.pred.kind), .lit (.int .i64 o.pred.col), .lit (.int .i64 o.pred.op), .lit (.bool o.pred.v.null), .lit (.int .i64 o.pred.v.kind), .lit (.int .i64 o.pred.v.n), byD o.pred.v.bytes, prsD o.pred.l, sxsD o.sets, intsD .p o.cols, .lit (.int .i64 o.group), agsD o.aggs] := by
  rw [Op.c, pr_c]; rfl
theorem op_0 {o : Op} : o.c[0]? = some (.lit (.int .i64 o.kind)) := by rw [op_c]; rfl
theorem op_1 {o : Op} : o.c[1]? = some (rowD o.row) := by rw [op_c]; rfl
theorem op_10 {o : Op} : o.c[10]? = some (sxsD o.sets) := by rw [op_c]; rfl
theorem op_11 {o : Op} : o.c[11]? = some (intsD .p o.cols) := by rw [op_c]; rfl
theorem op_12 {o : Op} : o.c[12]? = some (.lit (.int .i64 o.group)) := by rw [op_c]; rfl
theorem op_13 {o : Op} : o.c[13]? = some (agsD o.aggs) := by rw [op_c]; rfl
theorem op_len {o : Op} : o.c.length = 14 := by rw [op_c]; rfl
theorem op_pred {o : Op} : (o.c.drop 2).take 8 = o.pred.c := by rw [op_c, pr_c]; rfl
theorem op_g {q : Op} {i : Nat} {d : D} (h : q.c[i]? = some d) (hi : i < q.c.length) : q.c[i] = d := (List.getElem?_eq_some_iff.1 h).2
theorem op_g0 {q : Op} (h : 0 < q.c.length) : q.c[0] = .lit (.int .i64 q.kind) := op_g op_0 h
theorem op_g1 {q : Op} (h : 1 < q.c.length) : q.c[1] = rowD q.row := op_g op_1 h
theorem op_g10 {q : Op} (h : 10 < q.c.length) : q.c[10] = sxsD q.sets := op_g op_10 h
theorem op_g11 {q : Op} (h : 11 < q.c.length) : q.c[11] = intsD .p q.cols := op_g op_11 h
theorem op_g12 {q : Op} (h : 12 < q.c.length) : q.c[12] = .lit (.int .i64 q.group) := op_g op_12 h
theorem op_g13 {q : Op} (h : 13 < q.c.length) : q.c[13] = agsD q.aggs := op_g op_13 h
theorem op_take {q : Op} : q.c.take 14 = q.c := List.take_of_length_le (by rw [op_len]; exact Nat.le_refl _)
theorem op_flats {q : Op} : flatsD q.c = true := by rw [op_c]; rfl
attribute [simp] op_0 op_1 op_10 op_11 op_12 op_13 op_len op_pred op_g0 op_g1 op_g10 op_g11 op_g12 op_g13 op_take op_flats
def pickF (o : Op) (r : Row) : Bool := decide (evalF o.pred r = 1)
theorem modl_do1 (L : HModl p ext F) {o : Op} {r : Row} {n : Nat} (hq : PrS n o.pred) : FnD p ext (F 73) [rowD r, .rptr o.c 0] (.lit (.bool (pickF o r))) := by
  refine fn_of L.h73 (M := M73) rfl ok73 rfl fun H => sem_run 9000 _ ?_;simp;refine sem_fn (pred_eval L.pred n o.pred hq r) (by first | exact D.les_refl _ | simp) (sem_run 9000 _ ?_);simp;refine sem_ret ?_;simp [M73, pickF];exact .same (by simp)
def updF (o : Op) : List Row → Option (List Row)
  | [] => some []
  | r :: R => if pickF o r then match setF r o.sets with
      | some r' => (updF o R).map (r' :: ·)
      | none => none
    else (updF o R).map (r :: ·)
def cntF (o : Op) (R : List Row) : Nat := (R.filter (pickF o)).length
def UpdI (H0 : HpD) (o : Op) (R : List Row) (k : Nat) (fr : FrD) (H : HpD) : Prop :=
  ∃ (i : Nat) (M : List Row) (s : D), k = R.length - i ∧ i ≤ R.length ∧ updF o (R.take i) = some M ∧
    fr = [(0, rowsD R), (3, .rptr o.c 0), (5, .ptr H0.next 0), (6, s), (7, .lit (.int .i64 (cntF o (R.take i) : Int))), (14, rowsD R), (15, .lit (.int .i64 (R.length : Int))), (16, .lit (.int .i64 (i : Int)))] ∧
    Gr H0 H 1 s (rowsE (M ++ R.drop i)) ∧ H.blk H0.next = .cells [.lit (.int .i64 0), .lit (.int .i64 0), .lit .nilslice] false ∧ ¬ s.hasB H0.next ∧ H0.next < H.next
theorem updF_snoc {o : Op} : ∀ {R : List Row} {i : Nat} {r : Row} {M : List Row}, R[i]? = some r → updF o (R.take i) = some M → updF o (R.take (i + 1)) = if pickF o r then (setF r o.sets).map (M ++ [·]) else some (M ++ [r])
  | [], i, r, M, h, _ => by simp at h
  | x :: R, 0, r, M, h, e => by
    simp at h; subst h;simp [updF] at e; subst e;simp only [List.take_succ_cons, List.take_zero, updF];cases pickF o x <;> simp;cases setF x o.sets <;> simp
  | x :: R, i + 1, r, M, h, e => by
    simp at h;simp only [List.take_succ_cons, updF] at e ⊢
    cases hp : pickF o x with
    | true =>
      simp only [hp, if_true] at e ⊢
      cases hs : setF x o.sets with
      | none => simp [hs] at e
      | some x' =>
        simp only [hs, Option.map_eq_some_iff] at e;obtain ⟨M', e1, rfl⟩ := e;rw [updF_snoc h e1];cases pickF o r <;> simp;cases setF r o.sets <;> simp
    | false =>
      simp only [hp, Bool.false_eq_true, if_false, Option.map_eq_some_iff] at e ⊢;obtain ⟨M', e1, rfl⟩ := e;rw [updF_snoc h e1];cases pickF o r <;> simp;cases setF r o.sets <;> simp
end Go.Lib
end

section
set_option maxRecDepth 10000
namespace Go.Lib
open Go.Vm Go.Dv Go.Srt
variable {p : Prog} {ext : Ext} {F : Nat → Nat}
theorem updF_len {o : Op} : ∀ {R M : List Row}, updF o R = some M → M.length = R.length
  | [], M, h => by simp [updF] at h; subst h; rfl
  | r :: R, M, h => by
    unfold updF at h;split at h
    · split at h
      · simp only [Option.map_eq_some_iff] at h;obtain ⟨M', e, rfl⟩ := h;simp [updF_len e]
      · cases h
    · simp only [Option.map_eq_some_iff] at h;obtain ⟨M', e, rfl⟩ := h;simp [updF_len e]
theorem updF_none {o : Op} : ∀ {R : List Row} {i : Nat}, updF o (R.take i) = none → updF o R = none
  | [], i, h => by simpa using h
  | r :: R, 0, h => by simp [updF] at h
  | r :: R, i + 1, h => by
    simp only [List.take_succ_cons, updF] at h ⊢;split at h
    · split at h
      · rw [Option.map_eq_none_iff] at h;simp [updF_none h, *]
      · simp [*]
    · rw [Option.map_eq_none_iff] at h;simp [updF_none h, *]
theorem cntF_snoc {o : Op} {R : List Row} {i : Nat} {r : Row} (h : R[i]? = some r) : cntF o (R.take (i + 1)) = cntF o (R.take i) + if pickF o r then 1 else 0 := by
  unfold cntF;rw [List.take_add_one, h];cases hp : pickF o r <;> simp [hp]
theorem cntF_le {o : Op} {R : List Row} : cntF o R ≤ R.length := List.length_filter_le _ _
structure OpS (n : Nat) (o : Op) : Prop where
  pred : PrS n o.pred
  sets : o.sets.length < 1000
  vals : ∀ x, x ∈ o.sets → In64 x.v.n
structure RowsS (R : List Row) : Prop where
  len : R.length < 1000000
  rows : ∀ r, r ∈ R → r.length < 1000
  vals : ∀ r, r ∈ R → ∀ v, v ∈ r → In64 v.n
theorem RowsS.fine {R : List Row} (h : RowsS R) : Fine R := ⟨h.len, fun r hr => by have := h.rows r hr; omega⟩
theorem modl_update (L : HModl p ext F) {n : Nat} {R : List Row} {o : Op} {H : HpD} (hR : RowsS R) (ho : OpS n o) : WcD p ext (F 75) [rowsD R, .agg o.c] H (fun d H' => (∃ M s, updF o R = some M ∧ d = .tup [s, .agg [.lit (.int .i64 0), .lit (.int .i64 (cntF o R : Int)), .lit .nilslice]] ∧ Gr H H' 1 s (rowsE M)) ∨ (updF o R = none ∧ d = .tup [rowsD R, .agg [.lit (.int .i64 2), .lit (.int .i64 0), .lit .nilslice]] ∧ Sub H H')) := by
  refine wc_of L.h75 (M := M75) rfl ok75 rfl (sem_run 9000 _ ?_);simp;refine sem_call (mstill_own L hR.fine) fun d H1 g1 => ?_;obtain ⟨g1, _⟩ := g1;have hR1 := hR.len
  have h5 : H1.blk H.next = .cells [.lit (.int .i64 0), .lit (.int .i64 0), .lit .nilslice] false := by
    rw [g1.sub.blk H.next (by simp)]; simp
  have n5 := g1.sub.next;simp at n5;refine sem_run 9000 _ ?_;simp;refine sem_loop (UpdI H o R) ?_ (k := R.length) ⟨0, [], d, by simp, by simp, by simp [updF], by simp [cntF], by simpa using g1.base (by repeat (first | exact Sub.refl | apply Sub.new | refine Sub.put ?_ (by first | omega | (simp only [put_next, new_next]; omega)))), h5, fun h => by have := (g1.far h).1; rw [Dv.new_next] at this; omega, by omega⟩;rintro k fr H2 ⟨i, M, s, rfl, hi, hM, rfl, g, b5, s5, l5⟩;refine sem_exact g fun H3 gx k3 n3 => ?_;have b5' := k3 H.next s5;rw [b5] at b5';have hMl := updF_len hM;rw [List.length_take, Nat.min_eq_left hi] at hMl
  refine sem_run 9000 _ ?_;simp
  by_cases c : i < R.length
  · obtain ⟨r, hr⟩ : ∃ r, R[i]? = some r := ⟨R[i], by simp⟩;have hrm := List.mem_of_getElem? hr
    have hdrop : R.drop i = r :: R.drop (i + 1) := by
      rw [List.drop_eq_getElem_cons c]; congr; exact (List.getElem?_eq_some_iff.1 hr).2
    have wi : wr .i64 ((i : Int) + 1) = ((i + 1 : Nat) : Int) := (by rw [wr_of] <;> omega);have hcl := cntF_le (o := o) (R := R.take i);rw [List.length_take, Nat.min_eq_left hi] at hcl;have wc : wr .i64 ((cntF o (R.take i) : Int) + 1) = ((cntF o (R.take i) + 1 : Nat) : Int) := (by rw [wr_of] <;> omega);have hcs := cntF_snoc (o := o) hr;have hus := updF_snoc hr hM;simp [c, hr, -getElem?_pos];refine sem_fn (pred_eval L.pred n o.pred ho.pred r) (by first | exact D.les_refl _ | simp) (sem_run 9000 _ ?_)
    by_cases cp : evalF o.pred r = 1
    · have hp : pickF o r = true := (by unfold pickF; exact decide_eq_true cp);rw [hp] at hcs hus;simp only [if_true] at hcs hus;simp [cp];refine sem_fn (aggr_set L.aggr L.x45 (l := o.sets) (hR.rows r hrm) ho.sets (hR.vals r hrm) ho.vals) (by first | exact D.les_refl _ | simp) (sem_run 9000 _ ?_)
      cases hs : setF r o.sets with
      | none =>
        rw [hs] at hus;simp [setD, b5'];refine sem_ret ?_;simp;refine sem_ret ?_;simp [M75];exact ⟨updF_none hus, (gx.gr.sub.put (Nat.le_refl _))⟩
      | some r' =>
        rw [hs] at hus;simp [setD];rcases gx.at_ with ⟨rfl, he⟩ | ⟨b, ex, rfl, h1, h2, h3⟩
        · exfalso;have := congrArg List.length he;simp at this; omega
        · have hlM : (rowsE (M ++ R.drop i)).length = R.length := (by simp; omega);have hne : b ≠ H.next := fun e => s5 (by simp only [D.hasB]; omega)
          have hsl : i + 1 ≤ (rowsE (M ++ R.drop i)).flatten.length := by rw [flatten_len rows_one]; omega
          have her : (rowsE (M ++ R.drop i))[i]? = some [rowD r] := by
            simp [rowsE, hdrop, hMl]
          have hlM' : M.length + (R.length - i) = R.length := (by omega);simp [hlM', c, h3, hsl, wc, -List.length_flatten];refine sem_ok ?_;have gw := gx.whole (x := [rowD r']) her rfl h1 h2
          have es : (rowsE (M ++ R.drop i)).set i [rowD r'] = rowsE (M ++ [r'] ++ R.drop (i + 1)) := by
            rw [hdrop]; unfold rowsE;simp [hMl]
          rw [es, Nat.mul_one] at gw;simp at hus;refine ⟨R.length - (i + 1), by omega, i + 1, M ++ [r'], .slice b 0 1 R.length R.length ex, rfl, by omega, hus, by rw [wi, hcs]; simp, by simpa [hlM'] using gw.gr, ?_, ?_, ?_⟩
          · rw [put_blk, if_neg (fun e => hne e.symm)]; exact b5'
          · simp only [D.hasB]; exact fun e => hne e.symm
          · simp; omega
    · have hp : pickF o r = false := (by unfold pickF; exact decide_eq_false cp);rw [hp] at hcs hus;simp at hcs hus;simp [cp];refine sem_ok ?_;refine ⟨R.length - (i + 1), by omega, i + 1, M ++ [r], s, rfl, by omega, hus, by rw [wi, hcs], ?_, b5', s5, by omega⟩;have := gx.gr;rw [hdrop] at this;simpa using this
  · have : i = R.length := (by omega);subst this;rw [List.take_length] at hM;simp;refine sem_exit (sem_run 9000 _ ?_);simp [b5'];refine sem_ret ?_;simp [M75];have gg := gx.gr;rw [List.drop_length, List.append_nil] at gg;refine ⟨M, hM, gg.keep (gg.sub.put (Nat.le_refl _)) (by simp) fun x hx => ?_⟩;rw [put_blk, if_neg];rintro rfl;exact s5 hx
end Go.Lib
end

section
set_option maxRecDepth 10000
namespace Go.Lib
open Go.Vm Go.Dv Go.Srt
variable {p : Prog} {ext : Ext} {F : Nat → Nat}
def insK (R : List Row) (r : Row) : List Row := R.takeWhile (fun x => decide (keyF x < keyF r)) ++ r :: R.dropWhile (fun x => decide (keyF x < keyF r))
def hasR (R : List Row) (k : Int) : Bool := R.any fun x => decide (keyF x = k)
theorem KeyAt.len {R : List Row} {k : Int} {i : Nat} (h : KeyAt R k i) : (R.takeWhile (fun x => decide (keyF x < k))).length = i := by
  obtain ⟨h1, h2, h3⟩ := h;refine takeWhile_len h1 (fun q x hq hx => by simpa using h2 q x hq hx) ?_
  by_cases e : i = R.length
  · exact .inl e
  · refine .inr ⟨R[i]'(by omega), by simp, ?_⟩;have := h3 i (R[i]'(by omega)) (Nat.le_refl _) (by simp);simpa using this
theorem KeyAt.put {R : List Row} {r : Row} {i : Nat} (h : KeyAt R (keyF r) i) : putAt R i r = insK R r := by
  have e := h.len;unfold putAt insK;rw [← e, take_tw, drop_tw]
theorem KeyAt.has {R : List Row} {k : Int} {i : Nat} (h : KeyAt R k i) (hk : KeyRise R) : hasK R k i = hasR R k := by
  obtain ⟨h1, h2, h3⟩ := h;unfold hasK hasR;rw [Bool.eq_iff_iff];constructor
  · intro e;split at e
    · rename_i r hr;exact List.any_eq_true.2 ⟨r, List.mem_of_getElem? hr, e⟩
    · cases e
  · intro e;obtain ⟨x, hx, hxk⟩ := List.any_eq_true.1 e;have hxk : keyF x = k := (by simpa using hxk);obtain ⟨q, hq⟩ := List.mem_iff_getElem?.1 hx
    have hqi : i ≤ q := by
      by_cases hlt : q < i
      · have := h2 q x hlt hq; omega
      · omega
    have hql := (List.getElem?_eq_some_iff.1 hq).1;have hi : R[i]? = some (R[i]'(by omega)) := (by simp);rw [hi]
    by_cases e2 : i = q
    · subst e2;have e3 := Option.some.inj (hi.symm.trans hq);simpa [e3] using hxk
    · have := List.pairwise_iff_getElem.1 hk i q (by omega) hql (by omega);obtain ⟨_, e3⟩ := List.getElem?_eq_some_iff.1 hq;have h4 := h3 i (R[i]'(by omega)) (Nat.le_refl _) hi;rw [e3] at this;omega
def doF (R : List Row) (o : Op) : List Row × Rs :=
  if o.kind = 1 then (if hasR R (keyF o.row) then (R, ⟨1, 0, []⟩) else (insK R o.row, ⟨0, 1, []⟩))
  else if o.kind = 2 then (match updF o R with
    | some M => (M, ⟨0, cntF o R, []⟩)
    | none => (R, ⟨2, 0, []⟩))
  else if o.kind = 3 then (keepF (pickF o) R, ⟨0, cntF o R, []⟩)
  else if o.kind = 4 then (R, ⟨0, 0, sortL cmpR (colsF o.cols (R.filter (pickF o)))⟩)
  else if o.kind = 5 then (if (grpsF o.group o.aggs (R.filter (pickF o))).2 then (R, ⟨0, 0, (grpsF o.group o.aggs (R.filter (pickF o))).1⟩) else (R, ⟨2, 0, []⟩))
  else if o.kind = 6 then (R, ⟨3, 0, []⟩) else (R, ⟨0, 0, []⟩)
theorem WeakV.tupA {d d2 : D} {H H2 : HpD} {cs cs2 : List D} (k : WeakV d H d2 H2) (h : D.les cs cs2) : WeakV (.tup [d, .agg cs]) H (.tup [d2, .agg cs2]) H2 := by
  intro ψ S hp v s kv;simp only [VD, VDl] at kv;obtain ⟨l', rfl, x, r, rfl, kx, y, r2, rfl, ⟨ly, rfl, ky⟩, rfl⟩ := kv;obtain ⟨ψ', S', x1, s1, k1⟩ := k ψ S hp x s kx;refine ⟨ψ', S', x1, s1, ?_⟩;simp only [VD, VDl];exact ⟨_, rfl, x, _, rfl, k1, _, _, rfl, ⟨ly, rfl, VDl.le _ _ h (VDl.mono x1 _ ky)⟩, rfl⟩
theorem fin_own {H0 H : HpD} {s : D} {R : List Row} {cs : List D} {x : Rs} (g : Gr H0 H 1 s (rowsE R)) (h : D.les cs x.c) : Fin H0 (.tup [rowsD R, .agg x.c]) (.tup [s, .agg cs]) H := by
  obtain ⟨H2, w, sub, _⟩ := g.fin rows_underss (m := .p) (by simp);exact ⟨H2, WeakV.tupA w h, sub, by simp [rows_under]⟩
theorem fin_row {H0 H : HpD} {R : List Row} {cs : List D} {x : Rs} (hs : Sub H0 H) (h : D.les cs x.c) : Fin H0 (.tup [rowsD R, .agg x.c]) (.tup [rowsD R, .agg cs]) H :=
  ⟨H, WeakV.tupA .refl h, hs, by simp [rows_under]⟩
theorem fin_part {H0 H : HpD} {s : D} {R : List Row} {cs : List D} {x : Rs} (g : Part H0 H 1 s (rowsE R)) (h : D.les cs x.c) : Fin H0 (.tup [rowsD R, .agg x.c]) (.tup [s, .agg cs]) H := by
  obtain ⟨H2, w, sub⟩ := g.fin;exact ⟨H2, WeakV.tupA w h, sub, by simp [rows_under]⟩
theorem clip_part (L : HAggr p ext F) {H : HpD} {b m n : Nat} (hm : m ≤ n) : WcD p ext (F 39) [.slice b 0 1 m n true] H (fun d H' => d = .slice b 0 1 m m true ∧ H' = H) := by
  refine wc_of L.h39 (M := M39) rfl ok39 rfl (sem_run 9000 _ ?_)
  have e : slcD 1 (.slice b 0 1 m n true) none (some (.lit (.int .i64 (m : Int)))) (some (.lit (.int .i64 (m : Int)))) = some (.slice b 0 1 m m true) := by
    simp [slcD, bndD, slcV, sliceO, needH, boundM, boundH, boundL, ble_d, hm]
  simp [e];refine sem_ret ?_;simp [M39]
theorem clip_nil (L : HAggr p ext F) {H : HpD} : WcD p ext (F 39) [.lit .nilslice] H (fun d H' => d = .lit .nilslice ∧ H' = H) := by
  refine wc_of L.h39 (M := M39) rfl ok39 rfl (sem_run 9000 _ ?_);simp [slc_nil];refine sem_ret ?_;simp [M39]
structure DoOk (ks : List Int) (n : Nat) (R : List Row) (o : Op) : Prop where
  rows : RowsS R
  good : GoodRs ks R
  rise : KeyRise R
  op : OpS n o
  row : o.row.length < 1000
  cols : o.kind = 4 → o.cols.length < 1000 ∧ ∀ c, c ∈ o.cols → InK ks c
  aggs : o.kind = 5 → o.group < ks.length ∧ o.aggs.length < 900 ∧ ∀ a, a ∈ o.aggs → InK ks a.col
def DoI (H1 : HpD) (hb : Nat) (s : D) (o : Op) (R : List Row) (f : Nat) (k : Nat) (fr : FrD) (H : HpD) : Prop :=
  ∃ (i : Nat) (t : D), k = R.length - i ∧ i ≤ R.length ∧ fr = [(1, s), (5, .rptr o.c 0), (7, .ptr hb 0), (8, .func f [] [.rptr o.c 0]), (9, t), (17, s), (18, .lit (.int .i64 (R.length : Int))), (19, .lit (.int .i64 (i : Int)))] ∧
    Gr H1 H 1 t (rowsE ((R.take i).filter (pickF o)))
theorem modl_do (L : HModl p ext F) {ks : List Int} {n : Nat} {sc : Sch} {R : List Row} {o : Op} (h : DoOk ks n R o) : FnD p ext (F 70) [schD sc, rowsD R, .agg o.c] (.tup [rowsD (doF R o).1, .agg (doF R o).2.c]) := by
  refine fn_of L.h70 (M := M70) rfl ok70 rfl fun H => sem_run 9000 _ ?_;simp;refine sem_call (mstill_own L h.rows.fine) fun s H1 g1 => ?_;obtain ⟨g1, tight⟩ := g1;have hlen := g1.lenb;rw [rows_len] at hlen;have hR1 := h.rows.len;refine sem_run 9000 _ ?_;simp [hlen];refine sem_exact g1 fun H2 gx k2 n2 => ?_;have gt : GrT (H.new (.cells [.lit (.int .i64 0), .lit (.int .i64 0), .lit .nilslice] false)) H2 s R := ⟨gx, tight⟩
  have hs7 : ¬ s.hasB H.next := fun e => by have := (g1.far e).1; rw [Dv.new_next] at this; omega
  have b7 : H2.blk H.next = .cells [.lit (.int .i64 0), .lit (.int .i64 0), .lit .nilslice] false := by
    rw [k2 _ hs7, g1.sub.blk H.next (by simp)]; simp
  have hn2 := gx.gr.sub.next;rw [Dv.new_next] at hn2;refine sem_loop (DoI H2 H.next s o R (F 73)) ?_ (k := R.length) ⟨0, .lit .nilslice, by simp, by simp, rfl, by simpa [rowsE] using Gr.start⟩;rintro k fr H3 ⟨i, t, rfl, hi, rfl, g⟩;refine sem_run 9000 _ ?_;simp
  by_cases c : i < R.length
  · obtain ⟨r, hr⟩ : ∃ r, R[i]? = some r := ⟨R[i], by simp⟩;have hc := cell_row hr;have wi : wr .i64 ((i : Int) + 1) = ((i + 1 : Nat) : Int) := (by rw [wr_of] <;> omega);have gt3 := gt.far g.sub;rcases gt3.at_ with ⟨rfl, rfl⟩ | ⟨b, rfl, h1, h2, h3⟩
    · simp at c
    · simp [c, h3, hc, -List.length_flatten];refine sem_fn (modl_do1 L (o := o) (r := r) h.op.pred) (by first | exact D.les_refl _ | simp) (sem_run 9000 _ ?_)
      cases hp : pickF o r with
      | true =>
        have ef : (R.take (i + 1)).filter (pickF o) = (R.take i).filter (pickF o) ++ [r] := by
          rw [List.take_add_one, hr, List.filter_append]; simp [hp]
        have hfl := List.length_filter_le (pickF o) (R.take i);rw [List.length_take, Nat.min_eq_left hi] at hfl;simp;refine sem_push g rfl rfl (roomyD (by simp only [rows_len]; omega) (by simp only [rows_len]; omega)) fun t' H4 g4 _ _ => ?_;simp;refine sem_ok ?_;have e : rowsE ((R.take i).filter (pickF o)) ++ [[rowD r]] = rowsE ((R.take (i + 1)).filter (pickF o)) := (by rw [ef]; simp [rowsE]);rw [e] at g4;exact ⟨R.length - (i + 1), by omega, i + 1, t', rfl, by omega, by rw [wi], g4⟩
      | false =>
        have ef : (R.take (i + 1)).filter (pickF o) = (R.take i).filter (pickF o) := by
          rw [List.take_add_one, hr, List.filter_append]; simp [hp]
        simp;refine sem_ok ?_;exact ⟨R.length - (i + 1), by omega, i + 1, t, rfl, by omega, by rw [wi], by rw [ef]; exact g⟩
  · have : i = R.length := (by omega);subst this;rw [List.take_length] at g;simp;refine sem_turn_exit g 9 (by simp) fun H4 s4 k4 n4 => ?_;refine sem_exit (sem_run 9000 _ ?_);have gt4 := gt.far s4
    have b7' : H4.blk H.next = .cells [.lit (.int .i64 0), .lit (.int .i64 0), .lit .nilslice] false := by
      rw [s4.blk _ (by omega), b7]
    have l7 : H.next < H4.next := (by have := s4.next; omega);have hfl := List.length_filter_le (pickF o) R;have sub0 : Sub H (H.new (.cells [.lit (.int .i64 0), .lit (.int .i64 0), .lit .nilslice] false)) := Sub.refl.new;have stay : ∀ x : BD, Gr H (H4.put H.next x) 1 s (rowsE R) := fun x => gt4.x.gr.aside sub0 (Nat.le_refl _) (by simp);have hfg : GoodRs ks (R.filter (pickF o)) := fun r hr => h.good r ((List.mem_filter.1 hr).1);have hff : Fine (R.filter (pickF o)) := ⟨by omega, fun r hr => h.rows.fine.2 r ((List.mem_filter.1 hr).1)⟩
    by_cases o1 : o.kind = 1
    · simp [o1];refine sem_call (modl_insert L gt4 hR1 h.rise (by have := h.row; omega)) ?_;rintro d H5 ⟨i, hi, ⟨hh, rfl, g5⟩ | ⟨hh, s', rfl, g5⟩⟩
      · have b5 := g5.sub.blk H.next (by simp);have l5 := g5.sub.next;simp at b5 l5;have e : doF R o = (R, ⟨1, 0, []⟩) := (by unfold doF; rw [if_pos o1, ← hi.has h.rise, hh]; rfl);rw [e];refine sem_run 9000 _ ?_;simp;simp [b5];refine sem_ret ?_;simp [M70];exact fin_own (g5.aside sub0 (Nat.le_refl _) (by simp)) (by simp [Rs.c, D.les, D.le, rows_nil])
      · have b5 := g5.sub.blk H.next (by simp);have l5 := g5.sub.next;simp at b5 l5;have e : doF R o = (insK R o.row, ⟨0, 1, []⟩) := (by unfold doF; rw [if_pos o1, ← hi.has h.rise, hh]; rfl);rw [e, ← hi.put];refine sem_run 9000 _ ?_;simp;simp [b5];refine sem_ret ?_;simp [M70];exact fin_own (g5.aside sub0 (Nat.le_refl _) (by simp)) (by simp [Rs.c, D.les, D.le, rows_nil])
    · by_cases o2 : o.kind = 2
      · simp [o2];refine sem_row gt4.x.gr 0 rfl fun H5 s5 k5 n5 => ?_;have b5 := s5.blk H.next (by simp);simp at b5;refine sem_call (modl_update L h.rows h.op) ?_;rintro d H6 (⟨M, s', hM, rfl, g6⟩ | ⟨hM, rfl, s6⟩)
        · have e : doF R o = (M, ⟨0, cntF o R, []⟩) := (by unfold doF; rw [if_neg o1, if_pos o2, hM]);rw [e];have b6 := g6.sub.blk H.next (by omega);rw [b5] at b6;have l6 := g6.sub.next;refine sem_run 9000 _ ?_;simp;simp [b6];refine sem_ret ?_;simp [M70];exact fin_own (g6.aside (sub0.trans s5) (Nat.le_refl _) (by omega)) (by simp [Rs.c, D.les, D.le, rows_nil])
        · have e : doF R o = (R, ⟨2, 0, []⟩) := (by unfold doF; rw [if_neg o1, if_pos o2, hM]);rw [e];have b6 := s6.blk H.next (by omega);rw [b5] at b6;have l6 := s6.next;refine sem_run 9000 _ ?_;simp;simp [b6];refine sem_ret ?_;simp [M70];exact fin_row (((sub0.trans s5).trans s6).put (Nat.le_refl _)) (by simp [Rs.c, D.les, D.le, rows_nil])
      · by_cases o3 : o.kind = 3
        · have e : doF R o = (keepF (pickF o) R, ⟨0, cntF o R, []⟩) := (by unfold doF; rw [if_neg o1, if_neg o2, if_pos o3]);rw [e];simp [o3];refine sem_call (deleteFunc L gt4 hR1 (f := F 73) (cl := [.rptr o.c 0]) (pf := pickF o) fun r _ => modl_do1 L h.op.pred) ?_;rintro d H5 (⟨rfl, hk, s5⟩ | ⟨b, cs, rfl, hle, h1, h2, h3, h4, s5⟩)
          · have b5 := s5.blk H.next (by simp);have l5 := s5.next;simp at b5 l5;have l5' : H.next < H5.next := (by omega);refine sem_run 9000 _ ?_;simp;refine sem_call (clip_nil L.aggr) ?_;rintro _ _ ⟨rfl, rfl⟩;refine sem_run 9000 _ ?_;simp;simp [b5];refine sem_ret ?_;simp [M70];exact fin_part ⟨(sub0.trans s5).put (Nat.le_refl _), rows_one, .inl ⟨rfl, by rw [hk]; rfl⟩⟩ (by simp [Rs.c, D.les, D.le, rows_nil, cntF])
          · have b5 := s5.blk H.next (by simp);have l5 := s5.next;simp at b5 l5;have l5' : H.next < H5.next := (by omega);refine sem_run 9000 _ ?_;simp;refine sem_call (clip_part L.aggr hle) ?_;rintro _ _ ⟨rfl, rfl⟩;refine sem_run 9000 _ ?_;simp;simp [b5];refine sem_ret ?_;simp [M70];rw [Dv.new_next] at h1;have hne : b ≠ H.next := (by omega);exact fin_part ⟨(sub0.trans s5).put (Nat.le_refl _), rows_one, .inr ⟨b, 0, _, _, cs, by rw [rows_len], by rw [rows_len]; exact Nat.le_refl _, by omega, by simpa using h2, by rw [put_blk, if_neg hne]; exact h3, by rw [rows_len, rowsE_flat, List.drop_zero, Nat.mul_one, h4]; rfl⟩⟩ (by simp [Rs.c, D.les, D.le, rows_nil, cntF])
        · by_cases o4 : o.kind = 4
          · have e : doF R o = (R, ⟨0, 0, sortL cmpR (colsF o.cols (R.filter (pickF o)))⟩) := (by unfold doF; rw [if_neg o1, if_neg o2, if_neg o3, if_pos o4]);rw [e];simp [o4];refine sem_fn (aggr_cols L.aggr (cols := o.cols) (m := .p) hff hfg (h.cols o4).1 (h.cols o4).2) (by simp [rowsD, D.les, D.le_refl]) (sem_run 9000 _ ?_);simp [b7'];refine sem_ret ?_;simp [M70];exact fin_own (stay _) (by simp [Rs.c])
          · by_cases o5 : o.kind = 5
            · simp [o5];refine sem_fn (aggr_groups L.aggr L.x45 (c := o.group) (ags := o.aggs) hff hfg (h.aggs o5).1 (h.aggs o5).2.2 (h.aggs o5).2.1) (by simp [rowsD, D.les, D.le, D.le_refl]) (sem_run 9000 _ ?_)
              cases hg : (grpsF o.group o.aggs (R.filter (pickF o))).2 with
              | true =>
                have e : doF R o = (R, ⟨0, 0, (grpsF o.group o.aggs (R.filter (pickF o))).1⟩) := (by unfold doF; rw [if_neg o1, if_neg o2, if_neg o3, if_neg o4, if_pos o5, if_pos hg]);rw [e];simp [grpD, hg, b7'];refine sem_ret ?_;simp [M70];exact fin_own (stay _) (by simp [Rs.c])
              | false =>
                have e : doF R o = (R, ⟨2, 0, []⟩) := (by unfold doF; rw [if_neg o1, if_neg o2, if_neg o3, if_neg o4, if_pos o5, if_neg (by simp [hg])]);rw [e];simp [grpD, hg, b7'];refine sem_ret ?_;simp [M70];exact fin_own (stay _) (by simp [Rs.c, D.les, D.le, rows_nil])
            · by_cases o6 : o.kind = 6
              · have e : doF R o = (R, ⟨3, 0, []⟩) := (by unfold doF; rw [if_neg o1, if_neg o2, if_neg o3, if_neg o4, if_neg o5, if_pos o6]);rw [e];simp [o6, b7'];refine sem_ret ?_;simp [M70];exact fin_own (stay _) (by simp [Rs.c, D.les, D.le, rows_nil])
              · have e : doF R o = (R, ⟨0, 0, []⟩) := (by unfold doF; rw [if_neg o1, if_neg o2, if_neg o3, if_neg o4, if_neg o5, if_neg o6]);rw [e];simp [o1, o2, o3, o4, o5, o6, b7'];refine sem_ret ?_;simp [M70];exact fin_own (stay _) (by simp [Rs.c, D.les, D.le, rows_nil])
end Go.Lib
end

section
set_option maxRecDepth 10000
namespace Go.Lib
open Go.Vm Go.Dv Go.Srt
variable {p : Prog} {ext : Ext} {F : Nat → Nat}
structure RowsK (ks : List Int) (B : Nat) (R : List Row) : Prop where
  good : GoodRs ks R
  rise : KeyRise R
  len : R.length ≤ B
structure SxOk (ks : List Int) (x : Sx) : Prop where
  col : 1 ≤ x.col ∧ x.col < ks.length
  good : x.v.Good
  kind : x.v.kind = (ks[x.col.toNat]?).getD 0
  add : x.add = true → (ks[x.col.toNat]?).getD 0 = 1
structure OpOk (ks : List Int) (n : Nat) (o : Op) : Prop where
  op : OpS n o
  rowl : o.row.length < 1000
  row : o.kind = 1 → GoodR ks o.row
  sets : o.kind = 2 → ∀ x, x ∈ o.sets → SxOk ks x
  cols : o.kind = 4 → o.cols.length < 1000 ∧ ∀ c, c ∈ o.cols → InK ks c
  aggs : o.kind = 5 → o.group < ks.length ∧ o.aggs.length < 900 ∧ ∀ a, a ∈ o.aggs → InK ks a.col
theorem GoodR.len {ks : List Int} {r : Row} (h : GoodR ks r) : r.length = ks.length := by
  have := h.kin; unfold Kin at this; rw [← this]; simp
theorem RowsK.rows {ks : List Int} {B : Nat} {R : List Row} (h : RowsK ks B R) (hk : ks.length < 1000) (hB : B < 1000000) : RowsS R :=
  ⟨by have := h.len; omega, fun r hr => by rw [(h.good r hr).len]; exact hk, fun r hr v hv => ((h.good r hr).good v hv).int⟩
theorem RowsK.do_ {ks : List Int} {B n : Nat} {R : List Row} {o : Op} (h : RowsK ks B R) (hk : ks.length < 1000) (hB : B < 1000000) (ho : OpOk ks n o) : DoOk ks n R o :=
  ⟨h.rows hk hB, h.good, h.rise, ho.op, ho.rowl, ho.cols, ho.aggs⟩
theorem GoodR.set {ks : List Int} {r : Row} {v : Vl} {i : Nat} (h : GoodR ks r) (hv : v.Good) (hk : v.kind = (ks[i]?).getD 0) (hi : i < ks.length) : GoodR ks (r.set i v) := by
  refine ⟨?_, fun w hw => ?_⟩
  · have := h.kin;unfold Kin at this ⊢;have hks : (ks[i]?).getD 0 = ks[i] := (by simp [hi]);rw [List.map_set, this, hk, hks, List.set_getElem_self hi]
  · rcases List.mem_or_eq_of_mem_set hw with hw | rfl
    · exact h.good w hw
    · exact hv
theorem atV_set {r : Row} {v : Vl} {i : Nat} (hi : 1 ≤ i) : atV (r.set i v) 0 = atV r 0 := by
  unfold atV;rw [if_neg (by omega), if_neg (by omega), show (0 : Int).toNat = 0 from rfl, List.getElem?_set_ne (by omega)]
theorem setS_ok {ks : List Int} {r r' : Row} {x : Sx} (h : GoodR ks r) (hx : SxOk ks x) (e : setS r x = some r') : GoodR ks r' ∧ keyF r' = keyF r := by
  obtain ⟨⟨c1, c2⟩, hg, hkd, hadd⟩ := hx;have hl := h.len;have hin : InK ks x.col := ⟨by omega, c2⟩;have hat := h.at_ hin;unfold setS at e;rw [if_neg (by omega)] at e;split at e
  · cases e;exact ⟨h.set hg hkd (by omega), by unfold keyF; rw [atV_set (by omega)]⟩
  · rename_i ha;have ha : x.add = true := (by simpa using ha);split at e
    · cases e; exact ⟨h, rfl⟩
    · rename_i hn;split at e
      · rename_i hi;cases e;have hk1 := hadd ha;refine ⟨h.set ⟨fun h2 => absurd h2 hn, .inl ⟨by show (atV r x.col).kind = 1; rw [hat.1, hk1], ?_⟩, hi⟩ (by show (atV r x.col).kind = _; rw [hat.1]) (by omega), by unfold keyF; rw [atV_set (by omega)]⟩;rcases hat.2.kd with ⟨_, hb⟩ | ⟨hb, _⟩
        · exact hb
        · rw [hat.1, hk1] at hb; simp at hb
      · cases e
theorem setF_ok {ks : List Int} : ∀ {l : List Sx} {r r' : Row}, GoodR ks r → (∀ x, x ∈ l → SxOk ks x) → setF r l = some r' → GoodR ks r' ∧ keyF r' = keyF r
  | [], r, r', h, _, e => by simp [setF] at e; subst e; exact ⟨h, rfl⟩
  | x :: l, r, r', h, hx, e => by
    unfold setF at e;split at e
    · rename_i r1 e1;obtain ⟨a, b⟩ := setS_ok h (hx x (by simp)) e1;obtain ⟨c, d⟩ := setF_ok a (fun y hy => hx y (by simp [hy])) e;exact ⟨c, by rw [d, b]⟩
    · cases e
theorem updF_ok {ks : List Int} {o : Op} (hs : ∀ x, x ∈ o.sets → SxOk ks x) : ∀ {R M : List Row}, GoodRs ks R → updF o R = some M → GoodRs ks M ∧ M.map keyF = R.map keyF
  | [], M, _, e => by simp [updF] at e; subst e; exact ⟨fun r hr => by simp at hr, rfl⟩
  | r :: R, M, hg, e => by
    have hr := hg r (by simp);have hR : GoodRs ks R := fun x hx => hg x (by simp [hx]);unfold updF at e;split at e
    · split at e
      · rename_i r' e1;obtain ⟨M', e2, rfl⟩ := Option.map_eq_some_iff.1 e;obtain ⟨a, b⟩ := updF_ok hs hR e2;obtain ⟨c, d⟩ := setF_ok hr hs e1;exact ⟨fun x hx => by rcases List.mem_cons.1 hx with rfl | hx; exact c; exact a x hx, by simp [b, d]⟩
      · cases e
    · obtain ⟨M', e2, rfl⟩ := Option.map_eq_some_iff.1 e;obtain ⟨a, b⟩ := updF_ok hs hR e2;exact ⟨fun x hx => by rcases List.mem_cons.1 hx with rfl | hx; exact hr; exact a x hx, by simp [b]⟩
theorem keyRise_map {R : List Row} : KeyRise R ↔ (R.map keyF).Pairwise (· < ·) := by
  unfold KeyRise; rw [List.pairwise_map]
theorem insK_len {R : List Row} {r : Row} : (insK R r).length = R.length + 1 := by
  unfold insK;have := congrArg List.length (List.takeWhile_append_dropWhile (p := fun x => decide (keyF x < keyF r)) (l := R));simp only [List.length_append, List.length_cons] at this ⊢; omega
theorem insK_mem {R : List Row} {r x : Row} (h : x ∈ insK R r) : x = r ∨ x ∈ R := by
  unfold insK at h;rcases List.mem_append.1 h with h | h
  · exact .inr (List.takeWhile_subset _ h)
  · rcases List.mem_cons.1 h with h | h
    · exact .inl h
    · exact .inr (List.dropWhile_subset _ h)
theorem insK_perm {R : List Row} {r : Row} : (insK R r).Perm (r :: R) := by
  unfold insK;refine List.perm_middle.trans ?_;rw [List.takeWhile_append_dropWhile]
theorem insK_rise {R : List Row} {r : Row} (h : KeyRise R) (hn : hasR R (keyF r) = false) : KeyRise (insK R r) := by
  have hne : ∀ x, x ∈ R → keyF x ≠ keyF r := fun x hx e => by
    have : hasR R (keyF r) = true := List.any_eq_true.2 ⟨x, hx, by simpa using e⟩;rw [hn] at this; cases this
  have hd : ∀ (L : List Row), KeyRise L → (∀ x, x ∈ L → keyF x ≠ keyF r) → ∀ x, x ∈ L.dropWhile (fun x => decide (keyF x < keyF r)) → keyF r < keyF x := by
    intro L
    induction L with
    | nil => intro _ _ x hx; simp at hx
    | cons y L ih =>
      intro hL hn x hx;have hL' := List.pairwise_cons.1 hL;rw [List.dropWhile_cons] at hx;split at hx
      · exact ih hL'.2 (fun z hz => hn z (by simp [hz])) x hx
      · rename_i hy;have hy : ¬ keyF y < keyF r := (by simpa using hy);have := hn y (by simp);rcases List.mem_cons.1 hx with rfl | hx
        · omega
        · have := hL'.1 x hx; omega
  have hsplit : KeyRise (R.takeWhile (fun x => decide (keyF x < keyF r)) ++ R.dropWhile (fun x => decide (keyF x < keyF r))) := by
    rw [List.takeWhile_append_dropWhile]; exact h
  obtain ⟨a, b, c⟩ := List.pairwise_append.1 hsplit
  have ht : ∀ x, x ∈ R.takeWhile (fun x => decide (keyF x < keyF r)) → keyF x < keyF r := fun x hx => by
    have := List.all_takeWhile (p := fun x => decide (keyF x < keyF r)) (l := R);simpa using List.all_eq_true.1 this x hx
  refine List.pairwise_append.2 ⟨a, List.pairwise_cons.2 ⟨fun x hx => hd R h hne x hx, b⟩, fun x hx y hy => ?_⟩;rcases List.mem_cons.1 hy with rfl | hy
  · exact ht x hx
  · exact c x hx y hy
theorem doF_ok {ks : List Int} {B n : Nat} {R : List Row} {o : Op} (h : RowsK ks B R) (ho : OpOk ks n o) : RowsK ks (B + 1) (doF R o).1 := by
  have h0 : RowsK ks (B + 1) R := ⟨h.good, h.rise, by have := h.len; omega⟩;unfold doF;split
  · rename_i o1;split
    · exact h0
    · rename_i hn;refine ⟨fun x hx => ?_, insK_rise h.rise (by simpa using hn), by show (insK R o.row).length ≤ _; rw [insK_len]; have := h.len; omega⟩;rcases insK_mem hx with rfl | hx
      · exact ho.row o1
      · exact h.good x hx
  · split
    · rename_i o2
      cases hu : updF o R with
      | none => exact h0
      | some M =>
        obtain ⟨a, b⟩ := updF_ok (ho.sets o2) h.good hu;exact ⟨a, keyRise_map.2 (by show (M.map keyF).Pairwise _; rw [b]; exact keyRise_map.1 h.rise), by show M.length ≤ _; rw [updF_len hu]; exact h0.len⟩
    · split
      · exact ⟨fun x hx => h.good x (List.mem_filter.1 hx).1, h.rise.filter _, Nat.le_trans (List.length_filter_le _ _) h0.len⟩
      · split
        · exact h0
        · split
          · split <;> exact h0
          · split <;> exact h0
def rssD (l : List Rs) : D := .row 3 .p (l.map Rs.c)
def opsD (l : List Op) : D := .row 14 .p (l.map Op.c)
theorem ops_len {l : List Op} : lenbD (opsD l) = some (.lit (.int .i64 (l.length : Int))) := by simp [opsD]
theorem at_ops {l : List Op} {n : Nat} : atO 14 (opsD l) (some n) = elemD (l[n]?.map Op.c) := by simp [opsD]
theorem rs_len {x : Rs} : x.c.length = 3 := rfl
theorem rs_flats {x : Rs} : flatsD x.c = true := rfl
theorem rs_take {x : Rs} : x.c.take 3 = x.c := rfl
theorem rs_drop {x : Rs} : x.c.drop 3 = [] := rfl
theorem rs_0 {x : Rs} : x.c[0]? = some (.lit (.int .i64 x.err)) := rfl
theorem rs_1 {x : Rs} : x.c[1]? = some (.lit (.int .i64 x.n)) := rfl
theorem rs_2 {x : Rs} : x.c[2]? = some (rowsD x.rows) := rfl
theorem rss_len {l : List Rs} : lenbD (rssD l) = some (.lit (.int .i64 (l.length : Int))) := by simp [rssD]
theorem at_rss {l : List Rs} {n : Nat} : atO 3 (rssD l) (some n) = elemD (l[n]?.map Rs.c) := by simp [rssD]
theorem rss_under {n : Nat} {l : List Rs} : (rssD l).under n := by simp only [rssD, D.under]; exact underss_map (fun _ => rs_unders) _
attribute [simp] ops_len at_ops rs_len rs_flats rs_take rs_drop rs_0 rs_1 rs_2 rss_len at_rss rss_under
def runF (R0 : List Row) : List Row → List Rs → List Op → List Row × List Rs
  | now, out, [] => (now, out)
  | now, out, o :: l => if (doF now o).2.err ≠ 0 then (R0, out ++ [(doF now o).2]) else runF R0 (doF now o).1 (out ++ [(doF now o).2]) l
theorem clip_rs (L : HModl p ext F) {H0 H : HpD} {s : D} {el : List (List D)} (g : Gr H0 H 3 s el) : WcD p ext (F 77) [s] H (fun d H' => Gr H0 H' 3 d el) := by
  refine wc_of L.h77 (M := M77) rfl ok77 rfl (sem_run 9000 _ ?_);rcases g.at_ with ⟨rfl, rfl⟩ | ⟨b, ex, el0, rfl, h1, h2, h3, h4⟩
  · simp [slc_nil];refine sem_ret ?_;simp [M77];exact g
  · simp [slc_own];refine sem_ret ?_;simp [M77];exact ⟨g.sub, g.len, .inr ⟨b, true, el0, rfl, h1, h2, h3, h4⟩⟩
theorem mstill (L : HModl p ext F) {l : List Row} (hl : Fine l) : FnD p ext (F 72) [rowsD l] (rowsD l) :=
  own_fn (fun _ => (mstill_own L hl).mono fun _d _H' ⟨g, _⟩ => g) fun _ => rows_underss
def RunI (H0 : HpD) (sc : Sch) (ks : List Int) (B : Nat) (R : List Row) (l : List Op) (k : Nat) (fr : FrD) (H : HpD) : Prop :=
  ∃ (i : Nat) (now : List Row) (out : List Rs) (t : D), k = l.length - i ∧ i ≤ l.length ∧ out.length = i ∧ RowsK ks (B + i) now ∧ runF R R [] l = runF R now out (l.drop i) ∧
    fr = [(1, rowsD R), (3, .rptr [schR sc] 0), (8, rowsD now), (9, t), (17, opsD l), (18, .lit (.int .i64 (l.length : Int))), (19, .lit (.int .i64 (i : Int)))] ∧ Gr H0 H 3 t (out.map Rs.c)
theorem WeakV.tup2B {d d2 e : D} {H H2 : HpD} (k : WeakV d H d2 H2) : WeakV (.tup [e, d]) H (.tup [e, d2]) H2 := by
  intro ψ S hp v s kv;simp only [VD, VDl] at kv;obtain ⟨l', rfl, x, r, rfl, kx, y, r2, rfl, ky, rfl⟩ := kv;obtain ⟨ψ', S', x1, s1, k1⟩ := k ψ S hp y s ky;refine ⟨ψ', S', x1, s1, ?_⟩;simp only [VD, VDl];exact ⟨_, rfl, x, _, rfl, VD.mono x1 _ kx, y, _, rfl, k1, rfl⟩
theorem fin_run {H0 H : HpD} {s : D} {R : List Row} {l : List Rs} (g : Gr H0 H 3 s (l.map Rs.c)) : Fin H0 (.tup [rowsD R, rssD l]) (.tup [rowsD R, s]) H := by
  obtain ⟨H2, w, sub, _⟩ := g.fin (underss_map (fun _ => rs_unders) _) (m := .p) (by simp);exact ⟨H2, WeakV.tup2B w, sub, by simp [rows_under, rss_under]⟩
theorem modl_run (L : HModl p ext F) {ks : List Int} {n B : Nat} {sc : Sch} {R : List Row} {l : List Op} (hk : ks.length < 1000) (h : RowsK ks B R) (hB : B + l.length < 1000000) (ho : ∀ o, o ∈ l → OpOk ks n o) : FnD p ext (F 71) [schD sc, rowsD R, opsD l] (.tup [rowsD (runF R R [] l).1, rssD (runF R R [] l).2]) := by
  refine fn_of L.h71 (M := M71) rfl ok71 rfl fun H => sem_run 9000 _ ?_;simp;refine sem_fn (mstill L (h.rows hk (by omega)).fine) (by first | exact D.les_refl _ | simp) (sem_run 9000 _ ?_);simp;refine sem_loop (RunI H sc ks B R l) ?_ (k := l.length) ⟨0, R, [], .lit .nilslice, by simp, by simp, rfl, h, rfl, rfl, by simpa using Gr.start⟩;rintro k fr H1 ⟨i, now, out, t, rfl, hi, hol, hnow, hrun, rfl, g⟩;refine sem_run 9000 _ ?_;simp
  by_cases c : i < l.length
  · obtain ⟨o, ho'⟩ : ∃ o, l[i]? = some o := ⟨l[i], by simp⟩
    have hdrop : l.drop i = o :: l.drop (i + 1) := by
      rw [List.drop_eq_getElem_cons c]; congr; exact (List.getElem?_eq_some_iff.1 ho').2
    rw [hdrop] at hrun;have hok := ho o (List.mem_of_getElem? ho');have wi : wr .i64 ((i : Int) + 1) = ((i + 1 : Nat) : Int) := (by rw [wr_of] <;> omega);simp [c, ho', -getElem?_pos];refine sem_fn (modl_do L (sc := sc) (hnow.do_ hk (by omega) hok)) (by simp [schD, D.les, D.le, D.le_refl]) (sem_run 9000 _ ?_);have hd := doF_ok hnow hok
    have hstep : runF R now out (o :: l.drop (i + 1)) = if (doF now o).2.err ≠ 0 then (R, out ++ [(doF now o).2]) else runF R (doF now o).1 (out ++ [(doF now o).2]) (l.drop (i + 1)) := rfl
    rw [hstep] at hrun;generalize doF now o = x at hrun hd;obtain ⟨now', rs⟩ := x;simp;refine sem_push (g.mono (by repeat (first | exact Sub.refl | apply Sub.new | refine Sub.put ?_ (by first | omega | (simp only [put_next, new_next]; omega))))) rfl rfl (roomyD (by simp; omega) (by simp; omega)) fun t' H2 g2 k2 n2 => ?_;obtain ⟨n2, rfl⟩ := n2;simp at n2
    have hb : H2.blk (H1.next + 1) = .cells rs.c false := by
      rw [k2 _ (by simp) (fun h => by have := (g.far h).2; omega)]; simp
    have l13 : H1.next + 1 < H2.next := (by omega);have hout : out.map Rs.c ++ [rs.c] = (out ++ [rs]).map Rs.c := (by simp);rw [hout] at g2
    by_cases ce : rs.err = 0
    · simp [hb, ce];refine sem_ok ?_;rw [if_neg (by simp [ce])] at hrun;exact ⟨l.length - (i + 1), by omega, i + 1, now', out ++ [rs], _, rfl, by omega, by simp [hol], hd, hrun, by rw [wi], by simpa using g2⟩
    · simp [hb, ce];rw [if_pos (by simpa using ce)] at hrun;refine sem_call (clip_rs L (by simpa using g2)) fun d H3 g3 => ?_;refine sem_run 9000 _ ?_;simp;refine sem_ret ?_;simp;refine sem_ret ?_;simp [M71];rw [hrun];exact fin_run (by simpa using g3)
  · have : i = l.length := (by omega);subst this;simp;refine sem_exit (sem_run 9000 _ ?_);simp;refine sem_call (clip_rs L g) fun d H2 g2 => ?_;refine sem_run 9000 _ ?_;simp;refine sem_ret ?_;simp [M71];rw [hrun, List.drop_length];exact fin_run g2
end Go.Lib
end

section
set_option maxRecDepth 10000
namespace Go.Lib
open Go.Vm Go.Dv Go.Srt
attribute [-simp] bin_and bin_xor
def nV (n : Int) : Vl := ⟨false, 1, n, [], by simp⟩
def pr0 : Pr := .mk 0 0 0 zv []
def prT : Pr := .mk 1 0 0 zv []
def prK (n : Int) : Pr := .mk 2 0 1 (nV n) []
def insO (r : Row) : Op := ⟨1, r, pr0, [], [], 0, []⟩
def scanO (q : Pr) (c : List Int) : Op := ⟨4, [], q, [], c, 0, []⟩
def delO (q : Pr) : Op := ⟨3, [], q, [], [], 0, []⟩
def setO (q : Pr) (x : Sx) : Op := ⟨2, [], q, [x], [], 0, []⟩
def aggO (q : Pr) (g : Int) (l : List Ag) : Op := ⟨5, [], q, [], [], g, l⟩
def rollO : Op := ⟨6, [], pr0, [], [], 0, []⟩
theorem sxs_under {n : Nat} {l : List Sx} : (sxsD l).under n := by simp only [sxsD, D.under]; exact underss_map (fun _ => sx_unders) _
theorem ags_under {n : Nat} {l : List Ag} : (agsD l).under n := by simp only [agsD, D.under]; exact underss_map (fun _ => by simp [Ag.c]) _
theorem op_unders {n : Nat} {o : Op} : D.unders n o.c := by
  rw [op_c]; simp [D.unders, row_under, by_under, prs_under, ints_under, sxs_under, ags_under]
theorem evalK {k : Int} {r : Row} : evalF (prK k) r = if (atV r 0).null = true then 3 else truthF (decide (cmpV (atV r 0) (nV k) = 0)) := by
  simp [prK, evalF, holdsF]
theorem pickK_no {k : Int} {r : Row} (h1 : (atV r 0).kind = 1) (h2 : keyF r ≠ k) : evalF (prK k) r ≠ 1 := by
  rw [evalK];split
  · omega
  · rename_i hn
    have : ¬ cmpV (atV r 0) (nV k) = 0 := by
      rw [cmpV_null, if_neg hn, if_neg (by simp [nV]), if_pos h1, cmpI_eq]; exact h2
    simp [this, truthF]
def numP (l : List Int) (a : Nat) : Int := (l[a]?).getD (wr .i64 ((a : Int) * 7919))
def kP (d : Nat) (n : Int) : Int := if d ≤ 1 ∧ 4 < andI n 7 then andI n 7 - 4 else andI n 7
def cP (s : Sch) (n : Int) : Int := Int.tmod (andI (shrI .i64 n 3) 255) (s.length : Int)
def vP (s : Sch) (n : Int) : Vl := if cP s n = 0 then nV (andI (shrI .i64 n 11) 15) else match s[(cP s n).toNat]? with
  | some c => valF ⟨c.name, c.kind, false⟩ (shrI .i64 n 11)
  | none => zv
def leafP (s : Sch) (n : Int) : Pr := .mk 2 (cP s n) (Int.tmod (andI (shrI .i64 n 17) 255) 6 + 1) (vP s n) []
def sonsP (n : Int) (son : Nat → Pr) : List Pr := (List.range (andI (shrI .i64 n 11) 3).toNat).map son
def predG (s : Sch) (n k : Int) (son : Nat → Pr) : Pr :=
  if k = 0 then prT else if k = 1 then .mk 3 (cP s n) 0 zv []
  else if k = 5 ∨ k = 6 then .mk (k - 1) 0 0 zv (sonsP n son)
  else if k = 7 then .mk 6 0 0 zv [son 0] else leafP s n
def predF (s : Sch) (l : List Int) : Nat → Nat → Pr
  | 0, a => predG s (numP l a) (kP 0 (numP l a)) fun _ => prT
  | d + 1, a => predG s (numP l a) (kP (d + 1) (numP l a)) fun i => predF s l d (3 * a + i + 1)
theorem kP_at {d : Nat} {n : Int} : ∃ k : Nat, kP d n = k ∧ k ≤ 7 ∧ (d ≤ 1 → k ≤ 4) := by
  obtain ⟨q, hq, h1⟩ := andI_small (a := n) (m := 7) (by simp);have hq' : andI n 7 = q := hq;unfold kP;rw [hq'];split
  · exact ⟨q - 4, by omega, by omega, by omega⟩
  · exact ⟨q, rfl, h1, by omega⟩
def numO (l : List Int) (a : Nat) : Int := match l[a % l.length]? with
  | some x => wr .i64 (x + wr .i64 ((a : Int) * 7919))
  | none => 0
def predO (s : Sch) (l : List Int) (a : Nat) : Pr := if andI (shrI .i64 (numO l a) 3) 3 = 0 then prK (andI (shrI .i64 (numO l a) 5) 15) else predF s l 3 (a % 7)
def colO (s : Sch) (n : Int) : Int := Int.tmod (andI (shrI .i64 n 9) 255) (s.length : Int)
def addO (cl : Cl) (n : Int) : Bool := decide (cl.kind = 1) && !(valF cl (shrI .i64 n 17)).null && decide (andI (shrI .i64 n 13) 1 = 1)
def sxO (c : Int) (cl : Cl) (n : Int) : Sx := ⟨c, addO cl n, valF cl (shrI .i64 n 17)⟩
def opG (s : Sch) (n k c : Int) (q : Pr) : Op :=
  if k ≤ 2 then insO (rowF s (shrI .i64 n 5))
  else if k ≤ 4 then (if 0 < c then setO q (match s[c.toNat]? with | some cl => sxO c cl n | none => ⟨0, false, zv⟩) else delO q)
  else if k = 5 then scanO q [c, 0]
  else if k = 6 then aggO q (wr .i64 (c - wr .i64 (andI (shrI .i64 n 14) 1 * wr .i64 (c + 1)))) [⟨1, 0⟩, ⟨wr .i64 (3 + andI (shrI .i64 n 15) 1), c⟩, ⟨2, 0⟩]
  else if andI (shrI .i64 n 18) 7 = 0 then rollO else delO q
def opF (s : Sch) (l : List Int) (a : Nat) : Op := opG s (numO l a) (andI (numO l a) 7) (colO s (numO l a)) (predO s l a)
end Go.Lib
end

section
namespace Go.Lib
open Go.Vm Go.Dv
set_option maxRecDepth 100000
abbrev K97 (F : Nat → Nat) : KC := .seq (.region [⟨some 3,.a (.box (.tmp 0)),none⟩,⟨some 6,.a (.new [.int .i64 (.ofNat 0),.nilslice,.int .i64 (.ofNat 0),.int .i64 (.ofNat 0),.int .i64 (.ofNat 0),.bool false,.int .i64 (.ofNat 0),.int .i64 (.ofNat 0),.nilslice,.nilslice,.nilslice,.nilslice,.int .i64 (.ofNat 0),.nilslice]),none⟩] [3] [1,2,3,6])
 (.seq (.region [mi 7 0] [] [1,2,3,6,7])
 (.seq (.seq (.region [mv 12 1,lb 13 12,bi 14 .gtr 13 0] [] [1,2,3,6,7,14])
 (.cond (.tmp 14) (.region [mv 15 1,mv 16 2,mv 17 1,lb 18 17,bt 19 .rem 16 18,ix 20 1 15 19,l1 21 20,mv 22 2,bi 23 .mul 22 7919,bt 24 .add 21 23,mv 7 24] [] [1,2,3,6,7])
 (.skip)))
 (.seq (.region [ln 25 1 3,mv 26 1,mv 27 2,bi 28 .rem 27 7,⟨some 29,.e (.call (F 99) [(.tmp 25),(.tmp 26),(.tmp 28),(.val (.int .i64 (.ofNat 3)))]),none⟩,⟨some 8,.a (.new [.int .i64 (.ofNat 0),.int .i64 (.ofNat 0),.int .i64 (.ofNat 0),.bool false,.int .i64 (.ofNat 0),.int .i64 (.ofNat 0),.nilslice,.nilslice]),none⟩,⟨none,.e (.store 8 (.tmp 8) (.tmp 29)),none⟩] [] [3,6,7,8])
 (.seq (.seq (.region [mv 30 7,⟨some 31,.p (.bin .shr (.tmp 30) (.val (.int .u64 (.ofNat 3)))),none⟩,bi 32 .and 31 3,bi 33 .eql 32 0] [] [3,6,7,8,33])
 (.cond (.tmp 33) (.region [mv 34 7,⟨some 35,.p (.bin .shr (.tmp 34) (.val (.int .u64 (.ofNat 5)))),none⟩,bi 36 .and 35 15,⟨some 37,.p (.build [.bool false,.int .i64 (.ofNat 0),.int .i64 (.ofNat 0),.nilslice] [(1,1,(.val (.int .i64 (.ofNat 1)))),(2,1,(.tmp 36))]),none⟩,⟨some 38,.p (.build [.int .i64 (.ofNat 0),.int .i64 (.ofNat 0),.int .i64 (.ofNat 0),.bool false,.int .i64 (.ofNat 0),.int .i64 (.ofNat 0),.nilslice,.nilslice] [(0,1,(.val (.int .i64 (.ofNat 2)))),(2,1,(.val (.int .i64 (.ofNat 1)))),(3,4,(.tmp 37))]),none⟩,⟨none,.e (.store 8 (.tmp 8) (.tmp 38)),none⟩] [] [3,6,7,8])
 (.skip)))
 (.seq (.region [mv 39 7,⟨some 40,.p (.bin .shr (.tmp 39) (.val (.int .u64 (.ofNat 9)))),none⟩,bi 41 .and 40 255,fa 42 0 3,l1 43 42,lb 44 43,bt 45 .rem 41 44,mv 9 45] [] [3,6,7,8,9])
 (.seq (.seq (.region [mv 46 7,bi 47 .and 46 7] [] [3,6,7,8,9,47])
 (.block 0 (.seq (.seq (.region [bi 49 .eql 47 0,mv 48 49] [] [3,6,7,8,9,47,48])
 (.cond (.tmp 48) (.skip)
 (.seq (.region [bi 50 .eql 47 1,mv 48 50] [] [3,6,7,8,9,47,48])
 (.cond (.tmp 48) (.skip)
 (.region [bi 51 .eql 47 2,mv 48 51] [] [3,6,7,8,9,47,48])))))
 (.cond (.tmp 48) (.seq (.region [ln 52 1 3,mv 53 7,⟨some 54,.p (.bin .shr (.tmp 53) (.val (.int .u64 (.ofNat 5)))),none⟩,⟨some 55,.e (.call (F 24) [(.tmp 52),(.tmp 54)]),none⟩,⟨some 56,.p (.build [.int .i64 (.ofNat 0),.nilslice,.int .i64 (.ofNat 0),.int .i64 (.ofNat 0),.int .i64 (.ofNat 0),.bool false,.int .i64 (.ofNat 0),.int .i64 (.ofNat 0),.nilslice,.nilslice,.nilslice,.nilslice,.int .i64 (.ofNat 0),.nilslice] [(0,1,(.val (.int .i64 (.ofNat 1)))),(1,1,(.tmp 55))]),none⟩,⟨none,.e (.store 14 (.tmp 6) (.tmp 56)),none⟩] [] [6])
 (.ret))
 (.seq (.seq (.region [bi 58 .eql 47 3,mv 57 58] [] [3,6,7,8,9,47,57])
 (.cond (.tmp 57) (.skip)
 (.region [bi 59 .eql 47 4,mv 57 59] [] [3,6,7,8,9,47,57])))
 (.cond (.tmp 57) (.seq (.seq (.region [mv 60 9,bi 61 .gtr 60 0] [] [3,6,7,8,9,61])
 (.cond (.tmp 61) (.seq (.region [mv 62 9,fa 63 0 3,l1 64 63,mv 65 9,ix 66 3 64 65,ln 67 3 66,mv 68 7,⟨some 69,.p (.bin .shr (.tmp 68) (.val (.int .u64 (.ofNat 17)))),none⟩,⟨some 70,.e (.call (F 25) [(.tmp 67),(.tmp 69)]),none⟩,⟨some 71,.p (.build [.int .i64 (.ofNat 0),.bool false,.bool false,.int .i64 (.ofNat 0),.int .i64 (.ofNat 0),.nilslice] [(0,1,(.tmp 62)),(2,4,(.tmp 70))]),none⟩,⟨some 10,.a (.new [.int .i64 (.ofNat 0),.bool false,.bool false,.int .i64 (.ofNat 0),.int .i64 (.ofNat 0),.nilslice]),none⟩,⟨none,.e (.store 6 (.tmp 10) (.tmp 71)),none⟩] [] [3,6,7,8,9,10])
 (.seq (.seq (.region [fa 72 0 3,l1 73 72,mv 74 9,ix 75 3 73 74,fa 76 1 75,l1 77 76,bi 78 .eql 77 1,mv 79 78,⟨some 80,.p (.faddr 2 (.tmp 10)),(some (79,true))⟩,⟨some 81,.p (.faddr 0 (.tmp 80)),(some (79,true))⟩,⟨some 82,.load1 (.tmp 81),(some (79,true))⟩,⟨some 83,.p (.not (.tmp 82)),(some (79,true))⟩,⟨some 84,.p (.pick (.tmp 79) (.tmp 83) (.val (.bool false))),none⟩,mv 85 84,⟨some 86,.p (.mov (.tmp 7)),(some (85,true))⟩,⟨some 87,.p (.bin .shr (.tmp 86) (.val (.int .u64 (.ofNat 13)))),(some (85,true))⟩,⟨some 88,.p (.bin .and (.tmp 87) (.val (.int .i64 (.ofNat 1)))),(some (85,true))⟩,⟨some 89,.p (.bin .eql (.tmp 88) (.val (.int .i64 (.ofNat 1)))),(some (85,true))⟩,⟨some 90,.p (.pick (.tmp 85) (.tmp 89) (.val (.bool false))),none⟩] [] [6,8,10,90])
 (.cond (.tmp 90) (.region [fa 91 1 10,⟨none,.e (.store 1 (.tmp 91) (.val (.bool true))),none⟩] [] [6,8,10])
 (.skip)))
 (.seq (.region [ln 92 8 8,ln 93 6 10,⟨some 94,.a (.bslice [.int .i64 (.ofNat 0),.bool false,.bool false,.int .i64 (.ofNat 0),.int .i64 (.ofNat 0),.nilslice] 6 1 [(0,6,(.tmp 93))]),none⟩,⟨some 95,.p (.build [.int .i64 (.ofNat 0),.nilslice,.int .i64 (.ofNat 0),.int .i64 (.ofNat 0),.int .i64 (.ofNat 0),.bool false,.int .i64 (.ofNat 0),.int .i64 (.ofNat 0),.nilslice,.nilslice,.nilslice,.nilslice,.int .i64 (.ofNat 0),.nilslice] [(0,1,(.val (.int .i64 (.ofNat 2)))),(2,8,(.tmp 92)),(10,1,(.tmp 94))]),none⟩,⟨none,.e (.store 14 (.tmp 6) (.tmp 95)),none⟩] [94] [6])
 (.ret))))
 (.skip)))
 (.seq (.region [ln 96 8 8,⟨some 97,.p (.build [.int .i64 (.ofNat 0),.nilslice,.int .i64 (.ofNat 0),.int .i64 (.ofNat 0),.int .i64 (.ofNat 0),.bool false,.int .i64 (.ofNat 0),.int .i64 (.ofNat 0),.nilslice,.nilslice,.nilslice,.nilslice,.int .i64 (.ofNat 0),.nilslice] [(0,1,(.val (.int .i64 (.ofNat 3)))),(2,8,(.tmp 96))]),none⟩,⟨none,.e (.store 14 (.tmp 6) (.tmp 97)),none⟩] [] [6])
 (.ret)))
 (.seq (.region [bi 99 .eql 47 5,mv 98 99] [] [6,7,8,9,47,98])
 (.cond (.tmp 98) (.seq (.region [ln 100 8 8,mv 101 9,⟨some 102,.a (.bslice [.int .i64 (.ofNat 0),.int .i64 (.ofNat 0)] 1 2 [(0,1,(.tmp 101)),(1,1,(.val (.int .i64 (.ofNat 0))))]),none⟩,⟨some 103,.p (.build [.int .i64 (.ofNat 0),.nilslice,.int .i64 (.ofNat 0),.int .i64 (.ofNat 0),.int .i64 (.ofNat 0),.bool false,.int .i64 (.ofNat 0),.int .i64 (.ofNat 0),.nilslice,.nilslice,.nilslice,.nilslice,.int .i64 (.ofNat 0),.nilslice] [(0,1,(.val (.int .i64 (.ofNat 4)))),(2,8,(.tmp 100)),(11,1,(.tmp 102))]),none⟩,⟨none,.e (.store 14 (.tmp 6) (.tmp 103)),none⟩] [102] [6])
 (.ret))
 (.seq (.region [bi 105 .eql 47 6,mv 104 105] [] [6,7,8,9,104])
 (.cond (.tmp 104) (.seq (.region [ln 106 8 8,mv 107 9,mv 108 7,⟨some 109,.p (.bin .shr (.tmp 108) (.val (.int .u64 (.ofNat 14)))),none⟩,bi 110 .and 109 1,mv 111 9,bi 112 .add 111 1,bt 113 .mul 110 112,bt 114 .sub 107 113,⟨some 115,.p (.build [.int .i64 (.ofNat 0),.int .i64 (.ofNat 0)] [(0,1,(.val (.int .i64 (.ofNat 1))))]),none⟩,mv 116 7,⟨some 117,.p (.bin .shr (.tmp 116) (.val (.int .u64 (.ofNat 15)))),none⟩,bi 118 .and 117 1,⟨some 119,.p (.bin .add (.val (.int .i64 (.ofNat 3))) (.tmp 118)),none⟩,mv 120 9,⟨some 121,.p (.build [.int .i64 (.ofNat 0),.int .i64 (.ofNat 0)] [(0,1,(.tmp 119)),(1,1,(.tmp 120))]),none⟩,⟨some 122,.p (.build [.int .i64 (.ofNat 0),.int .i64 (.ofNat 0)] [(0,1,(.val (.int .i64 (.ofNat 2))))]),none⟩,⟨some 123,.a (.bslice [.int .i64 (.ofNat 0),.int .i64 (.ofNat 0),.int .i64 (.ofNat 0),.int .i64 (.ofNat 0),.int .i64 (.ofNat 0),.int .i64 (.ofNat 0)] 2 3 [(0,2,(.tmp 115)),(2,2,(.tmp 121)),(4,2,(.tmp 122))]),none⟩,⟨some 124,.p (.build [.int .i64 (.ofNat 0),.nilslice,.int .i64 (.ofNat 0),.int .i64 (.ofNat 0),.int .i64 (.ofNat 0),.bool false,.int .i64 (.ofNat 0),.int .i64 (.ofNat 0),.nilslice,.nilslice,.nilslice,.nilslice,.int .i64 (.ofNat 0),.nilslice] [(0,1,(.val (.int .i64 (.ofNat 5)))),(2,8,(.tmp 106)),(12,1,(.tmp 114)),(13,1,(.tmp 123))]),none⟩,⟨some 11,.a (.new [.int .i64 (.ofNat 0),.nilslice,.int .i64 (.ofNat 0),.int .i64 (.ofNat 0),.int .i64 (.ofNat 0),.bool false,.int .i64 (.ofNat 0),.int .i64 (.ofNat 0),.nilslice,.nilslice,.nilslice,.nilslice,.int .i64 (.ofNat 0),.nilslice]),none⟩,⟨none,.e (.store 14 (.tmp 11) (.tmp 124)),none⟩] [123] [6,11])
 (.seq (.region [ln 125 14 11,⟨none,.e (.store 14 (.tmp 6) (.tmp 125)),none⟩] [] [6])
 (.ret)))
 (.skip)))))))))))
 (.seq (.seq (.region [mv 126 7,⟨some 127,.p (.bin .shr (.tmp 126) (.val (.int .u64 (.ofNat 18)))),none⟩,bi 128 .and 127 7,bi 129 .eql 128 0] [] [6,8,129])
 (.cond (.tmp 129) (.seq (.region [⟨some 130,.p (.build [.int .i64 (.ofNat 0),.nilslice,.int .i64 (.ofNat 0),.int .i64 (.ofNat 0),.int .i64 (.ofNat 0),.bool false,.int .i64 (.ofNat 0),.int .i64 (.ofNat 0),.nilslice,.nilslice,.nilslice,.nilslice,.int .i64 (.ofNat 0),.nilslice] [(0,1,(.val (.int .i64 (.ofNat 6))))]),none⟩,⟨none,.e (.store 14 (.tmp 6) (.tmp 130)),none⟩] [] [6])
 (.ret))
 (.skip)))
 (.seq (.region [ln 131 8 8,⟨some 132,.p (.build [.int .i64 (.ofNat 0),.nilslice,.int .i64 (.ofNat 0),.int .i64 (.ofNat 0),.int .i64 (.ofNat 0),.bool false,.int .i64 (.ofNat 0),.int .i64 (.ofNat 0),.nilslice,.nilslice,.nilslice,.nilslice,.int .i64 (.ofNat 0),.nilslice] [(0,1,(.val (.int .i64 (.ofNat 3)))),(2,8,(.tmp 131))]),none⟩,⟨none,.e (.store 14 (.tmp 6) (.tmp 132)),none⟩] [] [6])
 (.ret)))))))))
def M97 (F : Nat → Nat) : Fun := ⟨133,3,(K97 F).erase,[.celln 14 6]⟩
theorem ok97 {F : Nat → Nat} : (K97 F).ok = true := rfl
abbrev K98 (F : Nat → Nat) : KC := .seq (.region [⟨some 3,.a (.box (.tmp 0)),none⟩,⟨some 6,.p (.mov (.val (.nilslice))),none⟩] [3] [1,2,3])
 (.seq (.region [⟨some 7,.p (.mov (.val (.nilslice))),none⟩] [] [1,2,3,7])
 (.seq (.seq (.region [mi 8 0] [] [1,2,3,7,8])
 (.block 0 (.loop (.seq (.seq (.region [mv 9 8,mv 10 2,bi 11 .and 10 7,bt 12 .lss 9 11,mv 13 12,⟨some 14,.p (.mov (.tmp 8)),(some (13,true))⟩,⟨some 15,.p (.bin .lss (.tmp 14) (.val (.int .i64 (.ofNat 6)))),(some (13,true))⟩,⟨some 16,.p (.pick (.tmp 13) (.tmp 15) (.val (.bool false))),none⟩] [] [1,2,3,7,8,16])
 (.cond (.tmp 16) (.skip)
 (.exit 0)))
 (.seq (.block 1 (.region [mv 19 7,ln 20 1 3,mv 21 1,mv 22 2,⟨some 23,.p (.bin .shr (.tmp 22) (.val (.int .u64 (.ofNat 3)))),none⟩,bi 24 .and 23 63,mv 25 8,bt 26 .add 24 25,⟨some 27,.e (.call (F 97) [(.tmp 20),(.tmp 21),(.tmp 26)]),none⟩,⟨some 28,.a (.bslice [.int .i64 (.ofNat 0),.nilslice,.int .i64 (.ofNat 0),.int .i64 (.ofNat 0),.int .i64 (.ofNat 0),.bool false,.int .i64 (.ofNat 0),.int .i64 (.ofNat 0),.nilslice,.nilslice,.nilslice,.nilslice,.int .i64 (.ofNat 0),.nilslice] 14 1 [(0,14,(.tmp 27))]),none⟩,⟨some 29,.e (.append 14 208 (.tmp 19) (.tmp 28)),none⟩,mv 7 29] [28] [1,2,3,7,8]))
 (.region [mv 17 8,bi 18 .add 17 1,mv 8 18] [] [1,2,3,7,8]))))))
 (.seq (.region [mv 30 7,mv 6 30] [] [6])
 (.ret))))
def M98 (F : Nat → Nat) : Fun := ⟨31,3,(K98 F).erase,[.tmp 6]⟩
theorem ok98 {F : Nat → Nat} : (K98 F).ok = true := rfl
abbrev K99 (F : Nat → Nat) : KC := .seq (.region [⟨some 4,.a (.box (.tmp 0)),none⟩,⟨some 8,.a (.new [.int .i64 (.ofNat 0),.int .i64 (.ofNat 0),.int .i64 (.ofNat 0),.bool false,.int .i64 (.ofNat 0),.int .i64 (.ofNat 0),.nilslice,.nilslice]),none⟩] [4] [1,2,3,4,8])
 (.seq (.region [mv 16 2,bi 17 .mul 16 7919,mv 9 17] [] [1,2,3,4,8,9])
 (.seq (.seq (.region [mv 18 2,mv 19 1,lb 20 19,bt 21 .lss 18 20] [] [1,2,3,4,8,9,21])
 (.cond (.tmp 21) (.region [mv 22 1,mv 23 2,ix 24 1 22 23,l1 25 24,mv 9 25] [] [1,2,3,4,8,9])
 (.skip)))
 (.seq (.region [mv 26 9,bi 27 .and 26 7,mv 10 27] [] [1,2,3,4,8,9,10])
 (.seq (.seq (.region [mv 28 3,bi 29 .leq 28 1,mv 30 29,⟨some 31,.p (.mov (.tmp 10)),(some (30,true))⟩,⟨some 32,.p (.bin .gtr (.tmp 31) (.val (.int .i64 (.ofNat 4)))),(some (30,true))⟩,⟨some 33,.p (.pick (.tmp 30) (.tmp 32) (.val (.bool false))),none⟩] [] [1,2,3,4,8,9,10,33])
 (.cond (.tmp 33) (.region [mv 34 10,bi 35 .sub 34 4,mv 10 35] [] [1,2,3,4,8,9,10])
 (.skip)))
 (.seq (.region [mv 36 9,⟨some 37,.p (.bin .shr (.tmp 36) (.val (.int .u64 (.ofNat 3)))),none⟩,bi 38 .and 37 255,fa 39 0 4,l1 40 39,lb 41 40,bt 42 .rem 38 41,mv 11 42] [] [1,2,3,4,8,9,10,11])
 (.seq (.seq (.region [mv 43 10] [] [1,2,3,4,8,9,10,11,43])
 (.block 0 (.seq (.region [bi 45 .eql 43 0,mv 44 45] [] [1,2,3,4,8,9,10,11,43,44])
 (.cond (.tmp 44) (.seq (.region [⟨some 46,.p (.build [.int .i64 (.ofNat 0),.int .i64 (.ofNat 0),.int .i64 (.ofNat 0),.bool false,.int .i64 (.ofNat 0),.int .i64 (.ofNat 0),.nilslice,.nilslice] [(0,1,(.val (.int .i64 (.ofNat 1))))]),none⟩,⟨none,.e (.store 8 (.tmp 8) (.tmp 46)),none⟩] [] [8])
 (.ret))
 (.seq (.region [bi 48 .eql 43 1,mv 47 48] [] [1,2,3,4,8,9,10,11,43,47])
 (.cond (.tmp 47) (.seq (.region [mv 49 11,⟨some 50,.p (.build [.int .i64 (.ofNat 0),.int .i64 (.ofNat 0),.int .i64 (.ofNat 0),.bool false,.int .i64 (.ofNat 0),.int .i64 (.ofNat 0),.nilslice,.nilslice] [(0,1,(.val (.int .i64 (.ofNat 3)))),(1,1,(.tmp 49))]),none⟩,⟨none,.e (.store 8 (.tmp 8) (.tmp 50)),none⟩] [] [8])
 (.ret))
 (.seq (.seq (.region [bi 52 .eql 43 5,mv 51 52] [] [1,2,3,4,8,9,10,11,43,51])
 (.cond (.tmp 51) (.skip)
 (.region [bi 53 .eql 43 6,mv 51 53] [] [1,2,3,4,8,9,10,11,43,51])))
 (.cond (.tmp 51) (.seq (.region [mv 54 10,⟨some 55,.p (.bin .add (.val (.int .i64 (.ofNat 4))) (.tmp 54)),none⟩,bi 56 .sub 55 5,⟨some 57,.p (.build [.int .i64 (.ofNat 0),.int .i64 (.ofNat 0),.int .i64 (.ofNat 0),.bool false,.int .i64 (.ofNat 0),.int .i64 (.ofNat 0),.nilslice,.nilslice] [(0,1,(.tmp 56))]),none⟩,⟨some 12,.a (.new [.int .i64 (.ofNat 0),.int .i64 (.ofNat 0),.int .i64 (.ofNat 0),.bool false,.int .i64 (.ofNat 0),.int .i64 (.ofNat 0),.nilslice,.nilslice]),none⟩,⟨none,.e (.store 8 (.tmp 12) (.tmp 57)),none⟩] [] [1,2,3,4,8,9,12])
 (.seq (.seq (.region [mi 13 0] [] [1,2,3,4,8,9,12,13])
 (.block 1 (.loop (.seq (.seq (.region [mv 58 13,mv 59 9,⟨some 60,.p (.bin .shr (.tmp 59) (.val (.int .u64 (.ofNat 11)))),none⟩,bi 61 .and 60 3,bt 62 .lss 58 61] [] [1,2,3,4,8,9,12,13,62])
 (.cond (.tmp 62) (.skip)
 (.exit 1)))
 (.seq (.block 2 (.dregion [⟨ln 67 1 4,0,9⟩,⟨mv 68 1,0,9⟩,⟨mv 69 2,0,9⟩,⟨⟨some 70,.p (.bin .mul (.val (.int .i64 (.ofNat 3))) (.tmp 69)),none⟩,0,9⟩,⟨mv 71 13,0,9⟩,⟨bt 72 .add 70 71,0,9⟩,⟨bi 73 .add 72 1,0,9⟩,⟨mv 74 3,0,9⟩,⟨bi 75 .sub 74 1,0,9⟩,⟨⟨some 76,.e (.call (F 99) [(.tmp 67),(.tmp 68),(.tmp 73),(.tmp 75)]),none⟩,0,13⟩,⟨fa 65 7 12,0,13⟩,⟨l1 66 65,0,13⟩,⟨⟨some 77,.a (.bslice [.int .i64 (.ofNat 0),.int .i64 (.ofNat 0),.int .i64 (.ofNat 0),.bool false,.int .i64 (.ofNat 0),.int .i64 (.ofNat 0),.nilslice,.nilslice] 8 1 [(0,8,(.tmp 76))]),none⟩,10,13⟩,⟨⟨some 78,.e (.append 8 96 (.tmp 66) (.tmp 77)),none⟩,10,15⟩,⟨fa 79 7 12,14,15⟩,⟨⟨none,.e (.store 1 (.tmp 79) (.tmp 78)),none⟩,14,16⟩] [1,2,3,4,8,9,12,13]))
 (.region [mv 63 13,bi 64 .add 63 1,mv 13 64] [] [1,2,3,4,8,9,12,13]))))))
 (.seq (.region [ln 80 8 12,⟨none,.e (.store 8 (.tmp 8) (.tmp 80)),none⟩] [] [8])
 (.ret))))
 (.seq (.region [bi 82 .eql 43 7,mv 81 82] [] [1,2,3,4,8,9,11,81])
 (.cond (.tmp 81) (.seq (.region [ln 83 1 4,mv 84 1,mv 85 2,⟨some 86,.p (.bin .mul (.val (.int .i64 (.ofNat 3))) (.tmp 85)),none⟩,bi 87 .add 86 1,mv 88 3,bi 89 .sub 88 1,⟨some 90,.e (.call (F 99) [(.tmp 83),(.tmp 84),(.tmp 87),(.tmp 89)]),none⟩,⟨some 91,.a (.bslice [.int .i64 (.ofNat 0),.int .i64 (.ofNat 0),.int .i64 (.ofNat 0),.bool false,.int .i64 (.ofNat 0),.int .i64 (.ofNat 0),.nilslice,.nilslice] 8 1 [(0,8,(.tmp 90))]),none⟩,⟨some 92,.p (.build [.int .i64 (.ofNat 0),.int .i64 (.ofNat 0),.int .i64 (.ofNat 0),.bool false,.int .i64 (.ofNat 0),.int .i64 (.ofNat 0),.nilslice,.nilslice] [(0,1,(.val (.int .i64 (.ofNat 6)))),(7,1,(.tmp 91))]),none⟩,⟨none,.e (.store 8 (.tmp 8) (.tmp 92)),none⟩] [] [8])
 (.ret))
 (.skip)))))))))))
 (.seq (.region [fa 93 0 4,l1 94 93,mv 95 11,ix 96 3 94 95,ln 97 3 96,⟨some 14,.a (.new [.str [],.int .i64 (.ofNat 0),.bool false]),none⟩,⟨none,.e (.store 3 (.tmp 14) (.tmp 97)),none⟩] [] [8,9,11,14])
 (.seq (.region [fa 98 2 14,⟨none,.e (.store 1 (.tmp 98) (.val (.bool false))),none⟩] [] [8,9,11,14])
 (.seq (.region [ln 99 3 14,mv 100 9,⟨some 101,.p (.bin .shr (.tmp 100) (.val (.int .u64 (.ofNat 11)))),none⟩,⟨some 102,.e (.call (F 25) [(.tmp 99),(.tmp 101)]),none⟩,⟨some 15,.a (.new [.bool false,.int .i64 (.ofNat 0),.int .i64 (.ofNat 0),.nilslice]),none⟩,⟨none,.e (.store 4 (.tmp 15) (.tmp 102)),none⟩] [] [8,9,11,15])
 (.seq (.seq (.region [mv 103 11,bi 104 .eql 103 0] [] [8,9,11,15,104])
 (.cond (.tmp 104) (.region [mv 105 9,⟨some 106,.p (.bin .shr (.tmp 105) (.val (.int .u64 (.ofNat 11)))),none⟩,bi 107 .and 106 15,⟨some 108,.p (.build [.bool false,.int .i64 (.ofNat 0),.int .i64 (.ofNat 0),.nilslice] [(1,1,(.val (.int .i64 (.ofNat 1)))),(2,1,(.tmp 107))]),none⟩,⟨none,.e (.store 4 (.tmp 15) (.tmp 108)),none⟩] [] [8,9,11,15])
 (.skip)))
 (.seq (.region [mv 109 11,mv 110 9,⟨some 111,.p (.bin .shr (.tmp 110) (.val (.int .u64 (.ofNat 17)))),none⟩,bi 112 .and 111 255,bi 113 .rem 112 6,bi 114 .add 113 1,ln 115 4 15,⟨some 116,.p (.build [.int .i64 (.ofNat 0),.int .i64 (.ofNat 0),.int .i64 (.ofNat 0),.bool false,.int .i64 (.ofNat 0),.int .i64 (.ofNat 0),.nilslice,.nilslice] [(0,1,(.val (.int .i64 (.ofNat 2)))),(1,1,(.tmp 109)),(2,1,(.tmp 114)),(3,4,(.tmp 115))]),none⟩,⟨none,.e (.store 8 (.tmp 8) (.tmp 116)),none⟩] [] [8])
 (.ret))))))))))))
def M99 (F : Nat → Nat) : Fun := ⟨117,4,(K99 F).erase,[.celln 8 8]⟩
theorem ok99 {F : Nat → Nat} : (K99 F).ok = true := rfl
end Go.Lib
end
