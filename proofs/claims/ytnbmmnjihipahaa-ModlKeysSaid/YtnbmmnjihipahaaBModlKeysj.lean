/-
  Texts that the claim's last one rests on, joined.
-/
import Derived.Test.YtnbmmnjihipahaaBModlKeysi
import Derived.Test.YtnbmmnjihipahaaBModlKeysh
import Derived.Test.YtnbmmnjihipahaaBModlKeysg

section
set_option maxRecDepth 10000
namespace Go.Lib
open Go.Vm Go.Dv
variable {p : Prog} {ext : Ext} {F : Nat → Nat}
theorem max2_int {tab : Tab} {a b : Int} : foldD (max2V tab) [.lit (.int .i64 a), .lit (.int .i64 b)] = some (.lit (.int .i64 (max a b))) := by
  show litO (some (V.int .i64 (cond (ilt a b) b a))) = _;rw [ilt_d]
  by_cases h : a < b
  · simp only [h, decide_true, cond_true, litO_int]; rw [Int.max_def, if_pos (by omega)]
  · simp only [h, decide_false, cond_false, litO_int]
    rw [Int.max_def]; split
    · rw [show a = b by omega]
    · rfl
theorem min2_int {tab : Tab} {a b : Int} : foldD (min2V tab) [.lit (.int .i64 a), .lit (.int .i64 b)] = some (.lit (.int .i64 (min a b))) := by
  show litO (some (V.int .i64 (cond (ilt b a) b a))) = _;rw [ilt_d]
  by_cases h : b < a
  · simp only [h, decide_true, cond_true, litO_int]
    rw [Int.min_def, if_neg (by omega)]
  · simp only [h, decide_false, cond_false, litO_int]
    rw [Int.min_def, if_pos (by omega)]
attribute [simp] max2_int min2_int
theorem ref6_sameVal (L : HRef6 p ext F) {a b : Vl} : FnD p ext (F 50) [.agg a.c, .agg b.c] (.lit (.bool (decide (a = b)))) := by
  refine fn_of L.h50 (M := M50) rfl ok50 rfl fun H => sem_run 9000 _ ?_;simp
  by_cases h1 : a.null = b.null
  · by_cases h2 : a.kind = b.kind
    · by_cases h3 : a.n = b.n
      · by_cases h4 : a.bytes = b.bytes
        · simp [h1, h2, h3, h4]
          refine sem_ret ?_;simp [M50, vl_ext, h1, h2, h3, h4];exact .same (by simp)
        · simp [h1, h2, h3, h4]
          refine sem_ret ?_;simp [M50, vl_ext, h4];exact .same (by simp)
      · simp [h1, h2, h3]
        refine sem_ret ?_;simp [M50, vl_ext, h3];exact .same (by simp)
    · simp [h1, h2]
      refine sem_ret ?_;simp [M50, vl_ext, h2];exact .same (by simp)
  · simp [h1]
    refine sem_ret ?_;simp [M50, vl_ext, h1];exact .same (by simp)
def Same6I {α : Type} [DecidableEq α] (f : List α → D) (x y : List α) (H0 : HpD) (k : Nat) (fr : FrD) (H : HpD) : Prop :=
  ∃ i : Nat, k = x.length - i ∧ i ≤ x.length ∧ decide (x = y) = decide (x.drop i = y.drop i) ∧ fr = [(0, f x), (1, f y), (5, .lit (.int .i64 (i : Int)))] ∧ Sub H0 H
theorem ref6_sameRow (L : HRef6 p ext F) {x y : Row} (hx : x.length < 1000000) : FnD p ext (F 49) [rowD x, rowD y] (.lit (.bool (decide (x = y)))) := by
  refine fn_of L.h49 (M := M49) rfl ok49 rfl fun H => sem_run 9000 _ ?_;simp
  by_cases hl : x.length = y.length
  · simp [hl]
    refine sem_loop (Same6I rowD x y H) ?_ (k := x.length) ⟨0, by simp, by simp, by simp, rfl, .refl⟩;rintro k fr H' ⟨i, rfl, hi, hc, rfl, hs⟩;refine sem_run 9000 _ ?_;simp
    by_cases c : i < x.length
    · have c3 : i < y.length := by omega
      simp [c, c3];refine sem_dfn (ref6_sameVal L (a := x[i]) (b := y[i])) (by first | exact D.les_refl _ | simp) (sem_run 9000 _ ?_);simp;rw [List.drop_eq_getElem_cons c, List.drop_eq_getElem_cons c3] at hc
      by_cases c4 : x[i] = y[i]
      · simp [c4]
        refine sem_ok ?_
        have hw : wr .i64 ((i : Int) + 1) = ((i + 1 : Nat) : Int) := by rw [wr_of] <;> omega
        exact ⟨_, by omega, i + 1, rfl, by omega, by rw [hc]; simp only [c4, List.cons.injEq, true_and], by rw [hw], (by have := hs.next; repeat (first | exact hs | apply Sub.new | refine Sub.put ?_ (by first | omega | (simp only [put_next, new_next]; omega))))⟩
      · simp [c4]
        refine sem_ret ?_;simp;refine sem_ret ?_;simp [M49];exact .le (by have := hs.next; repeat (first | exact hs | apply Sub.new | refine Sub.put ?_ (by first | omega | (simp only [put_next, new_next]; omega)))) (by rw [hc]; simp only [c4, List.cons.injEq, false_and, decide_false, D.le_refl]) trivial
    · simp [c]
      refine sem_exit (sem_run 9000 _ ?_);simp;refine sem_ret ?_;simp [M49];rw [hc, List.drop_eq_nil_of_le (by omega : x.length ≤ i), List.drop_eq_nil_of_le (by omega : y.length ≤ i)];exact .le (by have := hs.next; repeat (first | exact hs | apply Sub.new | refine Sub.put ?_ (by first | omega | (simp only [put_next, new_next]; omega)))) (by simp) trivial
  · have hl' : ¬ (x.length : Int) = y.length := by omega
    have hne : ¬ x = y := fun e => hl (by rw [e]);simp [hl'];refine sem_ret ?_;simp [M49];exact .le .refl (by simp [hne]) trivial
theorem ref6_same (L : HRef6 p ext F) {x y : List Row} (hx : Fine x) : FnD p ext (F 48) [rowsD x, rowsD y] (.lit (.bool (decide (x = y)))) := by
  refine fn_of L.h48 (M := M48) rfl ok48 rfl fun H => sem_run 9000 _ ?_;simp;have hx1 := hx.1
  by_cases hl : x.length = y.length
  · simp [hl]
    refine sem_loop (Same6I rowsD x y H) ?_ (k := x.length) ⟨0, by simp, by simp, by simp, rfl, .refl⟩;rintro k fr H' ⟨i, rfl, hi, hc, rfl, hs⟩;refine sem_run 9000 _ ?_;simp
    by_cases c : i < x.length
    · have c3 : i < y.length := by omega
      simp [c, c3];refine sem_dfn (ref6_sameRow L (x := x[i]) (y := y[i]) (hx.2 _ (by simp))) (by first | exact D.les_refl _ | simp) (sem_run 9000 _ ?_);simp;rw [List.drop_eq_getElem_cons c, List.drop_eq_getElem_cons c3] at hc
      by_cases c4 : x[i] = y[i]
      · simp [c4]
        refine sem_ok ?_
        have hw : wr .i64 ((i : Int) + 1) = ((i + 1 : Nat) : Int) := by rw [wr_of] <;> omega
        exact ⟨_, by omega, i + 1, rfl, by omega, by rw [hc]; simp only [c4, List.cons.injEq, true_and], by rw [hw], (by have := hs.next; repeat (first | exact hs | apply Sub.new | refine Sub.put ?_ (by first | omega | (simp only [put_next, new_next]; omega))))⟩
      · simp [c4]
        refine sem_ret ?_;simp;refine sem_ret ?_;simp [M48];exact .le (by have := hs.next; repeat (first | exact hs | apply Sub.new | refine Sub.put ?_ (by first | omega | (simp only [put_next, new_next]; omega)))) (by rw [hc]; simp only [c4, List.cons.injEq, false_and, decide_false, D.le_refl]) trivial
    · simp [c]
      refine sem_exit (sem_run 9000 _ ?_);simp;refine sem_ret ?_;simp [M48];rw [hc, List.drop_eq_nil_of_le (by omega : x.length ≤ i), List.drop_eq_nil_of_le (by omega : y.length ≤ i)];exact .le (by have := hs.next; repeat (first | exact hs | apply Sub.new | refine Sub.put ?_ (by first | omega | (simp only [put_next, new_next]; omega)))) (by simp) trivial
  · have hl' : ¬ (x.length : Int) = y.length := by omega
    have hne : ¬ x = y := fun e => hl (by rw [e]);simp [hl'];refine sem_ret ?_;simp [M48];exact .le .refl (by simp [hne]) trivial
end Go.Lib
end

section
namespace Go.Dv
open Go.Vm
variable {p : Prog} {ext : Ext} {Q : ResD → Prop} {H0 H : HpD} {sz : Nat} {s : D} {el : List (List D)}
def FrLe (fr : FrD) : FrD → Prop
  | [] => True
  | (t, d) :: r => D.le (lk fr t) d ∧ FrLe fr r
theorem frLe_nil {fr : FrD} : FrLe fr [] = True := rfl
theorem frLe_cons {fr r : FrD} {t : Nat} {d : D} : FrLe fr ((t, d) :: r) = (D.le (lk fr t) d ∧ FrLe fr r) := rfl
theorem FrLe.lk {fr : FrD} : ∀ {fr' : FrD}, FrLe fr fr' → ∀ u, D.le (lk fr u) (lk fr' u)
  | [], _, u => by simp [Dv.lk, D.le]
  | (t, d) :: r, h, u => by
    rw [lk_cons]
    split
    · rename_i e; subst e; exact h.1
    · exact FrLe.lk h.2 u
theorem Weak.as {a : List D} {fr fr' : FrD} (h : FrLe fr fr') : Weak a fr H a fr' H :=
  fun ψ S _ _ _ s k kv => ⟨ψ, S, .refl, s, fun t => VD.le _ _ (h.lk t) (k t), kv⟩
theorem get1_0 {d : D} : [d][0]? = some d := rfl
theorem get2_0 {d e : D} : [d, e][0]? = some d := rfl
theorem get2_1 {d e : D} : [d, e][1]? = some e := rfl
attribute [simp] frLe_nil frLe_cons get1_0 get2_0 get2_1
theorem sem_as (fr' : FrD) {fr : FrD} {c : KC} {K : List KD} (h : FrLe fr fr') (hs : Sem p ext Q (.code c K .mk fr' H)) : Sem p ext Q (.code c K .mk fr H) := sem_weak (Weak.as h) hs
theorem sem_as_ok (fr' : FrD) {fr : FrD} {K : List KD} (h : FrLe fr fr') (hs : Sem p ext Q (.res (.ok fr' H) K .mk)) : Sem p ext Q (.res (.ok fr H) K .mk) := sem_weak_ok (Weak.as h) hs
theorem splice_left {x : List D} : ∀ (a m : List D) (k : Nat), spliceD (a ++ m) (a.length + k) x = a ++ spliceD m k x
  | [], m, k => by simp
  | d :: a, m, k => by
    rw [List.cons_append, List.length_cons, show a.length + 1 + k = (a.length + k) + 1 from by omega, spliceD_succ, splice_left a m k]; rfl
theorem splice_whole {x : List D} (hx : x.length = sz) : ∀ {el : List (List D)} {i : Nat} {e : List D}, (∀ e, e ∈ el → e.length = sz) → el[i]? = some e → spliceD el.flatten (i * sz) x = (el.set i x).flatten
  | [], _, _, _, he => by simp at he
  | a :: l, 0, e, hs, he => by
    have ha := hs a (List.mem_cons_self ..);simp [spliceD_zero, hx, ← ha]
  | a :: l, i + 1, e, hs, he => by
    have ha := hs a (List.mem_cons_self ..);have ih := splice_whole hx (el := l) (i := i) (e := e) (fun y hy => hs y (List.mem_cons_of_mem _ hy)) (by simpa using he);simp only [List.flatten_cons, List.set_cons_succ];rw [show (i + 1) * sz = a.length + i * sz from by rw [ha, Nat.succ_mul]; omega, splice_left, ih]
theorem flat_get {j : Nat} : ∀ {el : List (List D)} {i : Nat} {e : List D}, (∀ e, e ∈ el → e.length = sz) → el[i]? = some e → j < sz → el.flatten[i * sz + j]? = e[j]?
  | [], _, _, _, he, _ => by simp at he
  | a :: l, 0, e, hs, he, hj => by
    have ha := hs a (List.mem_cons_self ..);simp at he; subst he;simp only [List.flatten_cons, Nat.zero_mul, Nat.zero_add];rw [List.getElem?_append_left (by omega)]
  | a :: l, i + 1, e, hs, he, hj => by
    have ha := hs a (List.mem_cons_self ..);have ih := flat_get (el := l) (i := i) (e := e) (fun y hy => hs y (List.mem_cons_of_mem _ hy)) (by simpa using he) hj;simp only [List.flatten_cons];rw [show (i + 1) * sz + j = a.length + (i * sz + j) from by rw [ha, Nat.succ_mul]; omega, List.getElem?_append_right (by omega), Nat.add_sub_cancel_left, ih]
theorem Gr.aside {H1 : HpD} {x : BD} (g : Gr H1 H sz s el) (h : Sub H0 H1) {b : Nat} (h0 : H0.next ≤ b) (hb : b < H1.next) : Gr H0 (H.put b x) sz s el := by
  refine ⟨(h.trans g.sub).put h0, g.len, ?_⟩;rcases g.at_ with h2 | ⟨b', ex, el0, rfl, h1, h2, h3, h4⟩
  · exact .inl h2
  · exact .inr ⟨b', ex, el0, rfl, by have := h.next; omega, h2, by rw [put_blk, if_neg (by omega)]; exact h3, h4⟩
theorem sem_exact {c : KC} {K : List KD} {fr : FrD} (g : Gr H0 H sz s el) (hs : ∀ H', GrX H0 H' sz s el → (∀ x, ¬ s.hasB x → H'.blk x = H.blk x) → H'.next = H.next → Sem p ext Q (.code c K .mk fr H')) : Sem p ext Q (.code c K .mk fr H) := by
  obtain ⟨H', w, g', k, n⟩ := g.exact;exact sem_weak (w _ _) (hs H' g' k n)
theorem GrX.keep {H1 : HpD} (g : GrX H0 H sz s el) (hs : Sub H H1) (hk : ∀ x, s.hasB x → H1.blk x = H.blk x) : GrX H0 H1 sz s el := by
  refine ⟨g.gr.mono hs, ?_⟩;rcases g.at_ with h | ⟨b, ex, rfl, h1, h2, h3⟩
  · exact .inl h
  · exact .inr ⟨b, ex, rfl, h1, by have := hs.next; omega, by rw [hk b rfl, h3]⟩
theorem GrX.whole {e x : List D} {i b : Nat} {ex : Bool} (g : GrX H0 H sz (.slice b 0 sz el.length el.length ex) el) (he : el[i]? = some e) (hx : x.length = sz) (h1 : H0.next ≤ b) (h2 : b < H.next) : GrX H0 (H.put b (.cells (spliceD el.flatten (i * sz) x) false)) sz (.slice b 0 sz el.length el.length ex) (el.set i x) := by
  rw [splice_whole hx g.gr.len he];refine ⟨⟨g.gr.sub.put h1, fun y hy => ?_, .inr ⟨b, ex, el.set i x, by simp, h1, h2, by simp, D.less_refl _⟩⟩, .inr ⟨b, ex, by simp, h1, h2, by simp⟩⟩;rcases List.mem_or_eq_of_mem_set hy with hy | rfl
  · exact g.gr.len y hy
  · exact hx
theorem GrX.cell {e : List D} {x : D} {i j b : Nat} {ex : Bool} (g : GrX H0 H sz (.slice b 0 sz el.length el.length ex) el) (he : el[i]? = some e) (hj : j < sz) (h1 : H0.next ≤ b) (h2 : b < H.next) : GrX H0 (H.put b (.cells (spliceD el.flatten (i * sz + j) [x]) false)) sz (.slice b 0 sz el.length el.length ex) (el.set i (e.set j x)) := by
  rw [spliceD_flatten g.gr.len he hj];refine ⟨⟨g.gr.sub.put h1, fun y hy => ?_, .inr ⟨b, ex, el.set i (e.set j x), by simp, h1, h2, by simp, D.less_refl _⟩⟩, .inr ⟨b, ex, by simp, h1, h2, by simp⟩⟩;rcases List.mem_or_eq_of_mem_set hy with hy | rfl
  · exact g.gr.len y hy
  · rw [List.length_set]; exact g.gr.len e (List.mem_of_getElem? he)
theorem SR.tellV {ψ : Nat → Option Nat} {S : Nat → Prop} {h : Hp} {b : Nat} {cs cs' : List D} {ro : Bool} (s : SR ψ S H h) (hb : H.blk b = .cells cs ro) (hl : ∀ l', VDl h ψ S cs l' → VDl h ψ S cs' l') : SR ψ S (H.put b (.cells cs' ro)) h :=
  ⟨s.inj, s.dom, s.frz, fun b' hg => by
    rw [put_blk] at hg ⊢
    by_cases e : b' = b
    · subst e
      obtain ⟨c, h1, h2, h3⟩ := s.live b' (by rw [hb]; rfl);rw [hb] at h3;obtain ⟨l', e1, k⟩ := h3;refine ⟨c, h1, h2, ?_⟩;rw [if_pos rfl];exact ⟨l', e1, hl l' k⟩
    · rw [if_neg e] at hg ⊢
      exact s.live b' hg⟩
theorem Gr.incell (g : Gr H0 H sz s el) {b2 j : Nat} {cs : List D} {ro : Bool} (hb2 : H.blk b2 = .cells cs ro) (hj : cs[j]? = some s) (hne : ¬ s.hasB b2) :
    ∃ H', (∀ a fr, Weak a fr H a fr H') ∧ H'.blk b2 = .cells (cs.set j (.row sz .p el)) ro ∧ (∀ x, x ≠ b2 → ¬ s.hasB x → H'.blk x = H.blk x) ∧ H'.next = H.next ∧ ∀ H1, Sub H1 H → H1.next ≤ H0.next → H1.next ≤ b2 → Sub H1 H' := by
  rcases g.at_ with ⟨rfl, rfl⟩ | ⟨b, ex, el0, rfl, h1, h2, h3, h4⟩
  · refine ⟨H.put b2 (.cells (cs.set j (.row sz .p [])) ro), fun a fr => ?_, by simp, fun x hx _ => by rw [put_blk, if_neg hx], by simp, fun H1 hs _ h2 => hs.put h2⟩
    intro ψ S h fv vs sr kf kv;exact ⟨ψ, S, .refl, sr.tellV hb2 fun l' k => k.setD hj fun v hv => VD.le (.lit .nilslice) _ (by simp [D.le]) hv, kf, kv⟩
  · have hb : b2 ≠ b := fun e => hne (by simp only [D.hasB]; omega)
    refine ⟨(H.put b .gone).put b2 (.cells (cs.set j (.row sz .p el)) ro), fun a fr => ?_, by simp, fun x hx hx2 => ?_, by simp, fun H1 hs h0 h2 => (hs.put (by omega)).put h2⟩
    · intro ψ S h fv vs sr kf kv
      have hel := less_length h4;obtain ⟨c, hc, hr⟩ := frz_row sr h3 (less_sz h4 g.len);obtain ⟨x0, s0⟩ := sr.freeze hc;refine ⟨ψ, _, x0, s0.tellV (cs := cs) (by rw [put_blk, if_neg hb]; exact hb2) fun l' k => k.setD hj fun v hv => ?_, kf.mono x0, VDl.mono x0 _ kv⟩;simp only [VD] at hv;obtain ⟨c', e, e2⟩ := hv;rw [hc] at e; cases e;rw [e2];rw [← hel];refine VD.le _ _ ?_ (hr _ _ (Nat.le_refl _));simp [D.le, h4]
    · rw [put_blk, if_neg hx, put_blk, if_neg]
      exact fun e => hx2 (by simp only [D.hasB]; omega)
theorem Gr.last {t : D} {H1 : HpD} {pre : List (List D)} (g : Gr H0 H 1 t (pre ++ [[s]])) (gs : Gr H1 H sz s el) (h01 : H0.next ≤ H1.next) (hne : ∀ x, t.hasB x → ¬ s.hasB x) :
    ∃ H', (∀ a fr, Weak a fr H a fr H') ∧ Gr H0 H' 1 t (pre ++ [[.row sz .p el]]) ∧ (∀ x, ¬ t.hasB x → ¬ s.hasB x → H'.blk x = H.blk x) ∧ H'.next = H.next := by
  obtain ⟨H2, w, g2, k2, n2⟩ := g.exact;rcases g2.at_ with ⟨_, he⟩ | ⟨b, ex, rfl, h1, h2, h3⟩
  · simp at he
  · have hpre : pre.flatten.length = pre.length := by
      rw [flatten_len (sz := 1) fun e he => g.len e (List.mem_append_left _ he)]; omega
    have hsb : ¬ s.hasB b := hne b (by simp [D.hasB])
    have gs2 : Gr H2 H2 sz s el ∨ ∃ b' ex' el0, s = .slice b' 0 sz el.length el.length ex' ∧ H1.next ≤ b' ∧ b' < H2.next ∧ H2.blk b' = .cells el0.flatten false ∧ D.less el0 el := by
      rcases gs.at_ with ⟨h, h'⟩ | ⟨b', ex', el0, rfl, h1', h2', h3', h4'⟩
      · exact .inl ⟨.refl, gs.len, .inl ⟨h, h'⟩⟩
      · refine .inr ⟨b', ex', el0, rfl, h1', by omega, ?_, h4'⟩
        have hb : ¬ b' = b := fun e => hsb (by simp only [D.hasB]; omega);rw [k2 b' (by simp only [D.hasB]; exact hb)]; exact h3'
    have gs3 : ∃ H3, Gr H3 H2 sz s el ∧ H3.next = min H1.next H2.next ∧ ∀ x, H3.blk x = H2.blk x := by
      rcases gs2 with g | ⟨b', ex', el0, rfl, h1', h2', h3', h4'⟩
      · rcases g.at_ with h | ⟨b', ex', el0, rfl, h1', h2', _, _⟩
        · exact ⟨⟨min H1.next H2.next, H2.blk⟩, ⟨⟨by simp; omega, fun _ _ => rfl⟩, g.len, .inl h⟩, rfl, fun _ => rfl⟩
        · omega
      · exact ⟨⟨min H1.next H2.next, H2.blk⟩, ⟨⟨by simp; omega, fun _ _ => rfl⟩, gs.len, .inr ⟨b', ex', el0, rfl, by simp; omega, h2', h3', h4'⟩⟩, rfl, fun _ => rfl⟩
    obtain ⟨H3, g3, n3, _⟩ := gs3
    have hcell : (pre ++ [[s]]).flatten[pre.length]? = some s := by
      rw [List.flatten_append, List.getElem?_append_right (by omega), hpre]; simp
    have hset : (pre ++ [[s]]).flatten.set pre.length (D.row sz .p el) = (pre ++ [[D.row sz .p el]]).flatten := by
      rw [List.flatten_append, List.flatten_append, List.set_append, if_neg (by omega), hpre]; simp
    obtain ⟨H4, w4, c4, k4, n4, sub4⟩ := g3.incell h3 hcell hsb;rw [hset] at c4;have hn0 := g.sub.next
    have h3n : H0.next ≤ H3.next := by rw [n3]; omega
    refine ⟨H4, fun a fr => (w a fr).trans (w4 a fr), ⟨sub4 H0 g2.gr.sub h3n h1, fun e he => ?_, .inr ⟨b, ex, pre ++ [[.row sz .p el]], by simp, h1, by omega, c4, D.less_refl _⟩⟩, fun x hx hx2 => ?_, by omega⟩
    · rcases List.mem_append.1 he with he | he
      · exact g.len e (List.mem_append_left _ he)
      · simp at he; subst he; rfl
    · rw [k4 x (fun e => hx (by simp only [D.hasB]; omega)) hx2, k2 x hx]
theorem Gr.far (g : Gr H0 H sz s el) {x : Nat} (h : s.hasB x) : H0.next ≤ x ∧ x < H.next := by
  rcases g.at_ with ⟨rfl, _⟩ | ⟨b, ex, el0, rfl, h1, h2, _⟩
  · simp [D.hasB] at h
  · simp only [D.hasB] at h; subst h; exact ⟨h1, h2⟩
theorem Gr.rest {H3 : HpD} (g : Gr H0 H sz s el) (hn : H.next ≤ H3.next) (hk : ∀ x, s.hasB x → H3.blk x = H.blk x) : Gr ⟨H0.next, H3.blk⟩ H3 sz s el := by
  refine ⟨⟨Nat.le_trans g.sub.next hn, fun _ _ => rfl⟩, g.len, ?_⟩;rcases g.at_ with h | ⟨b, ex, el0, rfl, h1, h2, h3, h4⟩
  · exact .inl h
  · exact .inr ⟨b, ex, el0, rfl, h1, by omega, by rw [hk b (by simp only [D.hasB])]; exact h3, h4⟩
theorem Gr.base {H1 : HpD} (g : Gr H1 H sz s el) (h : Sub H0 H1) : Gr H0 H sz s el := by
  refine ⟨h.trans g.sub, g.len, ?_⟩;rcases g.at_ with h2 | ⟨b, ex, el0, rfl, h1, h2, h3, h4⟩
  · exact .inl h2
  · exact .inr ⟨b, ex, el0, rfl, Nat.le_trans h.next h1, h2, h3, h4⟩
theorem WeakV.part1 {b o n cap : Nat} {ex ro : Bool} {cs : List D} (hb : H.blk b = .cells cs ro) (he : ∀ e, e ∈ el → e.length = sz) (hl : el.length = n) (hc : (cs.drop o).take (n * sz) = el.flatten) (hn : n ≤ cap) :
    WeakV (.slice b o sz n cap ex) H (.row sz .p el) (H.put b .gone) := by
  intro ψ S h v sr kv
  obtain ⟨c, h1, h2, l', h3, h4⟩ : ∃ c, ψ b = some c ∧ ¬ S c ∧ ∃ l', h.blk c = .cells l' ro ∧ VDl h ψ S cs l' := by
    obtain ⟨c, h1, h2, h3⟩ := sr.live b (by rw [hb]; rfl);rw [hb] at h3;exact ⟨c, h1, h2, h3⟩
  obtain ⟨x0, s0⟩ := sr.freeze h1;refine ⟨ψ, _, x0, s0, ?_⟩;simp only [VD] at kv ⊢;obtain ⟨c', e, rfl⟩ := kv;rw [h1] at e; cases e;refine .inr ⟨c, o, cap, ex, by rw [hl], by rw [hl]; exact hn, fun e => (by cases e), .inr ⟨l', ro, .inr rfl, h3, ?_⟩⟩;have k1 := VDl.take (n * sz) (VDl.drop o h4);rw [hc] at k1;have := VDss.of (us := (l'.drop o).drop (n * sz)) he (VDl.mono x0 _ k1)
  rwa [List.take_append_drop] at this
structure Part (H0 H : HpD) (sz : Nat) (s : D) (el : List (List D)) : Prop where
  sub : Sub H0 H
  len : ∀ e, e ∈ el → e.length = sz
  at_ : (s = .lit .nilslice ∧ el = []) ∨ ∃ b o cap ex cs, s = .slice b o sz el.length cap ex ∧ el.length ≤ cap ∧ H0.next ≤ b ∧ b < H.next ∧ H.blk b = .cells cs false ∧ (cs.drop o).take (el.length * sz) = el.flatten
theorem Part.fin {H0 H : HpD} {s : D} (g : Part H0 H sz s el) : ∃ H2, WeakV s H (.row sz .p el) H2 ∧ Sub H0 H2 := by
  rcases g.at_ with ⟨rfl, rfl⟩ | ⟨b, o, cap, ex, cs, rfl, h0, h1, h2, h3, h4⟩
  · exact ⟨H, .le (by simp [D.le]), g.sub⟩
  · exact ⟨_, WeakV.part1 h3 g.len rfl h4 h0, g.sub.put h1⟩
theorem splice_one {x : D} : ∀ {cs : List D} {i : Nat}, i < cs.length → spliceD cs i [x] = cs.set i x
  | [], _, h => by simp at h
  | c :: cs, 0, _ => by simp [spliceD_zero]
  | c :: cs, i + 1, h => by rw [spliceD_succ, splice_one (by simpa using h)]; rfl
theorem splice_take {x : List D} : ∀ {cs : List D} {i : Nat}, i ≤ cs.length → (spliceD cs i x).take i = cs.take i
  | cs, 0, _ => by simp
  | [], i + 1, h => by simp at h
  | c :: cs, i + 1, h => by rw [spliceD_succ]; simp only [List.take_succ_cons]; rw [splice_take (by simpa using h)]
end Go.Dv
end

section
set_option maxRecDepth 10000
namespace Go.Lib
open Go.Vm Go.Dv Go.Srt
variable {p : Prog} {ext : Ext} {F : Nat → Nat}
structure HRef15 (p : Prog) (ext : Ext) (F : Nat → Nat) : Prop where
  ref6 : HRef6 p ext F
  h53 : Has p ext F 53 M53
  h54 : Has p ext F 54 M54
  h55 : Has p ext F 55 M55
  h56 : Has p ext F 56 M56
  h57 : Has p ext F 57 M57
  h58 : Has p ext F 58 M58
  h59 : Has p ext F 59 M59
  h60 : Has p ext F 60 M60
theorem cmpR_ord {ks : List Int} : Ord3 (GoodR ks) cmpR := ⟨fun x y hx hy => cmpRow_ord.sym x y hx.kin hy.kin, fun x y z hx hy hz => cmpRow_ord.tr x y z hx.kin hy.kin hz.kin⟩
theorem cmpR_zero {ks : List Int} : ∀ x y, GoodR ks x → GoodR ks y → cmpR x y = 0 → x = y := fun _ _ hx hy h => cmpRow_zero hx hy h
end Go.Lib
end

section
set_option maxRecDepth 10000
namespace Go.Lib
open Go.Vm Go.Dv Go.Srt
variable {p : Prog} {ext : Ext} {F : Nat → Nat}
def colF1 (cols : List Int) (r : Row) : Row := cols.map fun c => atV r c
def colsF (cols : List Int) (l : List Row) : List Row := l.map (colF1 cols)
theorem colF1_len {cols : List Int} {r : Row} : (colF1 cols r).length = cols.length := by simp [colF1]
theorem colsF_len {cols : List Int} {l : List Row} : (colsF cols l).length = l.length := by simp [colsF]
theorem colF1_get {cols : List Int} {r : Row} {i : Nat} {c : Int} (h : cols[i]? = some c) : (colF1 cols r)[i]? = some (atV r c) := by simp [colF1, h]
theorem colsF_get {cols : List Int} {l : List Row} {i : Nat} {r : Row} (h : l[i]? = some r) : (colsF cols l)[i]? = some (colF1 cols r) := by simp [colsF, h]
theorem colsF_good {ks cols : List Int} {l : List Row} (hg : GoodRs ks l) (hc : ∀ c, c ∈ cols → InK ks c) : GoodRs (cols.map fun c => (ks[c.toNat]?).getD 0) (colsF cols l) := by
  intro x hx;obtain ⟨r, hr, rfl⟩ := List.mem_map.1 hx;refine ⟨?_, fun v hv => ?_⟩
  · unfold Kin colF1
    rw [List.map_map];exact List.map_congr_left fun c h => ((hg r hr).at_ (hc c h)).1
  · obtain ⟨c, h, rfl⟩ := List.mem_map.1 hv
    exact ((hg r hr).at_ (hc c h)).2
theorem colsF_fine {cols : List Int} {l : List Row} (hl : Fine l) (hc : cols.length < 1000000) : Fine (colsF cols l) :=
  ⟨by rw [colsF_len]; exact hl.1, fun x hx => by obtain ⟨r, _, rfl⟩ := List.mem_map.1 hx; rw [colF1_len]; exact hc⟩
end Go.Lib
end

section
set_option maxRecDepth 10000
namespace Go.Lib
open Go.Vm Go.Dv Go.Srt
variable {p : Prog} {ext : Ext} {F : Nat → Nat}
theorem aggr_sort (L : HAggr p ext F) {ks : List Int} {l : List Row} (hl : Fine l) (hg : GoodRs ks l) : FnD p ext (F 33) [rowsD l] (rowsD (sortL cmpR l)) :=
  own_fn (fun _ => (aggr_sort_own L hl fun r hr => (hg r hr).kin).mono fun d H' ⟨l', g, hp1, hs⟩ => by
    rw [srt_sort cmpR_ord cmpR_zero hg hp1 hs] at g; exact g) fun _ => rows_underss
def AColsI (H0 : HpD) (l : List Row) (m : Md) (cols : List Int) (k : Nat) (fr : FrD) (H : HpD) : Prop :=
  ∃ (i : Nat) (s : D), k = l.length - i ∧ i ≤ l.length ∧ fr = [(1, intsD m cols), (5, s), (11, rowsD l), (12, .lit (.int .i64 (l.length : Int))), (13, .lit (.int .i64 (i : Int)))] ∧ Gr H0 H 1 s (rowsE ((colsF cols l).take i))
def ACols2I (H0 : HpD) (l : List Row) (m : Md) (cols : List Int) (i : Nat) (s : D) (r : Row) (k : Nat) (fr : FrD) (H : HpD) : Prop :=
  ∃ (j : Nat) (t : D), k = cols.length - j ∧ j ≤ cols.length ∧ fr = [(1, intsD m cols), (5, s), (7, rowD r), (8, t), (11, rowsD l), (12, .lit (.int .i64 (l.length : Int))), (13, .lit (.int .i64 (i : Int))), (17, intsD m cols), (18, .lit (.int .i64 (cols.length : Int))), (19, .lit (.int .i64 (j : Int)))] ∧ Gr H0 H 4 t (rowE ((colF1 cols r).take j))
theorem aggr_cols (L : HAggr p ext F) {ks cols : List Int} {m : Md} {l : List Row} (hl : Fine l) (hg : GoodRs ks l) (hcl : cols.length < 1000) (hc : ∀ c, c ∈ cols → InK ks c) : FnD p ext (F 34) [rowsD l, intsD m cols] (rowsD (sortL cmpR (colsF cols l))) := by
  refine fn_of L.h34 (M := M34) rfl ok34 rfl fun H => sem_run 9000 _ ?_;simp;have hl1 := hl.1;refine sem_loop (AColsI H l m cols) ?_ (k := l.length) ⟨0, .lit .nilslice, by simp, by simp, rfl, by simpa [rowsE] using Gr.start⟩;rintro k fr H' ⟨i, s, rfl, hi, rfl, g⟩;refine sem_run 9000 _ ?_;simp
  by_cases c : i < l.length
  · obtain ⟨r, hr⟩ : ∃ r, l[i]? = some r := ⟨l[i], by simp⟩
    simp [c, hr, -getElem?_pos];refine sem_loop (ACols2I H' l m cols i s r) ?_ (k := cols.length) ⟨0, .lit .nilslice, by simp, by simp, rfl, by simpa [rowE] using Gr.start⟩;rintro k fr H2 ⟨j, t, rfl, hj, rfl, g2⟩;refine sem_run 9000 _ ?_;simp
    by_cases c2 : j < cols.length
    · obtain ⟨x, hx⟩ : ∃ x, cols[j]? = some x := ⟨cols[j], by simp⟩
      have wj : wr .i64 ((j : Int) + 1) = ((j + 1 : Nat) : Int) := by rw [wr_of] <;> omega
      simp [c2, hx, -getElem?_pos];refine sem_fn (schm_at L.schm) (by first | exact D.les_refl _ | simp) (sem_run 9000 _ ?_);simp;refine sem_push (g2.mono (by repeat (first | exact Sub.refl | apply Sub.new | refine Sub.put ?_ (by first | omega | (simp only [put_next, new_next]; omega))))) rfl rfl (roomyD (by simp [row_len]; omega) (by simp [row_len]; omega)) fun s' H3 g3 _ _ => ?_;simp;refine sem_ok ?_;rw [rowE_snoc (colF1_get hx)] at g3;exact ⟨_, by omega, j + 1, s', rfl, by omega, by rw [wj], g3⟩
    · have : j = cols.length := by omega
      subst this;simp;have e : (colF1 cols r).take cols.length = colF1 cols r := List.take_of_length_le (by rw [colF1_len]; exact Nat.le_refl _);rw [e] at g2;refine sem_turn_exit g2 8 (by simp) fun H3 s3 k3 n3 => ?_;refine sem_exit (sem_run 9000 _ ?_);simp;refine sem_push_le [rowD (colF1 cols r)] (g.mono s3) (by simp [rowD]) rfl rfl (roomyD (by simp; omega) (by simp; omega)) fun s' H4 g4 _ _ => ?_;simp;refine sem_ok ?_
      have wi : wr .i64 ((i : Int) + 1) = ((i + 1 : Nat) : Int) := by rw [wr_of] <;> omega
      rw [rowsE_snoc (colsF_get hr)] at g4;exact ⟨_, by omega, i + 1, s', rfl, by omega, by rw [wi], g4⟩
  · have : i = l.length := by omega
    subst this;simp;refine sem_exit (sem_run 9000 _ ?_);have e : (colsF cols l).take l.length = colsF cols l := List.take_of_length_le (by rw [colsF_len]; exact Nat.le_refl _);rw [e] at g;simp;refine sem_row g 0 rfl fun H2 s2 _ _ => ?_;refine sem_fn (aggr_sort L (colsF_fine hl (by omega)) (colsF_good hg hc)) (by simp [rowsD]) (sem_run 9000 _ ?_);simp;refine sem_ret ?_;simp [M34];exact .le s2 (D.le_refl _) (by simp)
theorem aggr_more (L : HAggr p ext F) (hx : ∀ args h, ext (F 45) args h = extV .add64 args h) {a b : Int} (ha : In64 a) (hb : In64 b) : FnD p ext (F 40) [.lit (.int .i64 a), .lit (.int .i64 b)] (.tup [.lit (.int .i64 (wr .i64 ((a + b) % 18446744073709551616))), .lit (.bool (decide (In64 (a + b))))]) := by
  refine fn_of L.h40 (M := M40) rfl ok40 rfl fun H => sem_run 9000 _ ?_;simp;have ha' := ha;have hb' := hb;unfold In64 at ha' hb'
  have e0 : (H.new (.cells [.lit (.int .i64 0), .lit (.int .u64 0)] false)).blk H.next = .cells [hiT 0, loT 0] false := by simp [hiT, loT]
  refine sem_call (wide_add L hx (t := 0) (n := a) e0 (by simp) (by omega) ha) ?_;rintro _ H2 ⟨rfl, rfl⟩;refine sem_run 9000 _ ?_;simp;refine sem_call (wide_add L hx (t := 0 + a) (n := b) (by simp) (by simp) (by omega) hb) ?_;rintro _ H2 ⟨rfl, rfl⟩;refine sem_run 9000 _ ?_;simp;have he := wide_end (t := 0 + a + b) (by omega)
  have e1 : (0 : Int) + a + b = a + b := by omega
  rw [e1] at he;simp [hiT, loT, shr63]
  have hd : decide ((a + b) / 18446744073709551616 = wr .i64 ((a + b) % 18446744073709551616) / 9223372036854775808) = decide (In64 (a + b)) := by
    by_cases h : In64 (a + b)
    · rw [decide_eq_true h, decide_eq_true]
      exact Decidable.byContradiction fun h2 => he.1 h2 h
    · rw [decide_eq_false h, decide_eq_false (he.2 h)]
  rw [hd];refine sem_ret ?_;simp [M40];exact .le (by repeat (first | exact Sub.refl | apply Sub.new | refine Sub.put ?_ (by first | omega | (simp only [put_next, new_next]; omega)))) (D.le_refl _) (by simp)
structure Sx where
  col : Int
  add : Bool
  v : Vl
def Sx.c (x : Sx) : List D := .lit (.int .i64 x.col) :: .lit (.bool x.add) :: x.v.c
def sxsE (l : List Sx) : List (List D) := l.map Sx.c
def sxsD (l : List Sx) : D := .row 6 .p (sxsE l)
theorem sxs_len {l : List Sx} : (sxsE l).length = l.length := by simp [sxsE]
theorem lenb_sxs {l : List Sx} : lenbD (sxsD l) = some (.lit (.int .i64 (l.length : Int))) := by simp [sxsD, sxs_len]
theorem at_sxs {l : List Sx} {n : Nat} : atO 6 (sxsD l) (some n) = elemD (l[n]?.map Sx.c) := by simp [sxsD, sxsE]
theorem sx_len {a : Sx} : a.c.length = 6 := rfl
theorem sx_flats {a : Sx} : flatsD a.c = true := rfl
theorem sx_take {a : Sx} : a.c.take 6 = a.c := rfl
theorem sx_drop {a : Sx} : a.c.drop 6 = [] := rfl
theorem sx_0 {a : Sx} : a.c[0]? = some (.lit (.int .i64 a.col)) := rfl
theorem sx_1 {a : Sx} : a.c[1]? = some (.lit (.bool a.add)) := rfl
theorem sx_4 {a : Sx} : a.c[4]? = some (.lit (.int .i64 a.v.n)) := rfl
theorem sx_v {a : Sx} : (a.c.drop 2).take 4 = a.v.c := rfl
theorem sx_unders {n : Nat} {a : Sx} : D.unders n a.c := by simp [Sx.c]
attribute [simp] sxs_len lenb_sxs at_sxs sx_len sx_flats sx_take sx_drop sx_0 sx_1 sx_4 sx_v sx_unders
def withN (v : Vl) (n : Int) : Vl := ⟨v.null, v.kind, n, v.bytes, v.small⟩
def setS (r : Row) (x : Sx) : Option Row :=
  if x.col < 0 ∨ (r.length : Int) ≤ x.col then some r else
  if x.add = false then some (r.set x.col.toNat x.v) else
  if (atV r x.col).null = true then some r else
  if In64 ((atV r x.col).n + x.v.n) then some (r.set x.col.toNat (withN (atV r x.col) ((atV r x.col).n + x.v.n))) else none
def setF : Row → List Sx → Option Row
  | r, [] => some r
  | r, x :: l => match setS r x with
    | some r' => setF r' l
    | none => none
def setD (o : Option Row) : D := .tup [rowD (o.getD []), .lit (.bool o.isSome)]
theorem row_own (L : HSchm p ext F) {r : Row} {H : HpD} (hr : r.length < 1000000) : WcD p ext (F 4) [rowD r] H (fun d H' => Gr H H' 4 d (rowE r)) := by
  refine wc_of L.h4 (M := M4) rfl ok4 rfl (sem_run 9000 _ ?_);simp;refine sem_loop (RowI H r) ?_ (k := r.length) ⟨0, .lit .nilslice, by simp, by simp, rfl, by simpa [rowE] using Gr.start⟩;rintro k fr H' ⟨i, s, rfl, hi, rfl, g⟩;refine sem_run 9000 _ ?_;simp
  by_cases c : i < r.length
  · have hx : r[i]? = some r[i] := by simp
    simp [c];refine sem_fn (schm_val L) (by first | exact D.les_refl _ | simp) (sem_run 9000 _ ?_);simp;refine sem_push (g.mono (by repeat (first | exact Sub.refl | apply Sub.new | refine Sub.put ?_ (by first | omega | (simp only [put_next, new_next]; omega))))) rfl rfl (roomyD (by simp; omega) (by simp; omega)) fun s' H1 g1 _ _ => ?_;simp;refine sem_ok ?_
    have hw : wr .i64 ((i : Int) + 1) = ((i + 1 : Nat) : Int) := by rw [wr_of] <;> omega
    rw [rowE_snoc hx] at g1;exact ⟨_, by omega, i + 1, s', rfl, by omega, by rw [hw], g1⟩
  · simp [c]
    refine sem_exit (sem_run 9000 _ ?_)
    have : i = r.length := by omega
    subst this;rw [List.take_length] at g;simp;refine sem_call (clip4_own L g) fun d H2 g2 => ?_;refine sem_run 9000 _ ?_;simp;refine sem_ret ?_;simp [M4];exact g2
def SetI (H0 : HpD) (r0 : Row) (l : List Sx) (k : Nat) (fr : FrD) (H : HpD) : Prop :=
  ∃ (i : Nat) (r : Row) (s : D), k = l.length - i ∧ i ≤ l.length ∧ r.length = r0.length ∧ (∀ v, v ∈ r → In64 v.n) ∧ setF r0 l = setF r (l.drop i) ∧ fr = [(6, s), (14, sxsD l), (15, .lit (.int .i64 (l.length : Int))), (16, .lit (.int .i64 (i : Int)))] ∧ Gr H0 H 4 s (rowE r)
theorem aggr_set_own (L : HAggr p ext F) (hx : ∀ args h, ext (F 45) args h = extV .add64 args h) {r : Row} {l : List Sx} {H : HpD} (hr : r.length < 1000) (hl : l.length < 1000) (hn : ∀ v, v ∈ r → In64 v.n) (hv : ∀ x, x ∈ l → In64 x.v.n) : WcD p ext (F 35) [rowD r, sxsD l] H (fun d H' => (∃ r' s', setF r l = some r' ∧ d = .tup [s', .lit (.bool true)] ∧ Gr H H' 4 s' (rowE r')) ∨ setF r l = none ∧ d = .tup [.lit .nilslice, .lit (.bool false)] ∧ Sub H H') := by
  refine wc_of L.h35 (M := M35) rfl ok35 rfl (sem_run 9000 _ ?_);simp;refine sem_call (row_own L.schm (by omega)) fun d H1 g1 => ?_;refine sem_run 9000 _ ?_;simp;refine sem_loop (SetI H r l) ?_ (k := l.length) ⟨0, r, d, by simp, by simp, rfl, hn, by simp, rfl, g1⟩;rintro k fr H' ⟨i, r', s, rfl, hi, hlen, hn', hset, rfl, g⟩;refine sem_exact g fun H2 gx _ _ => ?_;refine sem_run 9000 _ ?_;simp
  have wi : wr .i64 ((i : Int) + 1) = ((i + 1 : Nat) : Int) := by rw [wr_of] <;> omega
  by_cases c : i < l.length
  · obtain ⟨x, hx'⟩ : ∃ x, l[i]? = some x := ⟨l[i], by simp⟩
    have hdrop : l.drop i = x :: l.drop (i + 1) := by
      rw [List.drop_eq_getElem_cons c]; congr; exact (List.getElem?_eq_some_iff.1 hx').2
    rw [hdrop] at hset;have hxn := hv x (List.mem_of_getElem? hx')
    by_cases c0 : x.col < 0
    · simp [c, hx', c0, -getElem?_pos]
      refine sem_ok ?_;exact ⟨_, by omega, i + 1, r', s, rfl, by omega, hlen, hn', by rw [hset, setF, setS, if_pos (.inl c0)], by rw [wi], gx.gr.mono (by repeat (first | exact Sub.refl | apply Sub.new | refine Sub.put ?_ (by first | omega | (simp only [put_next, new_next]; omega))))⟩
    · obtain ⟨n, hn0⟩ : ∃ n : Nat, x.col = n := ⟨x.col.toNat, by omega⟩
      have hnn : ¬ (n : Int) < 0 := by omega
      by_cases c1 : r'.length ≤ n
      · simp [c, hx', hn0, hnn, c1, gx.gr.lenb, -getElem?_pos]
        refine sem_ok ?_;exact ⟨_, by omega, i + 1, r', s, rfl, by omega, hlen, hn', by rw [hset, setF, setS, if_pos (.inr (by omega))], by rw [wi], gx.gr.mono (by repeat (first | exact Sub.refl | apply Sub.new | refine Sub.put ?_ (by first | omega | (simp only [put_next, new_next]; omega))))⟩
      · rcases gx.at_ with ⟨rfl, he⟩ | ⟨b, ex, rfl, h1, h2, h3⟩
        · have : r' = [] := by simpa [rowE] using he
          subst this; simp at c1
        · have hnl : n < r'.length := by omega
          obtain ⟨v, hv'⟩ : ∃ v, r'[n]? = some v := ⟨r'[n], by simp⟩
          have hat : atV r' x.col = v := by rw [hn0, atV, if_neg (by omega)]; simp [hv']
          have hve : (rowE r')[n]? = some v.c := by simp [rowE, hv']
          have hne : b ≠ H2.next := by omega
          have hnl4 : n * 4 + 4 ≤ (rowE r').flatten.length := by rw [flatten_len row_four, row_len]; omega
          have gxk : ∀ H3, Sub H2 H3 → H3.blk b = H2.blk b → GrX H H3 4 (.slice b 0 4 (rowE r').length (rowE r').length ex) (rowE r') := fun H3 hs hb => gx.keep hs fun y hy => by simp only [D.hasB] at hy; subst hy; exact hb
          have hin : ∀ y, y ∈ r'.set n x.v → In64 y.n := fun y hy => by
            rcases List.mem_or_eq_of_mem_set hy with hy | rfl
            · exact hn' y hy
            · exact hxn
          have hlt1 : b < H2.next + 1 := by omega
          by_cases ca : x.add = true
          · have f0 : (rowE r').flatten[n * 4]? = some (.lit (.bool v.null)) := flat_get (j := 0) row_four hve (by omega)
            have f2 : (rowE r').flatten[n * 4 + 2]? = some (.lit (.int .i64 v.n)) := flat_get (j := 2) row_four hve (by omega);have hvi := hn' v (List.mem_of_getElem? hv')
            cases hvn : v.null with
            | true =>
              simp [c, hx', hn0, hnn, c1, hnl, ca, hne, h3, f0, hvn, -getElem?_pos, -List.length_flatten];refine sem_ok ?_;refine ⟨_, by omega, i + 1, r', _, rfl, by omega, hlen, hn', ?_, by rw [wi], by simpa using (gxk _ (by repeat (first | exact Sub.refl | apply Sub.new | refine Sub.put ?_ (by first | omega | (simp only [put_next, new_next]; omega)))) (by simp [hne])).gr⟩;rw [hset, setF, setS, if_neg (by omega), if_neg (by simp [ca]), hat, if_pos hvn]
            | false =>
              simp [c, hx', hn0, hnn, c1, hnl, ca, hne, h3, f0, f2, hvn, hlt1, -getElem?_pos, -List.length_flatten];refine sem_dfn (aggr_more L hx hvi hxn) (by first | exact D.les_refl _ | simp) (sem_run 9000 _ ?_)
              by_cases ci : In64 (v.n + x.v.n)
              · have hnl3 : n * 4 + 2 + 1 ≤ (rowE r').flatten.length := by omega
                simp [ci, hne, h3, hnl3, wide_low ci, -List.length_flatten];refine sem_ok ?_;have g3 := (gxk ((H2.new (.cells [.lit (.int .i64 0), .lit (.bool false), .lit (.bool false), .lit (.int .i64 0), .lit (.int .i64 0), .lit .nilslice] false)).put H2.next (.cells x.c false)) (by repeat (first | exact Sub.refl | apply Sub.new | refine Sub.put ?_ (by first | omega | (simp only [put_next, new_next]; omega)))) (by simp [hne])).cell (x := .lit (.int .i64 (v.n + x.v.n))) (j := 2) hve (by omega) h1 (by simp; omega)
                have e : (rowE r').set n (v.c.set 2 (.lit (.int .i64 (v.n + x.v.n)))) = rowE (r'.set n (withN v (v.n + x.v.n))) := by unfold rowE; rw [List.map_set]; rfl
                rw [e] at g3;refine ⟨_, by omega, i + 1, r'.set n (withN v (v.n + x.v.n)), _, rfl, by omega, by simpa using hlen, fun y hy => ?_, ?_, by rw [wi], by simpa using g3.gr⟩
                · rcases List.mem_or_eq_of_mem_set hy with hy | rfl
                  · exact hn' y hy
                  · exact ci
                · rw [hset, setF, setS, if_neg (by omega), if_neg (by simp [ca]), hat, if_neg (by simp [hvn]), if_pos ci, hn0]; rfl
              · simp [ci]
                refine sem_ret ?_;simp;refine sem_ret ?_;simp [M35];refine ⟨?_, (by have := gx.gr.sub.next; repeat (first | exact gx.gr.sub | apply Sub.new | refine Sub.put ?_ (by first | omega | (simp only [put_next, new_next]; omega))))⟩;rw [hset, setF, setS, if_neg (by omega), if_neg (by simp [ca]), hat, if_neg (by simp [hvn]), if_neg ci]
          · simp [c, hx', hn0, hnn, c1, hnl, ca, -getElem?_pos, -List.length_flatten]
            refine sem_fn (schm_val L.schm (v := x.v)) (by first | exact D.les_refl _ | simp) (sem_run 9000 _ ?_);simp [hne, h3, hnl4, -List.length_flatten];refine sem_ok ?_;have g3 := (gxk ((H2.new (.cells [.lit (.int .i64 0), .lit (.bool false), .lit (.bool false), .lit (.int .i64 0), .lit (.int .i64 0), .lit .nilslice] false)).put H2.next (.cells x.c false)) (by repeat (first | exact Sub.refl | apply Sub.new | refine Sub.put ?_ (by first | omega | (simp only [put_next, new_next]; omega)))) (by simp [hne])).whole (x := x.v.c) hve rfl h1 (by simp; omega)
            have e : (rowE r').set n x.v.c = rowE (r'.set n x.v) := by unfold rowE; rw [List.map_set]
            rw [e] at g3;refine ⟨_, by omega, i + 1, r'.set n x.v, _, rfl, by omega, by simpa using hlen, hin, ?_, by rw [wi], by simpa using g3.gr⟩;rw [hset, setF, setS, if_neg (by omega), if_pos (by simpa using ca), hn0]; rfl
  · have : i = l.length := by omega
    subst this;simp;refine sem_exit (sem_run 9000 _ ?_);simp;refine sem_ret ?_;simp [M35];rw [List.drop_length] at hset;exact ⟨r', hset, gx.gr⟩
theorem aggr_set (L : HAggr p ext F) (hx : ∀ args h, ext (F 45) args h = extV .add64 args h) {r : Row} {l : List Sx} (hr : r.length < 1000) (hl : l.length < 1000) (hn : ∀ v, v ∈ r → In64 v.n) (hv : ∀ x, x ∈ l → In64 x.v.n) : FnD p ext (F 35) [rowD r, sxsD l] (setD (setF r l)) := by
  intro H;refine WcD.drop ((aggr_set_own L hx hr hl hn hv).mono ?_);rintro d H' (⟨r', s', e, rfl, g⟩ | ⟨e, rfl, hs⟩)
  · obtain ⟨H2, w, s, u⟩ := g.fin row_underss (m := .p) (by simp)
    rw [e];exact ⟨_, H2, WeakV.tup2 w, s, by simp, rfl, rfl⟩
  · rw [e]
    exact ⟨_, H', WeakV.tup2 (WeakV.le (d' := rowD []) (by simp [rowD, rowE, D.le])), hs, by simp [row_under], rfl, rfl⟩
end Go.Lib
end

section
set_option maxRecDepth 10000
namespace Go.Lib
open Go.Vm Go.Dv Go.Srt
variable {p : Prog} {ext : Ext} {F : Nat → Nat}
theorem AgOk.good {ks : List Int} {l : List Row} {a : Ag} (hg : GoodRs ks l) (ha : InK ks a.col) : AgOk l a := fun _ r hr => ((hg r hr).at_ ha).2.int
def grpD (x : List Row × Bool) : D := .tup [rowsD x.1, .lit (.bool x.2)]
theorem aggr_groups (L : HAggr p ext F) (hx : ∀ args h, ext (F 45) args h = extV .add64 args h) {ks : List Int} {l : List Row} {c : Int} {ags : List Ag} (hl : Fine l) (hg : GoodRs ks l) (hc : c < ks.length) (ha : ∀ a, a ∈ ags → InK ks a.col) (hb : ags.length < 900) :
    FnD p ext (F 32) [rowsD l, .lit (.int .i64 c), agsD ags] (grpD (grpsF c ags l)) := by
  by_cases h : c < 0
  · have := groups_neg L hx (c := c) (ags := ags) hl (fun a h => AgOk.good hg (ha a h)) (by omega) h
    unfold grpsF;rw [if_pos h];exact this
  · intro H
    refine WcD.drop ((groups_pos L hx (H := H) (c := c) (k := (ks[c.toNat]?).getD 0) (ags := ags) hl (fun r hr => ((hg r hr).at_ ⟨by omega, hc⟩).1) (fun l' hl' a h => AgOk.good (ks := ks) (fun r hr => hg r (hl' r hr)) (ha a h)) hb h).mono ?_);rintro d H' ⟨⟨l', hp1, hs, rfl⟩, hsub⟩;rw [grp_srt ⟨by omega, hc⟩ ha hg hp1 hs];refine ⟨_, H', .refl, hsub, by simp [rows_under], ?_, rfl⟩;unfold grpsF grpD;rw [if_neg h]
theorem Fine.perm {l l' : List Row} (hp : l'.Perm l) (hl : Fine l) : Fine l' := ⟨by rw [hp.length_eq]; exact hl.1, fun r hr => hl.2 r (hp.mem_iff.1 hr)⟩
end Go.Lib
end

section
set_option maxRecDepth 10000
namespace Go.Lib
open Go.Vm Go.Dv Go.Srt
variable {p : Prog} {ext : Ext} {F : Nat → Nat}
inductive Pr where
  | mk (kind col op : Int) (v : Vl) (l : List Pr)
def Pr.kind : Pr → Int | .mk k _ _ _ _ => k
def Pr.col : Pr → Int | .mk _ c _ _ _ => c
def Pr.op : Pr → Int | .mk _ _ o _ _ => o
def Pr.v : Pr → Vl | .mk _ _ _ v _ => v
def Pr.l : Pr → List Pr | .mk _ _ _ _ l => l
mutual
def Pr.c : Pr → List D
  | .mk k c o v l => [.lit (.int .i64 k), .lit (.int .i64 c), .lit (.int .i64 o), .lit (.bool v.null), .lit (.int .i64 v.kind), .lit (.int .i64 v.n), byD v.bytes, .row 8 .p (Pr.cs l)]
def Pr.cs : List Pr → List (List D)
  | [] => []
  | p :: l => p.c :: Pr.cs l
end
theorem Pr.cs_map : ∀ {l : List Pr}, Pr.cs l = l.map Pr.c
  | [] => by simp [Pr.cs]
  | p :: l => by simp [Pr.cs, Pr.cs_map (l := l)]
def prsD (l : List Pr) : D := .row 8 .p (l.map Pr.c)
theorem pr_c {q : Pr} : q.c = [.lit (.int .i64 q.kind), .lit (.int .i64 q.col), .lit (.int .i64 q.op), .lit (.bool q.v.null), .lit (.int .i64 q.v.kind), .lit (.int .i64 q.v.n), byD q.v.bytes, prsD q.l] := by
  cases q; simp [Pr.c, Pr.kind, Pr.col, Pr.op, Pr.v, Pr.l, prsD, Pr.cs_map]
theorem pr_0 {q : Pr} : q.c[0]? = some (.lit (.int .i64 q.kind)) := by rw [pr_c]; rfl
theorem pr_1 {q : Pr} : q.c[1]? = some (.lit (.int .i64 q.col)) := by rw [pr_c]; rfl
theorem pr_2 {q : Pr} : q.c[2]? = some (.lit (.int .i64 q.op)) := by rw [pr_c]; rfl
theorem pr_7 {q : Pr} : q.c[7]? = some (prsD q.l) := by rw [pr_c]; rfl
theorem pr_len {q : Pr} : q.c.length = 8 := by rw [pr_c]; rfl
theorem pr_g {q : Pr} {i : Nat} {d : D} (h : q.c[i]? = some d) (hi : i < q.c.length) : q.c[i] = d := (List.getElem?_eq_some_iff.1 h).2
theorem pr_g0 {q : Pr} (h : 0 < q.c.length) : q.c[0] = .lit (.int .i64 q.kind) := pr_g pr_0 h
theorem pr_g1 {q : Pr} (h : 1 < q.c.length) : q.c[1] = .lit (.int .i64 q.col) := pr_g pr_1 h
theorem pr_g2 {q : Pr} (h : 2 < q.c.length) : q.c[2] = .lit (.int .i64 q.op) := pr_g pr_2 h
theorem pr_g7 {q : Pr} (h : 7 < q.c.length) : q.c[7] = prsD q.l := pr_g pr_7 h
theorem pr_v {q : Pr} : (q.c.drop 3).take 4 = q.v.c := by rw [pr_c]; rfl
theorem pr_take {q : Pr} : q.c.take 8 = q.c := List.take_of_length_le (by rw [pr_len]; exact Nat.le_refl _)
theorem pr_drop {q : Pr} : q.c.drop 8 = [] := List.drop_eq_nil_of_le (by rw [pr_len]; exact Nat.le_refl _)
theorem pr_flats {q : Pr} : flatsD q.c = true := by rw [pr_c]; rfl
theorem prs_len {l : List Pr} : lenbD (prsD l) = some (.lit (.int .i64 (l.length : Int))) := by simp [prsD]
theorem at_prs {l : List Pr} {n : Nat} : atO 8 (prsD l) (some n) = elemD (l[n]?.map Pr.c) := by simp [prsD]
theorem pr_unders {n : Nat} : ∀ q : Pr, D.unders n q.c := by
  have key : ∀ (k : Nat) (q : Pr), SizeOf.sizeOf q < k → D.unders n q.c := by
    intro k
    induction k with
    | zero => intro q h; omega
    | succ k ih =>
      intro q h
      cases q with
      | mk kd c o v l =>
        simp only [Pr.c, Pr.cs_map, D.unders, D.under, by_under, true_and, and_true]
        have : ∀ l' : List Pr, (∀ q, q ∈ l' → D.unders n q.c) → D.underss n (l'.map Pr.c) := by
          intro l'
          induction l' with
          | nil => intro _; simp [D.underss]
          | cons q l' ih2 => intro h; simp only [List.map_cons, D.underss]; exact ⟨h q (by simp), ih2 fun x hx => h x (by simp [hx])⟩
        refine this l fun q hq => ih q ?_;have := List.sizeOf_lt_of_mem hq;simp at h; omega
  exact fun q => key (SizeOf.sizeOf q + 1) q (by omega)
theorem prs_under {n : Nat} {l : List Pr} : (prsD l).under n := by simp only [prsD, D.under]; exact underss_map (fun q => pr_unders q) _
theorem cellsD_prs {l : List Pr} : cellsD (prsD l) = some [prsD l] := rfl
theorem prs_flat {l : List Pr} : flatD (prsD l) = true := rfl
attribute [simp] pr_g0 pr_g1 pr_g2 pr_g7 pr_0 pr_1 pr_2 pr_7 pr_len pr_v pr_take pr_drop pr_flats prs_len at_prs pr_unders prs_under cellsD_prs prs_flat
def truthF (b : Bool) : Int := if b then 1 else 2
def notF (n : Int) : Int := if n = 1 then 2 else if n = 2 then 1 else 3
def holdsF (o c : Int) : Bool := if o = 1 then decide (c = 0) else if o = 2 then decide (¬ c = 0) else if o = 3 then decide (c < 0) else if o = 4 then decide (c ≤ 0) else if o = 5 then decide (0 < c) else if o = 6 then decide (0 ≤ c) else false
mutual
def evalF : Pr → Row → Int
  | .mk k c o v l, r => if k = 1 then 1 else if k = 2 then (if (atV r c).null = true then 3 else truthF (holdsF o (cmpV (atV r c) v))) else if k = 3 then truthF (atV r c).null
      else if k = 4 then listF l r 2 1 else if k = 5 then listF l r 1 2 else if k = 6 then headF l r else 3
def headF : List Pr → Row → Int
  | [], _ => 3
  | p :: _, r => notF (evalF p r)
def listF : List Pr → Row → Int → Int → Int
  | [], _, _, cur => cur
  | p :: l, r, d, cur => if evalF p r = d then d else listF l r d (if evalF p r = 3 then 3 else cur)
end
theorem evalF_eq {q : Pr} {r : Row} : evalF q r = if q.kind = 1 then 1 else if q.kind = 2 then (if (atV r q.col).null = true then 3 else truthF (holdsF q.op (cmpV (atV r q.col) q.v))) else if q.kind = 3 then truthF (atV r q.col).null
      else if q.kind = 4 then listF q.l r 2 1 else if q.kind = 5 then listF q.l r 1 2 else if q.kind = 6 then headF q.l r else 3 := by
  cases q; simp only [evalF, Pr.kind, Pr.col, Pr.op, Pr.v, Pr.l]; rfl
structure HPred (p : Prog) (ext : Ext) (F : Nat → Nat) : Prop where
  schm : HSchm p ext F
  h65 : Has p ext F 65 M65
  h66 : Has p ext F 66 M66
  h67 : Has p ext F 67 M67
  h68 : Has p ext F 68 M68
  h69 : Has p ext F 69 M69
theorem pred_truth (L : HPred p ext F) {b : Bool} : FnD p ext (F 67) [.lit (.bool b)] (.lit (.int .i64 (truthF b))) := by
  refine fn_of L.h67 (M := M67) rfl ok67 rfl fun H => sem_run 9000 _ ?_;simp
  cases b with
  | true =>
    simp;refine sem_ret ?_;simp [M67, truthF];exact .same (by simp)
  | false =>
    simp;refine sem_ret ?_;simp [M67, truthF];exact .same (by simp)
theorem pred_not (L : HPred p ext F) {n : Int} : FnD p ext (F 69) [.lit (.int .i64 n)] (.lit (.int .i64 (notF n))) := by
  refine fn_of L.h69 (M := M69) rfl ok69 rfl fun H => sem_run 9000 _ ?_;simp
  by_cases h1 : n = 1
  · simp [h1]
    refine sem_ret ?_;simp [M69, notF];exact .same (by simp)
  · by_cases h2 : n = 2
    · simp [h2]
      refine sem_ret ?_;simp [M69, notF];exact .same (by simp)
    · simp [h1, h2]
      refine sem_ret ?_;simp [M69, notF, h1, h2];exact .same (by simp)
theorem pred_holds (L : HPred p ext F) {o c : Int} : FnD p ext (F 66) [.lit (.int .i64 o), .lit (.int .i64 c)] (.lit (.bool (holdsF o c))) := by
  refine fn_of L.h66 (M := M66) rfl ok66 rfl fun H => sem_run 9000 _ ?_;simp
  by_cases h1 : o = 1
  · simp [h1]
    refine sem_ret ?_;simp [M66, holdsF];exact .same (by simp)
  · by_cases h2 : o = 2
    · simp [h2]
      refine sem_ret ?_;simp [M66, holdsF];exact .same (by simp)
    · by_cases h3 : o = 3
      · simp [h3]
        refine sem_ret ?_;simp [M66, holdsF];exact .same (by simp)
      · by_cases h4 : o = 4
        · simp [h4]
          refine sem_ret ?_;simp [M66, holdsF];exact .same (by simp)
        · by_cases h5 : o = 5
          · simp [h5]
            refine sem_ret ?_;simp [M66, holdsF];exact .same (by simp)
          · by_cases h6 : o = 6
            · simp [h6]
              refine sem_ret ?_;simp [M66, holdsF];exact .same (by simp)
            · simp [h1, h2, h3, h4, h5, h6]
              refine sem_ret ?_;simp [M66, holdsF, h1, h2, h3, h4, h5, h6];exact .same (by simp)
def PListI (H0 : HpD) (r : Row) (l : List Pr) (d oth : Int) (k : Nat) (fr : FrD) (H : HpD) : Prop :=
  ∃ (i : Nat) (cur : Int), k = l.length - i ∧ i ≤ l.length ∧ listF l r d oth = listF (l.drop i) r d cur ∧ fr = [(1, rowD r), (2, .lit (.int .i64 d)), (9, .lit (.int .i64 cur)), (15, prsD l), (16, .lit (.int .i64 (l.length : Int))), (17, .lit (.int .i64 (i : Int)))] ∧ Sub H0 H
theorem pred_list (L : HPred p ext F) {q : Pr} {r : Row} {d oth : Int} (hl : q.l.length < 1000) (ih : ∀ x, x ∈ q.l → FnD p ext (F 65) [.agg x.c, rowD r] (.lit (.int .i64 (evalF x r)))) : FnD p ext (F 68) [.agg q.c, rowD r, .lit (.int .i64 d), .lit (.int .i64 oth)] (.lit (.int .i64 (listF q.l r d oth))) := by
  refine fn_of L.h68 (M := M68) rfl ok68 rfl fun H => sem_run 9000 _ ?_;simp;refine sem_loop (PListI H r q.l d oth) ?_ (k := q.l.length) ⟨0, oth, by simp, by simp, by simp, rfl, (by repeat (first | exact Sub.refl | apply Sub.new | refine Sub.put ?_ (by first | omega | (simp only [put_next, new_next]; omega))))⟩;rintro k fr H' ⟨i, cur, rfl, hi, hc, rfl, hs⟩;refine sem_run 9000 _ ?_;simp
  by_cases c : i < q.l.length
  · obtain ⟨x, hx⟩ : ∃ x, q.l[i]? = some x := ⟨q.l[i], by simp⟩
    have hdrop : q.l.drop i = x :: q.l.drop (i + 1) := by
      rw [List.drop_eq_getElem_cons c]; congr; exact (List.getElem?_eq_some_iff.1 hx).2
    rw [hdrop] at hc
    have wi : wr .i64 ((i : Int) + 1) = ((i + 1 : Nat) : Int) := by rw [wr_of] <;> omega
    simp [c, hx, -getElem?_pos];refine sem_fn (ih x (List.mem_of_getElem? hx)) (by first | exact D.les_refl _ | simp) (sem_run 9000 _ ?_)
    by_cases c1 : evalF x r = d
    · simp [c1]
      refine sem_ret ?_;simp;refine sem_ret ?_;simp [M68];exact .le (by have := hs.next; repeat (first | exact hs | apply Sub.new | refine Sub.put ?_ (by first | omega | (simp only [put_next, new_next]; omega)))) (by rw [hc, listF, if_pos c1]; exact D.le_refl _) trivial
    · by_cases c2 : evalF x r = 3
      · have c1' : ¬ 3 = d := c2 ▸ c1
        simp [c1', c2];refine sem_ok ?_;exact ⟨q.l.length - (i + 1), by omega, i + 1, 3, rfl, by omega, by rw [hc, listF, if_neg c1, if_pos c2], by rw [wi], (by have := hs.next; repeat (first | exact hs | apply Sub.new | refine Sub.put ?_ (by first | omega | (simp only [put_next, new_next]; omega))))⟩
      · simp [c1, c2]
        refine sem_ok ?_;exact ⟨q.l.length - (i + 1), by omega, i + 1, cur, rfl, by omega, by rw [hc, listF, if_neg c1, if_neg c2], by rw [wi], (by have := hs.next; repeat (first | exact hs | apply Sub.new | refine Sub.put ?_ (by first | omega | (simp only [put_next, new_next]; omega))))⟩
  · have : i = q.l.length := by omega
    subst this;simp;refine sem_exit (sem_run 9000 _ ?_);simp;refine sem_ret ?_;simp [M68];exact .le (by have := hs.next; repeat (first | exact hs | apply Sub.new | refine Sub.put ?_ (by first | omega | (simp only [put_next, new_next]; omega)))) (by rw [hc, List.drop_length, listF]; exact D.le_refl _) trivial
def PrS : Nat → Pr → Prop
  | 0, _ => False
  | n + 1, q => q.l.length < 1000 ∧ ∀ x, x ∈ q.l → PrS n x
theorem pred_eval1 (L : HPred p ext F) {q : Pr} {r : Row} (hl : q.l.length < 1000) (ih : ∀ x, x ∈ q.l → FnD p ext (F 65) [.agg x.c, rowD r] (.lit (.int .i64 (evalF x r)))) : FnD p ext (F 65) [.agg q.c, rowD r] (.lit (.int .i64 (evalF q r))) := by
  refine fn_of L.h65 (M := M65) rfl ok65 rfl fun H => sem_run 9000 _ ?_;simp;rw [evalF_eq]
  by_cases h1 : q.kind = 1
  · simp [h1]
    refine sem_ret ?_;simp [M65];exact .same (by simp)
  · by_cases h2 : q.kind = 2
    · simp [h2]
      refine sem_fn (schm_at L.schm) (by first | exact D.les_refl _ | simp) (sem_run 9000 _ ?_);simp
      cases hn : (atV r q.col).null with
      | true =>
        simp;refine sem_ret ?_;simp [M65];exact .le (by repeat (first | exact Sub.refl | apply Sub.new | refine Sub.put ?_ (by first | omega | (simp only [put_next, new_next]; omega)))) (by simp) (by simp)
      | false =>
        simp;refine sem_dfn (schm_compare L.schm) (by first | exact D.les_refl _ | simp) (sem_run 9000 _ ?_);simp;refine sem_dfn (pred_holds L) (by first | exact D.les_refl _ | simp) (sem_run 9000 _ ?_);simp;refine sem_dfn (pred_truth L) (by first | exact D.les_refl _ | simp) (sem_run 9000 _ ?_);simp;refine sem_ret ?_;simp [M65];exact .le (by repeat (first | exact Sub.refl | apply Sub.new | refine Sub.put ?_ (by first | omega | (simp only [put_next, new_next]; omega)))) (by simp) (by simp)
    · by_cases h3 : q.kind = 3
      · simp [h3]
        refine sem_fn (schm_at L.schm) (by first | exact D.les_refl _ | simp) (sem_run 9000 _ ?_);simp;refine sem_fn (pred_truth L) (by first | exact D.les_refl _ | simp) (sem_run 9000 _ ?_);simp;refine sem_ret ?_;simp [M65];exact .same (by simp)
      · by_cases h4 : q.kind = 4
        · simp [h4]
          refine sem_fn (pred_list L hl ih) (by first | exact D.les_refl _ | simp) (sem_run 9000 _ ?_);simp;refine sem_ret ?_;simp [M65];exact .same (by simp)
        · by_cases h5 : q.kind = 5
          · simp [h5]
            refine sem_fn (pred_list L hl ih) (by first | exact D.les_refl _ | simp) (sem_run 9000 _ ?_);simp;refine sem_ret ?_;simp [M65];exact .same (by simp)
          · by_cases h6 : q.kind = 6
            · cases hq : q.l with
              | nil =>
                simp [h6, hq];refine sem_ret ?_;simp [M65, headF];exact .same (by simp)
              | cons x l =>
                have hx : q.l[0]? = some x := by rw [hq]; rfl
                simp [h6, hq];refine sem_fn (ih x (by rw [hq]; simp)) (by first | exact D.les_refl _ | simp) (sem_run 9000 _ ?_);simp;refine sem_fn (pred_not L) (by first | exact D.les_refl _ | simp) (sem_run 9000 _ ?_);simp;refine sem_ret ?_;simp [M65, headF];exact .same (by simp)
            · simp [h1, h2, h3, h4, h5, h6]
              refine sem_ret ?_;simp [M65];exact .same (by simp)
theorem pred_eval (L : HPred p ext F) : ∀ (n : Nat) (q : Pr), PrS n q → ∀ r : Row, FnD p ext (F 65) [.agg q.c, rowD r] (.lit (.int .i64 (evalF q r)))
  | 0, _, h, _ => h.elim
  | n + 1, _, h, r => pred_eval1 L h.1 fun x hx => pred_eval L n x (h.2 x hx) r
end Go.Lib
end

section
set_option maxRecDepth 10000
namespace Go.Lib
open Go.Vm Go.Dv Go.Srt
variable {p : Prog} {ext : Ext} {F : Nat → Nat}
theorem clip_tight (L : HAggr p ext F) {H0 H : HpD} {s : D} {el : List (List D)} (g : Gr H0 H 1 s el) : WcD p ext (F 39) [s] H (fun d H' => Gr H0 H' 1 d el ∧ ∀ b o z n c, ¬ d = .slice b o z n c false) := by
  refine wc_of L.h39 (M := M39) rfl ok39 rfl (sem_run 9000 _ ?_);rcases g.at_ with ⟨rfl, rfl⟩ | ⟨b, ex, el0, rfl, h1, h2, h3, h4⟩
  · simp [slc_nil]
    refine sem_ret ?_;simp [M39];exact g
  · simp [slc_own]
    refine sem_ret ?_;simp [M39];exact ⟨g.sub, g.len, .inr ⟨b, true, el0, rfl, h1, h2, h3, h4⟩⟩
structure HModl (p : Prog) (ext : Ext) (F : Nat → Nat) : Prop where
  aggr : HAggr p ext F
  pred : HPred p ext F
  x45 : ∀ args h, ext (F 45) args h = extV .add64 args h
  h70 : Has p ext F 70 M70
  h71 : Has p ext F 71 M71
  h72 : Has p ext F 72 M72
  h73 : Has p ext F 73 M73
  h74 : Has p ext F 74 M74
  h75 : Has p ext F 75 M75
  h76 : Has p ext F 76 M76
  h77 : Has p ext F 77 M77
  h78 : Has p ext F 78 M78
  h79 : Has p ext F 79 M79
  h80 : Has p ext F 80 M80
  h81 : Has p ext F 81 M81
  h82 : Has p ext F 82 M82
structure GrT (H0 H : HpD) (s : D) (R : List Row) : Prop where
  x : GrX H0 H 1 s (rowsE R)
  tight : ∀ b o z n c, ¬ s = .slice b o z n c false
theorem GrT.at_ {H0 H : HpD} {s : D} {R : List Row} (g : GrT H0 H s R) : (s = .lit .nilslice ∧ R = []) ∨ ∃ b, s = .slice b 0 1 R.length R.length true ∧ H0.next ≤ b ∧ b < H.next ∧ H.blk b = .cells (rowsE R).flatten false := by
  rcases g.x.at_ with ⟨h, h'⟩ | ⟨b, ex, rfl, h1, h2, h3⟩
  · exact .inl ⟨h, by simpa [rowsE] using h'⟩
  · have : ex = true := by
      cases ex with
      | true => rfl
      | false => exact absurd rfl (g.tight _ _ _ _ _)
    subst this;exact .inr ⟨b, by simp, h1, h2, h3⟩
theorem GrT.keep {H0 H H1 : HpD} {s : D} {R : List Row} (g : GrT H0 H s R) (hs : Sub H H1) (hk : ∀ x, s.hasB x → H1.blk x = H.blk x) : GrT H0 H1 s R := ⟨g.x.keep hs hk, g.tight⟩
theorem GrT.far {H0 H H1 : HpD} {s : D} {R : List Row} (g : GrT H0 H s R) (hs : Sub H H1) : GrT H0 H1 s R := g.keep hs fun x hx => hs.blk x (g.x.gr.far hx).2
theorem mstill_own (L : HModl p ext F) {l : List Row} {H : HpD} (hl : Fine l) : WcD p ext (F 72) [rowsD l] H (fun d H' => Gr H H' 1 d (rowsE l) ∧ ∀ b o z n c, ¬ d = .slice b o z n c false) := by
  refine wc_of L.h72 (M := M72) rfl ok72 rfl (sem_run 9000 _ ?_);simp;refine sem_loop (StillI H l) ?_ (k := l.length) ⟨0, .lit .nilslice, by simp, by simp, rfl, by simpa [rowsE] using Gr.start⟩;rintro k fr H' ⟨i, s, rfl, hi, rfl, g⟩;refine sem_run 9000 _ ?_;simp;have hl1 := hl.1
  by_cases c : i < l.length
  · have hx : l[i]? = some l[i] := by simp
    have hr := hl.2 l[i] (by simp);simp [c];refine sem_fn (schm_row L.aggr.schm hr) (by first | exact D.les_refl _ | simp) (sem_run 9000 _ ?_);simp;refine sem_push (g.mono (by repeat (first | exact Sub.refl | apply Sub.new | refine Sub.put ?_ (by first | omega | (simp only [put_next, new_next]; omega))))) rfl rfl (roomyD (by simp; omega) (by simp; omega)) fun s' H1 g1 _ _ => ?_;simp;refine sem_ok ?_
    have hw : wr .i64 ((i : Int) + 1) = ((i + 1 : Nat) : Int) := by rw [wr_of] <;> omega
    rw [rowsE_snoc hx] at g1;exact ⟨_, by omega, i + 1, s', rfl, by omega, by rw [hw], g1⟩
  · simp [c]
    refine sem_exit (sem_run 9000 _ ?_)
    have : i = l.length := by omega
    subst this;rw [List.take_length] at g;simp;refine sem_call (clip_tight L.aggr g) fun d H2 g2 => ?_;refine sem_run 9000 _ ?_;simp;refine sem_ret ?_;simp [M72];exact g2
def keyF (r : Row) : Int := (atV r 0).n
theorem modl_key (L : HModl p ext F) {r : Row} : FnD p ext (F 78) [rowD r] (.lit (.int .i64 (keyF r))) := by
  refine fn_of L.h78 (M := M78) rfl ok78 rfl fun H => sem_run 9000 _ ?_;simp;refine sem_fn (schm_at L.aggr.schm) (by first | exact D.les_refl _ | simp) (sem_run 9000 _ ?_);simp;refine sem_ret ?_;simp [M78, keyF];exact .same (by simp)
theorem modl_insert1 (L : HModl p ext F) {r : Row} {k : Int} : FnD p ext (F 80) [rowD r, .lit (.int .i64 k)] (.lit (.int .i64 (cmpI (keyF r) k))) := by
  refine fn_of L.h80 (M := M80) rfl ok80 rfl fun H => sem_run 9000 _ ?_;simp;refine sem_fn (modl_key L) (by first | exact D.les_refl _ | simp) (sem_run 9000 _ ?_);simp;refine sem_fn (compare_int64 L.aggr.schm) (by first | exact D.les_refl _ | simp) (sem_run 9000 _ ?_);simp;refine sem_ret ?_;simp [M80];exact .same (by simp)
def KeyRise (R : List Row) : Prop := R.Pairwise fun a b => keyF a < keyF b
theorem shr1 {n : Int} : shrI .u64 n 1 = n / 2 := by
  rw [shr_eq, Int.fdiv_eq_ediv_of_nonneg _ (by decide)]
  rfl
def KeyAt (R : List Row) (k : Int) (i : Nat) : Prop := i ≤ R.length ∧ (∀ q r, q < i → R[q]? = some r → keyF r < k) ∧ ∀ q r, i ≤ q → R[q]? = some r → k ≤ keyF r
def BsI (s : D) (R : List Row) (k : Int) (cv : D) (w : Nat) (fr : FrD) (H' : HpD) (H : HpD) : Prop :=
  ∃ i j : Nat, w = j - i ∧ i ≤ j ∧ j ≤ R.length ∧ (∀ q r, q < i → R[q]? = some r → keyF r < k) ∧ (∀ q r, j ≤ q → R[q]? = some r → k ≤ keyF r) ∧
    fr = [(0, s), (1, .lit (.int .i64 k)), (2, cv), (8, .lit (.int .i64 (R.length : Int))), (9, .lit (.int .i64 (i : Int))), (10, .lit (.int .i64 (j : Int)))] ∧ H' = H
def hasK (R : List Row) (k : Int) (i : Nat) : Bool := match R[i]? with
  | some r => decide (keyF r = k)
  | none => false
theorem cell_row {R : List Row} {h : Nat} {r : Row} (hr : R[h]? = some r) : (rowsE R).flatten[h]? = some (rowD r) := by
  have e : (rowsE R)[h]? = some [rowD r] := by simp [rowsE, hr]
  simpa using flat_get (j := 0) rows_one e (by omega)
theorem bsearch (L : HModl p ext F) {H0 H : HpD} {s : D} {R : List Row} {k : Int} (g : GrT H0 H s R) (hl : R.length < 1000000) (hk : KeyRise R) : WcD p ext (F 79) [s, .lit (.int .i64 k), .func (F 80) [] []] H (fun d H' => H' = H ∧ ∃ i, KeyAt R k i ∧ d = .tup [.lit (.int .i64 (i : Int)), .lit (.bool (hasK R k i))]) := by
  refine wc_of L.h79 (M := M79) rfl ok79 rfl (sem_run 9000 _ ?_);simp
  have hlen : lenbD s = some (.lit (.int .i64 (R.length : Int))) := by rw [g.x.gr.lenb, rows_len]
  simp [hlen];refine sem_loop (fun w fr H' => BsI s R k (.func (F 80) [] []) w fr H' H) ?_ (k := R.length) ⟨0, R.length, by simp, by simp, by simp, fun q r h => by omega, fun q r h1 h2 => by have := (List.getElem?_eq_some_iff.1 h2).1; omega, rfl, rfl⟩;rintro w fr H' ⟨i, j, rfl, hij, hj, hlo, hhi, rfl, rfl⟩;refine sem_run 9000 _ ?_;simp
  by_cases c : i < j
  · rcases g.at_ with ⟨rfl, rfl⟩ | ⟨b, rfl, h1, h2, h3⟩
    · simp at hj; omega
    · obtain ⟨m, hm⟩ : ∃ m, m = (i + j) / 2 := ⟨_, rfl⟩
      obtain ⟨r, hr⟩ : ∃ r, R[m]? = some r := ⟨R[m]'(by omega), by simp⟩
      have w1 : wr .i64 ((i : Int) + j) = (i : Int) + j := by rw [wr_of] <;> omega
      have w2 : wr .u64 ((i : Int) + j) = (i : Int) + j := by rw [wr_u64m]; omega
      have w3 : shrI .u64 ((i : Int) + j) 1 = (m : Int) := by rw [shr1]; omega
      have w4 : wr .i64 (m : Int) = (m : Int) := by rw [wr_of] <;> omega
      have w5 : wr .i64 ((m : Int) + 1) = ((m + 1 : Nat) : Int) := by rw [wr_of] <;> omega
      have hml : m < R.length := by omega
      have hc := cell_row hr;simp [c, w1, w2, w3, w4, hml, h3, hc, -List.length_flatten];refine sem_fn (modl_insert1 L (r := r) (k := k)) (by first | exact D.les_refl _ | simp) (sem_run 9000 _ ?_)
      have hmono : ∀ p q x y, p < q → R[p]? = some x → R[q]? = some y → keyF x < keyF y := fun p q x y hpq hx hy => by
        obtain ⟨hp', rfl⟩ := List.getElem?_eq_some_iff.1 hx;obtain ⟨hq', rfl⟩ := List.getElem?_eq_some_iff.1 hy;exact List.pairwise_iff_getElem.1 hk p q hp' hq' hpq
      by_cases cc : keyF r < k
      · have ci : cmpI (keyF r) k < 0 := by unfold cmpI; rw [if_pos cc]; omega
        simp [ci, w5];refine sem_ok ?_;refine ⟨j - (m + 1), by omega, m + 1, j, rfl, by omega, hj, fun q x h1 h2 => ?_, hhi, by simp, rfl⟩
        by_cases e : q = m
        · subst e; rw [hr] at h2; cases h2; exact cc
        · have := hmono q m x r (by omega) h2 hr; omega
      · have ci : ¬ cmpI (keyF r) k < 0 := by unfold cmpI; rw [if_neg cc]; split <;> omega
        simp [ci];refine sem_ok ?_;refine ⟨m - i, by omega, i, m, rfl, by omega, by omega, hlo, fun q x h1 h2 => ?_, by simp, rfl⟩
        by_cases e : q = m
        · subst e; rw [hr] at h2; cases h2; omega
        · have := hmono m q r x (by omega) hr h2; omega
  · have : i = j := by omega
    subst this;simp;refine sem_exit (sem_run 9000 _ ?_);have hat : KeyAt R k i := ⟨hj, hlo, hhi⟩
    by_cases c2 : i < R.length
    · obtain ⟨r, hr⟩ : ∃ r, R[i]? = some r := ⟨R[i], by simp⟩
      have hc := cell_row hr;rcases g.at_ with ⟨rfl, rfl⟩ | ⟨b, rfl, h1, h2, h3⟩
      · simp at c2
      · simp [c2, h3, hc, -List.length_flatten]
        refine sem_fn (modl_insert1 L (r := r) (k := k)) (by first | exact D.les_refl _ | simp) (sem_run 9000 _ ?_);simp;refine sem_ret ?_;simp [M79];refine ⟨i, hat, rfl, ?_⟩;rw [hasK, hr];simp only [cmpI_eq]
    · simp [c2]
      refine sem_ret ?_;simp [M79];refine ⟨i, hat, rfl, ?_⟩
      have : R[i]? = none := by simp; omega
      rw [hasK, this]
theorem slc_from {sz b o n cap i : Nat} {ex : Bool} (h : i ≤ n) : slcD sz (.slice b o sz n cap ex) (some (.lit (.int .i64 (i : Int)))) none none = some (.slice b (o + i * sz) sz (n - i) (cap - i) ex) := by
  simp [slcD, bndD, slcV, sliceO, needH, boundM, boundH, boundL, ble_d, h]
theorem slc_to {sz b o n cap i : Nat} {ex : Bool} (h : i ≤ cap) : slcD sz (.slice b o sz n cap ex) none (some (.lit (.int .i64 (i : Int)))) none = some (.slice b o sz i cap ex) := by
  simp [slcD, bndD, slcV, sliceO, needH, boundM, boundH, boundL, ble_d, h]
theorem slc_nil0 {sz : Nat} : slcD sz (.lit .nilslice) (some (.lit (.int .i64 0))) none none = some (.lit .nilslice) := rfl
theorem caps_slice {b o sz n c : Nat} : capsD (.slice b o sz n c true) = some (.lit (.int .i64 (c : Int))) := rfl
theorem rep_nil {m : Nat} : repD (dVs [.nilslice]) m = List.replicate m (.lit .nilslice) := by
  induction m with
  | zero => rfl
  | succ m ih => rw [repD, ih]; rfl
theorem appz {H : HpD} {b n i m : Nat} {cs : List D} {ro : Bool} (hb : H.blk b = .cells cs ro) (hcs : cs.length = n) (hi : i ≤ n) (hm : n < i + m) (hl : i + m < 1000000000) :
    appendZD [.nilslice] 1 24 H (.slice b 0 1 i n true) (.lit (.int .i64 (m : Int))) = some (.slice H.next 0 1 (i + m) (i + m) false, H.new (.cells (cs.take i ++ List.replicate m (.lit .nilslice)) false)) := by
  obtain ⟨m', rfl⟩ : ∃ m', m = m' + 1 := ⟨m - 1, by omega⟩;have hr1 : roomy 24 (m' + 1) = true := roomyD (by omega) (by omega);have hr2 : roomy 24 (i + (m' + 1)) = true := roomyD (by omega) (by omega)
  have h1 : readD H b 0 (i * 1) = some (cs.take i) := by
    rw [readD_eq, hb]; simp; omega
  have h2 : ¬ i + (m' + 1) ≤ n := by omega
  unfold appendZD;simp only [natD_cast];simp only [hr1, cond_true];show appendCD 1 24 H (.slice b 0 1 i n true) (m' + 1) (repD (dVs [.nilslice]) (m' + 1)) = _;rw [rep_nil];unfold appendCD;simp only [beq_d, decide_true, cond_true, ble_d, h2, decide_false, cond_false, hr2, h1, growD]
theorem copy_row {H : HpD} {nb o len cap : Nat} {ex : Bool} {m : Md} {d : D} {cs : List D} (hb : H.blk nb = .cells cs false) (h1 : 1 ≤ len) (h2 : o + 1 ≤ cs.length) (hf : flatD d = true) :
    copyD H 1 (.slice nb o 1 len cap ex) (.row 1 m [[d]]) = some (.lit (.int .i64 1), H.put nb (.cells (spliceD cs o [d]) false)) := by
  have hmin : minN 1 len = 1 := by unfold minN; rw [ble_d]; simp [h1]
  have hw : writeD H nb o [d] = some (H.put nb (.cells (spliceD cs o [d]) false)) := by
    rw [writeD_eq, hb, writeBD_cells, if_pos ⟨h2, by simp [flatsD, hf]⟩]; rfl
  show cond (Nat.beq 1 1) (copyC H (minN 1 len) nb o (srcD H 1 (minN 1 len) (.row 1 m [[d]]))) none = _;rw [hmin]
  have hs : srcD H 1 1 (.row 1 m [[d]]) = some [d] := by cases m <;> rfl
  rw [hs]
  show (match writeD H nb o [d] with | some H' => some (D.lit (.int .i64 1), H') | none => none) = _
  rw [hw]
theorem copy_slice {H : HpD} {nb o len cap b o2 cap2 : Nat} {ex ex2 : Bool} {cs cs2 : List D} {ro : Bool} (hb : H.blk nb = .cells cs false) (hb2 : H.blk b = .cells cs2 ro) (h1 : 1 ≤ len) (h2 : o + len ≤ cs.length) (h3 : o2 + len ≤ cs2.length) (hf : flatsD ((cs2.drop o2).take len) = true) :
    copyD H 1 (.slice nb o 1 len cap ex) (.slice b o2 1 len cap2 ex2) = some (.lit (.int .i64 (len : Int)), H.put nb (.cells (spliceD cs o ((cs2.drop o2).take len)) false)) := by
  have hmin : minN len len = len := by unfold minN; rw [ble_d]; simp
  have hlen : ((cs2.drop o2).take len).length = len := by simp; omega
  have hw : writeD H nb o ((cs2.drop o2).take len) = some (H.put nb (.cells (spliceD cs o ((cs2.drop o2).take len)) false)) := by
    rw [writeD_eq, hb, writeBD_cells, if_pos ⟨by rw [hlen]; exact h2, hf⟩]; rfl
  show cond (Nat.beq 1 1) (copyC H (minN len len) nb o (srcD H 1 (minN len len) (.slice b o2 1 len cap2 ex2))) none = _;rw [hmin]
  have hs : srcD H 1 len (.slice b o2 1 len cap2 ex2) = some ((cs2.drop o2).take len) := by
    show cond (Nat.beq 1 1) (cond (Nat.ble len len) (readD H b o2 (len * 1)) none) none = _;rw [ble_d, readD_eq, hb2]; simp [h3]
  rw [hs];generalize hL : (cs2.drop o2).take len = L at *
  cases L with
  | nil => simp at hlen; omega
  | cons x L =>
    show (match writeD H nb o (x :: L) with | some H' => some (D.lit (.int .i64 (len : Int)), H') | none => none) = _
    rw [hw]
def putAt (R : List Row) (i : Nat) (r : Row) : List Row := R.take i ++ r :: R.drop i
theorem put_cells {A D0 M : List D} {x : D} (hm : M.length = D0.length + 1) : spliceD (spliceD (A ++ M) A.length [x]) (A.length + 1) D0 = A ++ x :: D0 := by
  have e1 : spliceD (A ++ M) A.length [x] = (A ++ [x]) ++ M.drop 1 := by
    have := splice_left (x := [x]) A M 0;rw [Nat.add_zero] at this;rw [this, spliceD_zero]; simp
  have e2 : A.length + 1 = (A ++ [x]).length + 0 := by simp
  rw [e1, e2, splice_left, spliceD_zero];have : (M.drop 1).drop D0.length = [] := List.drop_eq_nil_of_le (by simp; omega);rw [this]; simp
theorem sl_insert (L : HModl p ext F) {H0 H : HpD} {s : D} {R : List Row} {i : Nat} {r : Row} {m : Md} (g : GrT H0 H s R) (hl : R.length < 1000000) (hi : i ≤ R.length) : WcD p ext (F 81) [s, .lit (.int .i64 (i : Int)), .row 1 m [[rowD r]]] H (fun d H' => Gr H0 H' 1 d (rowsE (putAt R i r)) ∧ (∀ x, d.hasB x → H.next ≤ x) ∧ H.next ≤ H'.next ∧ ∀ x, x < H.next → ¬ s.hasB x → H'.blk x = H.blk x) := by
  refine wc_of L.h81 (M := M81) rfl ok81 rfl (sem_run 9000 _ ?_)
  have hlen : lenbD s = some (.lit (.int .i64 (R.length : Int))) := by rw [g.x.gr.lenb, rows_len]
  rcases g.at_ with ⟨rfl, rfl⟩ | ⟨b, rfl, h1, h2, h3⟩
  · simp at hi; subst hi
    simp [slc_nil0];refine sem_push g.x.gr rfl rfl (roomyD (by simp [rowsE]) (by simp [rowsE])) fun s' H1 g1 k1 n1 => ?_;obtain ⟨n1, rfl⟩ := n1;simp;refine sem_ret ?_;simp [M81];exact ⟨g1, fun x hx => by simp only [D.hasB] at hx; omega, n1, k1⟩
  · simp [slc_from hi]
    by_cases c : i = R.length
    · subst c
      simp;refine sem_push g.x.gr rfl rfl (roomyD (by simp; omega) (by simp; omega)) fun s' H1 g1 k1 n1 => ?_;obtain ⟨n1, rfl⟩ := n1;simp;refine sem_ret ?_;simp [M81]
      have e : rowsE (putAt R R.length r) = rowsE R ++ [[rowD r]] := by simp [putAt, rowsE]
      rw [e];exact ⟨by simpa using g1, fun x hx => by simp only [D.hasB] at hx; omega, n1, k1⟩
    · have c' : ¬ (i : Int) = (R.length : Int) := by omega
      have hlt : i < R.length := by omega
      obtain ⟨m', hm⟩ : ∃ m', R.length + 1 - i = m' := ⟨_, rfl⟩
      have w1 : wr .i64 ((R.length : Int) + 1) = (R.length : Int) + 1 := by rw [wr_of] <;> omega
      have w2 : wr .i64 ((R.length : Int) + 1 - (i : Int)) = (m' : Int) := by rw [wr_of] <;> omega
      have w3 : wr .i64 ((i : Int) + 1) = ((i + 1 : Nat) : Int) := by rw [wr_of] <;> omega
      have hgt : (R.length : Int) < (R.length : Int) + 1 := by omega
      have hfl : (rowsE R).flatten.length = R.length := by rw [flatten_len rows_one, rows_len]; omega
      obtain ⟨cs, hcs⟩ : ∃ cs, cs = (rowsE R).flatten := ⟨_, rfl⟩;rw [← hcs] at h3 hfl;have hap := appz (m := m') h3 hfl hi (by omega) (by omega)
      have hfs : flatsD ((cs.drop i).take (R.length - i)) = true := by
        have : ∀ l : List Row, flatsD (rowsE l).flatten = true := fun l => flatsD_flatten rows_flats
        have e : (cs.drop i).take (R.length - i) = (rowsE (R.drop i)).flatten := by
          rw [List.take_of_length_le (by simp; omega), hcs, rowsE_flat, rowsE_flat, List.map_drop]
        rw [e]; exact this _
      have hA : (cs.take i).length = i := by simp; omega
      have hc1 : i + 1 ≤ (cs.take i ++ List.replicate m' (D.lit .nilslice)).length := by simp; omega
      simp [c', w1, hgt, slc_to hi, caps_slice, w2, hap];rw [slc_from (i := i) (by omega)];simp;rw [copy_row (cs := cs.take i ++ List.replicate m' (.lit .nilslice)) (by simp) (by omega) hc1 (by simp)]
      have hs1 : slcD 1 (.slice H.next 0 1 (i + m') (i + m') false) (some (.lit (.int .i64 ((i : Int) + 1)))) none none = some (.slice H.next (0 + (i + 1) * 1) 1 (R.length - i) (R.length - i) false) := by
        have := slc_from (sz := 1) (b := H.next) (o := 0) (n := i + m') (cap := i + m') (i := i + 1) (ex := false) (by omega);rw [show i + m' - (i + 1) = R.length - i by omega] at this
        simpa using this
      have hc2 : i + 1 + (R.length - i) ≤ (spliceD (cs.take i ++ List.replicate m' (D.lit .nilslice)) i [rowD r]).length := by
        rw [spliceD_length (by simp; omega)]; simp; omega
      simp [w3, hs1, slc_from hi];rw [copy_slice (cs := spliceD (cs.take i ++ List.replicate m' (D.lit .nilslice)) i [rowD r]) (cs2 := cs) (ro := false) (by simp) (by rw [put_blk, if_neg (by omega), new_blk, if_neg (by omega)]; exact h3) (by omega) (by simpa using hc2) (by omega) hfs]
      have hfin : spliceD (spliceD (cs.take i ++ List.replicate m' (D.lit .nilslice)) i [rowD r]) (i + 1) ((cs.drop i).take (R.length - i)) = (rowsE (putAt R i r)).flatten := by
        have := put_cells (A := cs.take i) (D0 := (cs.drop i).take (R.length - i)) (M := List.replicate m' (D.lit .nilslice)) (x := rowD r) (by simp; omega);rw [hA] at this;rw [this, List.take_of_length_le (i := R.length - i) (l := cs.drop i) (by simp; omega), hcs, rowsE_flat, rowsE_flat, putAt, List.map_append, List.map_cons, List.map_take, List.map_drop]
        rfl
      simp [hfin];refine sem_ret ?_;simp [M81];refine ⟨⟨⟨Nat.le_trans g.x.gr.sub.next (by simp), fun x hx => ?_⟩, rows_one, .inr ⟨H.next, false, rowsE (putAt R i r), ?_, g.x.gr.sub.next, by simp, by simp, D.less_refl _⟩⟩, fun x hx => by simp only [D.hasB] at hx; omega, fun x hx _ => by rw [if_neg (by omega), if_neg (by omega)]⟩
      · have := g.x.gr.sub.next
        rw [put_blk, if_neg (by omega), new_blk, if_neg (by omega)];exact g.x.gr.sub.blk x hx
      · have e : (rowsE (putAt R i r)).length = i + m' := by simp [putAt]; omega
        rw [e]
structure Rs where
  err : Int
  n : Int
  rows : List Row
def Rs.c (x : Rs) : List D := [.lit (.int .i64 x.err), .lit (.int .i64 x.n), rowsD x.rows]
theorem rs_unders {n : Nat} {x : Rs} : D.unders n x.c := by simp [Rs.c, rows_under]
attribute [simp] rs_unders
theorem rows_nil : D.le (.lit .nilslice) (rowsD []) := by simp [rowsD, rowsE, D.le]
theorem modl_insert (L : HModl p ext F) {H0 H : HpD} {s : D} {R : List Row} {r : Row} (g : GrT H0 H s R) (hl : R.length < 1000000) (hk : KeyRise R) (hr : r.length < 1000000) : WcD p ext (F 74) [s, rowD r] H (fun d H' => ∃ i, KeyAt R (keyF r) i ∧ ((hasK R (keyF r) i = true ∧ d = .tup [s, .agg [.lit (.int .i64 1), .lit (.int .i64 0), .lit .nilslice]] ∧ Gr H0 H' 1 s (rowsE R)) ∨ (hasK R (keyF r) i = false ∧ ∃ s', d = .tup [s', .agg [.lit (.int .i64 0), .lit (.int .i64 1), .lit .nilslice]] ∧ Gr H0 H' 1 s' (rowsE (putAt R i r))))) := by
  refine wc_of L.h74 (M := M74) rfl ok74 rfl (sem_run 9000 _ ?_);simp;refine sem_fn (modl_key L) (by first | exact D.les_refl _ | simp) (sem_run 9000 _ ?_);simp;refine sem_call (bsearch L (g.far (by repeat (first | exact Sub.refl | apply Sub.new | refine Sub.put ?_ (by first | omega | (simp only [put_next, new_next]; omega))))) hl hk) ?_;rintro _ H2 ⟨rfl, i, hi, rfl⟩;refine sem_run 9000 _ ?_;simp
  cases hh : hasK R (keyF r) i with
  | true =>
    simp;refine sem_ret ?_;simp [M74];exact ⟨i, hi, hh, (g.far (by repeat (first | exact Sub.refl | apply Sub.new | refine Sub.put ?_ (by first | omega | (simp only [put_next, new_next]; omega))))).x.gr⟩
  | false =>
    simp;refine sem_fn (schm_row L.aggr.schm hr) (by first | exact D.les_refl _ | simp) (sem_run 9000 _ ?_);simp;refine sem_call (sl_insert L (g.far (by repeat (first | exact Sub.refl | apply Sub.new | refine Sub.put ?_ (by first | omega | (simp only [put_next, new_next]; omega))))) hl hi.1) fun d H3 g3 => ?_;obtain ⟨g3, f3, n3, k3⟩ := g3;simp at n3 f3
    have h5 : H3.blk H.next = .cells [.lit (.int .i64 0), .lit (.int .i64 0), .lit .nilslice] false := by
      rw [k3 H.next (by simp) (fun h => by have := (g.x.gr.far h).2; omega)]; simp
    have l5 : H.next < H3.next := by omega
    refine sem_run 9000 _ ?_;simp;simp [h5];refine sem_ret ?_;simp [M74];refine ⟨i, hi, hh, g3.keep (g3.sub.put g.x.gr.sub.next) (by simp) fun x hx => ?_⟩;rw [put_blk, if_neg (by have := f3 x hx; omega)]
def IxI (s : D) (R : List Row) (pf : Row → Bool) (cv : D) (w : Nat) (fr : FrD) (H' : HpD) (H : HpD) : Prop :=
  ∃ i : Nat, w = R.length - i ∧ i ≤ R.length ∧ (∀ q r, q < i → R[q]? = some r → pf r = false) ∧
    fr = [(0, s), (1, cv), (7, .lit (.int .i64 (R.length : Int))), (8, .lit (.int .i64 (i : Int)))] ∧ H' = H
def IxR (R : List Row) (pf : Row → Bool) (n : Int) : Prop := (n = -1 ∧ ∀ r, r ∈ R → pf r = false) ∨ ∃ i : Nat, n = i ∧ i < R.length ∧ (∀ q r, q < i → R[q]? = some r → pf r = false) ∧ ∀ r, R[i]? = some r → pf r = true
theorem indexFunc (L : HModl p ext F) {H0 H : HpD} {s : D} {R : List Row} {f : Nat} {cs : List D} {pf : Row → Bool} (g : GrT H0 H s R) (hl : R.length < 1000000) (hf : ∀ r, r ∈ R → FnD p ext f (rowD r :: cs) (.lit (.bool (pf r)))) : WcD p ext (F 82) [s, .func f [] cs] H (fun d H' => H' = H ∧ ∃ n, IxR R pf n ∧ d = .lit (.int .i64 n)) := by
  refine wc_of L.h82 (M := M82) rfl ok82 rfl (sem_run 9000 _ ?_);simp
  have hlen : lenbD s = some (.lit (.int .i64 (R.length : Int))) := by rw [g.x.gr.lenb, rows_len]
  simp [hlen];refine sem_loop (fun w fr H' => IxI s R pf (.func f [] cs) w fr H' H) ?_ (k := R.length) ⟨0, by simp, by simp, fun q r h => by omega, rfl, rfl⟩;rintro w fr H' ⟨i, rfl, hi, hlo, rfl, rfl⟩;refine sem_run 9000 _ ?_;simp
  by_cases c : i < R.length
  · rcases g.at_ with ⟨rfl, rfl⟩ | ⟨b, rfl, h1, h2, h3⟩
    · simp at c
    · obtain ⟨r, hr⟩ : ∃ r, R[i]? = some r := ⟨R[i], by simp⟩
      have hc := cell_row hr
      have wi : wr .i64 ((i : Int) + 1) = ((i + 1 : Nat) : Int) := by rw [wr_of] <;> omega
      simp [c, h3, hc, -List.length_flatten];refine sem_fn (hf r (List.mem_of_getElem? hr)) (by first | exact D.les_refl _ | simp) (sem_run 9000 _ ?_)
      cases hp : pf r with
      | true =>
        simp;refine sem_ret ?_;simp;refine sem_ret ?_;simp [M82];exact .inr ⟨i, rfl, c, hlo, fun x hx => by rw [hr] at hx; cases hx; exact hp⟩
      | false =>
        simp;refine sem_ok ?_;refine ⟨R.length - (i + 1), by omega, i + 1, rfl, by omega, fun q x h e => ?_, by rw [wi], rfl⟩
        by_cases e2 : q = i
        · subst e2; rw [hr] at e; cases e; exact hp
        · exact hlo q x (by omega) e
  · have : i = R.length := by omega
    subst this;simp;refine sem_exit (sem_run 9000 _ ?_);simp;refine sem_ret ?_;simp [M82];refine .inl ⟨rfl, fun r hr => ?_⟩;obtain ⟨q, hq⟩ := List.mem_iff_getElem?.1 hr;exact hlo q r (List.getElem?_eq_some_iff.1 hq).1 hq
theorem clear_slice {H : HpD} {b o n c : Nat} {ex : Bool} {cs : List D} (hb : H.blk b = .cells cs false) (h : o + n ≤ cs.length) :
    ∃ H' cs', clearD H [.nilslice] (.slice b o 1 n c ex) = some (.tup [], H') ∧ H'.next = H.next ∧ (∀ x, x ≠ b → H'.blk x = H.blk x) ∧ H'.blk b = .cells cs' false ∧ cs'.take o = cs.take o := by
  cases n with
  | zero => exact ⟨H, cs, rfl, rfl, fun _ _ => rfl, hb, rfl⟩
  | succ n =>
    refine ⟨H.put b (.cells (spliceD cs o (List.replicate (n + 1) (.lit .nilslice))) false), spliceD cs o (List.replicate (n + 1) (.lit .nilslice)), ?_, by simp, fun x hx => by rw [put_blk, if_neg hx], by simp, splice_take (by omega)⟩
    have hf : ∀ m, flatsD (List.replicate m (D.lit .nilslice)) = true := by
      intro m
      induction m with
      | zero => rfl
      | succ m ih => simp [List.replicate_succ, flatsD, ih]
    show cond (Nat.beq 1 1) (tupO (writeD H b o (repD (dVs [.nilslice]) (n + 1)))) none = _;rw [rep_nil, writeD_eq, hb, writeBD_cells, if_pos ⟨by simpa using h, hf _⟩]
    rfl
def keepF (pf : Row → Bool) (R : List Row) : List Row := R.filter fun r => !pf r
def DelI (H0 H : HpD) (b : Nat) (R : List Row) (pf : Row → Bool) (cv : D) (w : Nat) (fr : FrD) (H' : HpD) : Prop :=
  ∃ (i j : Nat) (cs : List D), w = R.length - j ∧ i ≤ j ∧ j ≤ R.length ∧ fr = [(0, .slice b 0 1 R.length R.length true), (1, cv), (5, .lit (.int .i64 (i : Int))), (6, .lit (.int .i64 (j : Int)))] ∧
    Sub H0 H' ∧ H'.next = H.next ∧ H'.blk b = .cells cs false ∧ cs.length = R.length ∧ i = (keepF pf (R.take j)).length ∧ cs.take i = (keepF pf (R.take j)).map rowD ∧ cs.drop j = (R.drop j).map rowD
theorem deleteFunc (L : HModl p ext F) {H0 H : HpD} {s : D} {R : List Row} {f : Nat} {cl : List D} {pf : Row → Bool} (g : GrT H0 H s R) (hl : R.length < 1000000) (hf : ∀ r, r ∈ R → FnD p ext f (rowD r :: cl) (.lit (.bool (pf r)))) : WcD p ext (F 76) [s, .func f [] cl] H (fun d H' => (d = .lit .nilslice ∧ keepF pf R = [] ∧ Sub H0 H') ∨ ∃ b cs, d = .slice b 0 1 (keepF pf R).length R.length true ∧ (keepF pf R).length ≤ R.length ∧ H0.next ≤ b ∧ b < H'.next ∧ H'.blk b = .cells cs false ∧ cs.take (keepF pf R).length = (keepF pf R).map rowD ∧ Sub H0 H') := by
  refine wc_of L.h76 (M := M76) rfl ok76 rfl (sem_run 9000 _ ?_);simp;refine sem_call (indexFunc L g hl hf) ?_;rintro _ H2 ⟨rfl, n, hn, rfl⟩;refine sem_run 9000 _ ?_;simp;rcases hn with ⟨rfl, hall⟩ | ⟨i0, rfl, hi0, hlo, hat⟩
  · have hk : keepF pf R = R := List.filter_eq_self.2 fun r hr => by simp [hall r hr]
    simp;refine sem_ret ?_;simp [M76];rcases g.at_ with ⟨rfl, rfl⟩ | ⟨b, rfl, h1, h2, h3⟩
    · left; exact ⟨rfl, rfl, g.x.gr.sub⟩
    · right
      rw [hk];refine ⟨b, by simp, Nat.le_refl _, h1, h2, _, h3, ?_, g.x.gr.sub⟩;rw [rowsE_flat, List.take_of_length_le (by simp)]; rfl
  · rcases g.at_ with ⟨rfl, rfl⟩ | ⟨b, rfl, h1, h2, h3⟩
    · simp at hi0
    · have hne : ¬ (i0 : Int) = -1 := by omega
      obtain ⟨r0, hr0⟩ : ∃ r, R[i0]? = some r := ⟨R[i0], by simp⟩;have hp0 := hat r0 hr0
      have w0 : wr .i64 ((i0 : Int) + 1) = ((i0 + 1 : Nat) : Int) := by rw [wr_of] <;> omega
      have hk0 : keepF pf (R.take i0) = R.take i0 := List.filter_eq_self.2 fun r hr => by
        obtain ⟨q, hq⟩ := List.mem_iff_getElem?.1 hr;rw [List.getElem?_take] at hq
        split at hq
        · simp [hlo q r (by assumption) hq]
        · cases hq
      have hk1 : keepF pf (R.take (i0 + 1)) = R.take i0 := by
        rw [List.take_add_one, hr0];unfold keepF at hk0 ⊢;rw [List.filter_append, hk0]; simp [hp0]
      simp [hne, w0];refine sem_loop (DelI H0 H2 b R pf (.func f [] cl)) ?_ (k := R.length - (i0 + 1)) ⟨i0, i0 + 1, (rowsE R).flatten, rfl, by omega, by omega, by simp, g.x.gr.sub, rfl, h3, by rw [rowsE_flat]; simp, by rw [hk1]; simp; omega, by rw [hk1, rowsE_flat, List.map_take]; rfl, by rw [rowsE_flat, List.map_drop]; rfl⟩;rintro w fr H3 ⟨i, j, cs, rfl, hij, hj, rfl, s3, n3, b3, hcl, hil, hci, hcj⟩;refine sem_run 9000 _ ?_;simp
      have lb : b < H3.next := by omega
      by_cases c : j < R.length
      · obtain ⟨r, hr⟩ : ∃ r, R[j]? = some r := ⟨R[j], by simp⟩
        have hcr : cs[j]? = some (rowD r) := by
          have := congrArg (fun l => l[0]?) hcj
          simpa [hr] using this
        have wj : wr .i64 ((j : Int) + 1) = ((j + 1 : Nat) : Int) := by rw [wr_of] <;> omega
        have wi : wr .i64 ((i : Int) + 1) = ((i + 1 : Nat) : Int) := by rw [wr_of] <;> omega
        have hdr : cs.drop (j + 1) = (R.drop (j + 1)).map rowD := by
          rw [← List.drop_drop, hcj, ← List.map_drop, List.drop_drop]
        simp [c, b3, hcr];refine sem_fn (hf r (List.mem_of_getElem? hr)) (by first | exact D.les_refl _ | simp) (sem_run 9000 _ ?_)
        cases hp : pf r with
        | true =>
          have hk : keepF pf (R.take (j + 1)) = keepF pf (R.take j) := by
            rw [List.take_add_one, hr]; unfold keepF; rw [List.filter_append]; simp [hp]
          simp;refine sem_ok ?_;exact ⟨R.length - (j + 1), by omega, i, j + 1, cs, rfl, by omega, by omega, by rw [wj], s3, n3, b3, hcl, by rw [hk]; exact hil, by rw [hk]; exact hci, hdr⟩
        | false =>
          have hk : keepF pf (R.take (j + 1)) = keepF pf (R.take j) ++ [r] := by
            rw [List.take_add_one, hr]; unfold keepF; rw [List.filter_append]; simp [hp]
          have il : i < R.length := by omega
          have hwl : i + 1 ≤ cs.length := by omega
          simp [il, b3, hwl];refine sem_ok ?_;refine ⟨R.length - (j + 1), by omega, i + 1, j + 1, cs.set i (rowD r), rfl, by omega, by omega, by rw [wj, wi], s3.put h1, by simpa using n3, by rw [put_blk, if_pos rfl, splice_one (by omega)], by simpa using hcl, by rw [hk]; simp; exact hil, ?_, ?_⟩
          · rw [hk, List.map_append, ← hci, List.take_add_one, List.take_set_of_le (Nat.le_refl _), List.getElem?_set_self (by omega)]; rfl
          · rw [List.drop_set_of_lt (by omega), hdr]
      · have : j = R.length := by omega
        subst this;rw [List.take_length] at hil hci;simp;refine sem_exit (sem_run 9000 _ ?_);have hir : i ≤ R.length := hij;obtain ⟨H4, cs', e4, n4, k4, b4, t4⟩ := clear_slice (o := i) (n := R.length - i) (c := R.length - i) (ex := true) b3 (by omega);simp [slc_from hir, slc_to hir, e4];refine sem_ret ?_;simp [M76];refine ⟨b, ⟨rfl, hil⟩, by omega, h1, by omega, cs', b4, ?_, ⟨by have := s3.next; omega, fun x hx => ?_⟩⟩
        · rw [← hil, t4, hci]
        · rw [k4 x (by omega)]; exact s3.blk x hx
structure Op where
  kind : Int
  row : Row
  pred : Pr
  sets : List Sx
  cols : List Int
  group : Int
  aggs : List Ag
def Op.c (o : Op) : List D := [.lit (.int .i64 o.kind), rowD o.row] ++ o.pred.c ++ [sxsD o.sets, intsD .p o.cols, .lit (.int .i64 o.group), agsD o.aggs]
theorem op_c {o : Op} : o.c = [.lit (.int .i64 o.kind), rowD o.row, .lit (.int .i64 o.pred.kind), .lit (.int .i64 o.pred.col), .lit (.int .i64 o.pred.op), .lit (.bool o.pred.v.null), .lit (.int .i64 o.pred.v.kind), .lit (.int .i64 o.pred.v.n), byD o.pred.v.bytes, prsD o.pred.l, sxsD o.sets, intsD .p o.cols, .lit (.int .i64 o.group), agsD o.aggs] := by
  rw [Op.c, pr_c]; rfl
theorem op_0 {o : Op} : o.c[0]? = some (.lit (.int .i64 o.kind)) := by rw [op_c]; rfl
theorem op_1 {o : Op} : o.c[1]? = some (rowD o.row) := by rw [op_c]; rfl
theorem op_10 {o : Op} : o.c[10]? = some (sxsD o.sets) := by rw [op_c]; rfl
theorem op_11 {o : Op} : o.c[11]? = some (intsD .p o.cols) := by rw [op_c]; rfl
theorem op_12 {o : Op} : o.c[12]? = some (.lit (.int .i64 o.group)) := by rw [op_c]; rfl
theorem op_13 {o : Op} : o.c[13]? = some (agsD o.aggs) := by rw [op_c]; rfl
theorem op_len {o : Op} : o.c.length = 14 := by rw [op_c]; rfl
theorem op_pred {o : Op} : (o.c.drop 2).take 8 = o.pred.c := by rw [op_c, pr_c]; rfl
theorem op_g {q : Op} {i : Nat} {d : D} (h : q.c[i]? = some d) (hi : i < q.c.length) : q.c[i] = d := (List.getElem?_eq_some_iff.1 h).2
theorem op_g0 {q : Op} (h : 0 < q.c.length) : q.c[0] = .lit (.int .i64 q.kind) := op_g op_0 h
theorem op_g1 {q : Op} (h : 1 < q.c.length) : q.c[1] = rowD q.row := op_g op_1 h
theorem op_g10 {q : Op} (h : 10 < q.c.length) : q.c[10] = sxsD q.sets := op_g op_10 h
theorem op_g11 {q : Op} (h : 11 < q.c.length) : q.c[11] = intsD .p q.cols := op_g op_11 h
theorem op_g12 {q : Op} (h : 12 < q.c.length) : q.c[12] = .lit (.int .i64 q.group) := op_g op_12 h
theorem op_g13 {q : Op} (h : 13 < q.c.length) : q.c[13] = agsD q.aggs := op_g op_13 h
theorem op_take {q : Op} : q.c.take 14 = q.c := List.take_of_length_le (by rw [op_len]; exact Nat.le_refl _)
theorem op_drop {q : Op} : q.c.drop 14 = [] := List.drop_eq_nil_of_le (by rw [op_len]; exact Nat.le_refl _)
theorem op_flats {q : Op} : flatsD q.c = true := by rw [op_c]; rfl
attribute [simp] op_0 op_1 op_10 op_11 op_12 op_13 op_len op_pred op_g0 op_g1 op_g10 op_g11 op_g12 op_g13 op_take op_drop op_flats
def pickF (o : Op) (r : Row) : Bool := decide (evalF o.pred r = 1)
theorem modl_do1 (L : HModl p ext F) {o : Op} {r : Row} {n : Nat} (hq : PrS n o.pred) : FnD p ext (F 73) [rowD r, .rptr o.c 0] (.lit (.bool (pickF o r))) := by
  refine fn_of L.h73 (M := M73) rfl ok73 rfl fun H => sem_run 9000 _ ?_;simp;refine sem_fn (pred_eval L.pred n o.pred hq r) (by first | exact D.les_refl _ | simp) (sem_run 9000 _ ?_);simp;refine sem_ret ?_;simp [M73, pickF];exact .same (by simp)
def updF (o : Op) : List Row → Option (List Row)
  | [] => some []
  | r :: R => if pickF o r then match setF r o.sets with
      | some r' => (updF o R).map (r' :: ·)
      | none => none
    else (updF o R).map (r :: ·)
def cntF (o : Op) (R : List Row) : Nat := (R.filter (pickF o)).length
def UpdI (H0 : HpD) (o : Op) (R : List Row) (k : Nat) (fr : FrD) (H : HpD) : Prop :=
  ∃ (i : Nat) (M : List Row) (s : D), k = R.length - i ∧ i ≤ R.length ∧ updF o (R.take i) = some M ∧
    fr = [(0, rowsD R), (3, .rptr o.c 0), (5, .ptr H0.next 0), (6, s), (7, .lit (.int .i64 (cntF o (R.take i) : Int))), (14, rowsD R), (15, .lit (.int .i64 (R.length : Int))), (16, .lit (.int .i64 (i : Int)))] ∧
    Gr H0 H 1 s (rowsE (M ++ R.drop i)) ∧ H.blk H0.next = .cells [.lit (.int .i64 0), .lit (.int .i64 0), .lit .nilslice] false ∧ ¬ s.hasB H0.next ∧ H0.next < H.next
theorem updF_snoc {o : Op} : ∀ {R : List Row} {i : Nat} {r : Row} {M : List Row}, R[i]? = some r → updF o (R.take i) = some M → updF o (R.take (i + 1)) = if pickF o r then (setF r o.sets).map (M ++ [·]) else some (M ++ [r])
  | [], i, r, M, h, _ => by simp at h
  | x :: R, 0, r, M, h, e => by
    simp at h; subst h;simp [updF] at e; subst e;simp only [List.take_succ_cons, List.take_zero, updF]
    cases pickF o x <;> simp
    cases setF x o.sets <;> simp
  | x :: R, i + 1, r, M, h, e => by
    simp at h;simp only [List.take_succ_cons, updF] at e ⊢
    cases hp : pickF o x with
    | true =>
      simp only [hp, if_true] at e ⊢
      cases hs : setF x o.sets with
      | none => simp [hs] at e
      | some x' =>
        simp only [hs, Option.map_eq_some_iff] at e;obtain ⟨M', e1, rfl⟩ := e;rw [updF_snoc h e1]
        cases pickF o r <;> simp
        cases setF r o.sets <;> simp
    | false =>
      simp only [hp, Bool.false_eq_true, if_false, Option.map_eq_some_iff] at e ⊢;obtain ⟨M', e1, rfl⟩ := e;rw [updF_snoc h e1]
      cases pickF o r <;> simp
      cases setF r o.sets <;> simp
end Go.Lib
end

section
set_option maxRecDepth 10000
namespace Go.Lib
open Go.Vm Go.Dv Go.Srt
variable {p : Prog} {ext : Ext} {F : Nat → Nat}
theorem updF_len {o : Op} : ∀ {R M : List Row}, updF o R = some M → M.length = R.length
  | [], M, h => by simp [updF] at h; subst h; rfl
  | r :: R, M, h => by
    unfold updF at h
    split at h
    · split at h
      · simp only [Option.map_eq_some_iff] at h
        obtain ⟨M', e, rfl⟩ := h;simp [updF_len e]
      · cases h
    · simp only [Option.map_eq_some_iff] at h
      obtain ⟨M', e, rfl⟩ := h;simp [updF_len e]
theorem updF_none {o : Op} : ∀ {R : List Row} {i : Nat}, updF o (R.take i) = none → updF o R = none
  | [], i, h => by simpa using h
  | r :: R, 0, h => by simp [updF] at h
  | r :: R, i + 1, h => by
    simp only [List.take_succ_cons, updF] at h ⊢
    split at h
    · split at h
      · rw [Option.map_eq_none_iff] at h
        simp [updF_none h, *]
      · simp [*]
    · rw [Option.map_eq_none_iff] at h
      simp [updF_none h, *]
theorem cntF_snoc {o : Op} {R : List Row} {i : Nat} {r : Row} (h : R[i]? = some r) : cntF o (R.take (i + 1)) = cntF o (R.take i) + if pickF o r then 1 else 0 := by
  unfold cntF;rw [List.take_add_one, h]
  cases hp : pickF o r <;> simp [hp]
theorem cntF_le {o : Op} {R : List Row} : cntF o R ≤ R.length := List.length_filter_le _ _
structure OpS (n : Nat) (o : Op) : Prop where
  pred : PrS n o.pred
  sets : o.sets.length < 1000
  vals : ∀ x, x ∈ o.sets → In64 x.v.n
structure RowsS (R : List Row) : Prop where
  len : R.length < 1000000
  rows : ∀ r, r ∈ R → r.length < 1000
  vals : ∀ r, r ∈ R → ∀ v, v ∈ r → In64 v.n
theorem RowsS.fine {R : List Row} (h : RowsS R) : Fine R := ⟨h.len, fun r hr => by have := h.rows r hr; omega⟩
theorem modl_update (L : HModl p ext F) {n : Nat} {R : List Row} {o : Op} {H : HpD} (hR : RowsS R) (ho : OpS n o) : WcD p ext (F 75) [rowsD R, .agg o.c] H (fun d H' => (∃ M s, updF o R = some M ∧ d = .tup [s, .agg [.lit (.int .i64 0), .lit (.int .i64 (cntF o R : Int)), .lit .nilslice]] ∧ Gr H H' 1 s (rowsE M)) ∨ (updF o R = none ∧ d = .tup [rowsD R, .agg [.lit (.int .i64 2), .lit (.int .i64 0), .lit .nilslice]] ∧ Sub H H')) := by
  refine wc_of L.h75 (M := M75) rfl ok75 rfl (sem_run 9000 _ ?_);simp;refine sem_call (mstill_own L hR.fine) fun d H1 g1 => ?_;obtain ⟨g1, _⟩ := g1;have hR1 := hR.len
  have h5 : H1.blk H.next = .cells [.lit (.int .i64 0), .lit (.int .i64 0), .lit .nilslice] false := by
    rw [g1.sub.blk H.next (by simp)]; simp
  have n5 := g1.sub.next;simp at n5;refine sem_run 9000 _ ?_;simp;refine sem_loop (UpdI H o R) ?_ (k := R.length) ⟨0, [], d, by simp, by simp, by simp [updF], by simp [cntF], by simpa using g1.base (by repeat (first | exact Sub.refl | apply Sub.new | refine Sub.put ?_ (by first | omega | (simp only [put_next, new_next]; omega)))), h5, fun h => by have := (g1.far h).1; rw [Dv.new_next] at this; omega, by omega⟩;rintro k fr H2 ⟨i, M, s, rfl, hi, hM, rfl, g, b5, s5, l5⟩;refine sem_exact g fun H3 gx k3 n3 => ?_;have b5' := k3 H.next s5;rw [b5] at b5';have hMl := updF_len hM;rw [List.length_take, Nat.min_eq_left hi] at hMl
  refine sem_run 9000 _ ?_;simp
  by_cases c : i < R.length
  · obtain ⟨r, hr⟩ : ∃ r, R[i]? = some r := ⟨R[i], by simp⟩
    have hrm := List.mem_of_getElem? hr
    have hdrop : R.drop i = r :: R.drop (i + 1) := by
      rw [List.drop_eq_getElem_cons c]; congr; exact (List.getElem?_eq_some_iff.1 hr).2
    have wi : wr .i64 ((i : Int) + 1) = ((i + 1 : Nat) : Int) := by rw [wr_of] <;> omega
    have hcl := cntF_le (o := o) (R := R.take i);rw [List.length_take, Nat.min_eq_left hi] at hcl
    have wc : wr .i64 ((cntF o (R.take i) : Int) + 1) = ((cntF o (R.take i) + 1 : Nat) : Int) := by rw [wr_of] <;> omega
    have hcs := cntF_snoc (o := o) hr;have hus := updF_snoc hr hM;simp [c, hr, -getElem?_pos];refine sem_fn (pred_eval L.pred n o.pred ho.pred r) (by first | exact D.les_refl _ | simp) (sem_run 9000 _ ?_)
    by_cases cp : evalF o.pred r = 1
    · have hp : pickF o r = true := by unfold pickF; exact decide_eq_true cp
      rw [hp] at hcs hus;simp only [if_true] at hcs hus;simp [cp];refine sem_fn (aggr_set L.aggr L.x45 (l := o.sets) (hR.rows r hrm) ho.sets (hR.vals r hrm) ho.vals) (by first | exact D.les_refl _ | simp) (sem_run 9000 _ ?_)
      cases hs : setF r o.sets with
      | none =>
        rw [hs] at hus;simp [setD, b5'];refine sem_ret ?_;simp;refine sem_ret ?_;simp [M75];exact ⟨updF_none hus, (gx.gr.sub.put (Nat.le_refl _))⟩
      | some r' =>
        rw [hs] at hus;simp [setD];rcases gx.at_ with ⟨rfl, he⟩ | ⟨b, ex, rfl, h1, h2, h3⟩
        · exfalso
          have := congrArg List.length he;simp at this; omega
        · have hlM : (rowsE (M ++ R.drop i)).length = R.length := by simp; omega
          have hne : b ≠ H.next := fun e => s5 (by simp only [D.hasB]; omega)
          have hsl : i + 1 ≤ (rowsE (M ++ R.drop i)).flatten.length := by rw [flatten_len rows_one]; omega
          have her : (rowsE (M ++ R.drop i))[i]? = some [rowD r] := by
            simp [rowsE, hdrop, hMl]
          have hlM' : M.length + (R.length - i) = R.length := by omega
          simp [hlM', c, h3, hsl, wc, -List.length_flatten];refine sem_ok ?_;have gw := gx.whole (x := [rowD r']) her rfl h1 h2
          have es : (rowsE (M ++ R.drop i)).set i [rowD r'] = rowsE (M ++ [r'] ++ R.drop (i + 1)) := by
            rw [hdrop]; unfold rowsE;simp [hMl]
          rw [es, Nat.mul_one] at gw;simp at hus;refine ⟨R.length - (i + 1), by omega, i + 1, M ++ [r'], .slice b 0 1 R.length R.length ex, rfl, by omega, hus, by rw [wi, hcs]; simp, by simpa [hlM'] using gw.gr, ?_, ?_, ?_⟩
          · rw [put_blk, if_neg (fun e => hne e.symm)]; exact b5'
          · simp only [D.hasB]; exact fun e => hne e.symm
          · simp; omega
    · have hp : pickF o r = false := by unfold pickF; exact decide_eq_false cp
      rw [hp] at hcs hus;simp at hcs hus;simp [cp];refine sem_ok ?_;refine ⟨R.length - (i + 1), by omega, i + 1, M ++ [r], s, rfl, by omega, hus, by rw [wi, hcs], ?_, b5', s5, by omega⟩;have := gx.gr;rw [hdrop] at this
      simpa using this
  · have : i = R.length := by omega
    subst this;rw [List.take_length] at hM;simp;refine sem_exit (sem_run 9000 _ ?_);simp [b5'];refine sem_ret ?_;simp [M75];have gg := gx.gr;rw [List.drop_length, List.append_nil] at gg;refine ⟨M, hM, gg.keep (gg.sub.put (Nat.le_refl _)) (by simp) fun x hx => ?_⟩;rw [put_blk, if_neg];rintro rfl;exact s5 hx
end Go.Lib
end

section
set_option maxRecDepth 10000
namespace Go.Lib
open Go.Vm Go.Dv Go.Srt
variable {p : Prog} {ext : Ext} {F : Nat → Nat}
def insK (R : List Row) (r : Row) : List Row := R.takeWhile (fun x => decide (keyF x < keyF r)) ++ r :: R.dropWhile (fun x => decide (keyF x < keyF r))
def hasR (R : List Row) (k : Int) : Bool := R.any fun x => decide (keyF x = k)
theorem KeyAt.len {R : List Row} {k : Int} {i : Nat} (h : KeyAt R k i) : (R.takeWhile (fun x => decide (keyF x < k))).length = i := by
  obtain ⟨h1, h2, h3⟩ := h;refine takeWhile_len h1 (fun q x hq hx => by simpa using h2 q x hq hx) ?_
  by_cases e : i = R.length
  · exact .inl e
  · refine .inr ⟨R[i]'(by omega), by simp, ?_⟩
    have := h3 i (R[i]'(by omega)) (Nat.le_refl _) (by simp)
    simpa using this
theorem KeyAt.put {R : List Row} {r : Row} {i : Nat} (h : KeyAt R (keyF r) i) : putAt R i r = insK R r := by
  have e := h.len;unfold putAt insK;rw [← e, take_tw, drop_tw]
theorem KeyAt.has {R : List Row} {k : Int} {i : Nat} (h : KeyAt R k i) (hk : KeyRise R) : hasK R k i = hasR R k := by
  obtain ⟨h1, h2, h3⟩ := h;unfold hasK hasR;rw [Bool.eq_iff_iff]
  constructor
  · intro e
    split at e
    · rename_i r hr
      exact List.any_eq_true.2 ⟨r, List.mem_of_getElem? hr, e⟩
    · cases e
  · intro e
    obtain ⟨x, hx, hxk⟩ := List.any_eq_true.1 e
    have hxk : keyF x = k := by simpa using hxk
    obtain ⟨q, hq⟩ := List.mem_iff_getElem?.1 hx
    have hqi : i ≤ q := by
      by_cases hlt : q < i
      · have := h2 q x hlt hq; omega
      · omega
    have hql := (List.getElem?_eq_some_iff.1 hq).1
    have hi : R[i]? = some (R[i]'(by omega)) := by simp
    rw [hi]
    by_cases e2 : i = q
    · subst e2
      have e3 := Option.some.inj (hi.symm.trans hq)
      simpa [e3] using hxk
    · have := List.pairwise_iff_getElem.1 hk i q (by omega) hql (by omega)
      obtain ⟨_, e3⟩ := List.getElem?_eq_some_iff.1 hq;have h4 := h3 i (R[i]'(by omega)) (Nat.le_refl _) hi;rw [e3] at this;omega
def doF (R : List Row) (o : Op) : List Row × Rs :=
  if o.kind = 1 then (if hasR R (keyF o.row) then (R, ⟨1, 0, []⟩) else (insK R o.row, ⟨0, 1, []⟩))
  else if o.kind = 2 then (match updF o R with
    | some M => (M, ⟨0, cntF o R, []⟩)
    | none => (R, ⟨2, 0, []⟩))
  else if o.kind = 3 then (keepF (pickF o) R, ⟨0, cntF o R, []⟩)
  else if o.kind = 4 then (R, ⟨0, 0, sortL cmpR (colsF o.cols (R.filter (pickF o)))⟩)
  else if o.kind = 5 then (if (grpsF o.group o.aggs (R.filter (pickF o))).2 then (R, ⟨0, 0, (grpsF o.group o.aggs (R.filter (pickF o))).1⟩) else (R, ⟨2, 0, []⟩))
  else if o.kind = 6 then (R, ⟨3, 0, []⟩) else (R, ⟨0, 0, []⟩)
theorem WeakV.tupA {d d2 : D} {H H2 : HpD} {cs cs2 : List D} (k : WeakV d H d2 H2) (h : D.les cs cs2) : WeakV (.tup [d, .agg cs]) H (.tup [d2, .agg cs2]) H2 := by
  intro ψ S hp v s kv;simp only [VD, VDl] at kv;obtain ⟨l', rfl, x, r, rfl, kx, y, r2, rfl, ⟨ly, rfl, ky⟩, rfl⟩ := kv;obtain ⟨ψ', S', x1, s1, k1⟩ := k ψ S hp x s kx;refine ⟨ψ', S', x1, s1, ?_⟩;simp only [VD, VDl];exact ⟨_, rfl, x, _, rfl, k1, _, _, rfl, ⟨ly, rfl, VDl.le _ _ h (VDl.mono x1 _ ky)⟩, rfl⟩
theorem fin_own {H0 H : HpD} {s : D} {R : List Row} {cs : List D} {x : Rs} (g : Gr H0 H 1 s (rowsE R)) (h : D.les cs x.c) : Fin H0 (.tup [rowsD R, .agg x.c]) (.tup [s, .agg cs]) H := by
  obtain ⟨H2, w, sub, _⟩ := g.fin rows_underss (m := .p) (by simp);exact ⟨H2, WeakV.tupA w h, sub, by simp [rows_under]⟩
theorem fin_row {H0 H : HpD} {R : List Row} {cs : List D} {x : Rs} (hs : Sub H0 H) (h : D.les cs x.c) : Fin H0 (.tup [rowsD R, .agg x.c]) (.tup [rowsD R, .agg cs]) H :=
  ⟨H, WeakV.tupA .refl h, hs, by simp [rows_under]⟩
theorem fin_part {H0 H : HpD} {s : D} {R : List Row} {cs : List D} {x : Rs} (g : Part H0 H 1 s (rowsE R)) (h : D.les cs x.c) : Fin H0 (.tup [rowsD R, .agg x.c]) (.tup [s, .agg cs]) H := by
  obtain ⟨H2, w, sub⟩ := g.fin;exact ⟨H2, WeakV.tupA w h, sub, by simp [rows_under]⟩
theorem clip_part (L : HAggr p ext F) {H : HpD} {b m n : Nat} (hm : m ≤ n) : WcD p ext (F 39) [.slice b 0 1 m n true] H (fun d H' => d = .slice b 0 1 m m true ∧ H' = H) := by
  refine wc_of L.h39 (M := M39) rfl ok39 rfl (sem_run 9000 _ ?_)
  have e : slcD 1 (.slice b 0 1 m n true) none (some (.lit (.int .i64 (m : Int)))) (some (.lit (.int .i64 (m : Int)))) = some (.slice b 0 1 m m true) := by
    simp [slcD, bndD, slcV, sliceO, needH, boundM, boundH, boundL, ble_d, hm]
  simp [e];refine sem_ret ?_;simp [M39]
theorem clip_nil (L : HAggr p ext F) {H : HpD} : WcD p ext (F 39) [.lit .nilslice] H (fun d H' => d = .lit .nilslice ∧ H' = H) := by
  refine wc_of L.h39 (M := M39) rfl ok39 rfl (sem_run 9000 _ ?_);simp [slc_nil];refine sem_ret ?_;simp [M39]
structure DoOk (ks : List Int) (n : Nat) (R : List Row) (o : Op) : Prop where
  rows : RowsS R
  good : GoodRs ks R
  rise : KeyRise R
  op : OpS n o
  row : o.row.length < 1000
  cols : o.kind = 4 → o.cols.length < 1000 ∧ ∀ c, c ∈ o.cols → InK ks c
  aggs : o.kind = 5 → o.group < ks.length ∧ o.aggs.length < 900 ∧ ∀ a, a ∈ o.aggs → InK ks a.col
def DoI (H1 : HpD) (hb : Nat) (s : D) (o : Op) (R : List Row) (f : Nat) (k : Nat) (fr : FrD) (H : HpD) : Prop :=
  ∃ (i : Nat) (t : D), k = R.length - i ∧ i ≤ R.length ∧ fr = [(1, s), (5, .rptr o.c 0), (7, .ptr hb 0), (8, .func f [] [.rptr o.c 0]), (9, t), (17, s), (18, .lit (.int .i64 (R.length : Int))), (19, .lit (.int .i64 (i : Int)))] ∧
    Gr H1 H 1 t (rowsE ((R.take i).filter (pickF o)))
theorem modl_do (L : HModl p ext F) {ks : List Int} {n : Nat} {sc : Sch} {R : List Row} {o : Op} (h : DoOk ks n R o) : FnD p ext (F 70) [schD sc, rowsD R, .agg o.c] (.tup [rowsD (doF R o).1, .agg (doF R o).2.c]) := by
  refine fn_of L.h70 (M := M70) rfl ok70 rfl fun H => sem_run 9000 _ ?_;simp;refine sem_call (mstill_own L h.rows.fine) fun s H1 g1 => ?_;obtain ⟨g1, tight⟩ := g1;have hlen := g1.lenb;rw [rows_len] at hlen;have hR1 := h.rows.len;refine sem_run 9000 _ ?_;simp [hlen];refine sem_exact g1 fun H2 gx k2 n2 => ?_;have gt : GrT (H.new (.cells [.lit (.int .i64 0), .lit (.int .i64 0), .lit .nilslice] false)) H2 s R := ⟨gx, tight⟩
  have hs7 : ¬ s.hasB H.next := fun e => by have := (g1.far e).1; rw [Dv.new_next] at this; omega
  have b7 : H2.blk H.next = .cells [.lit (.int .i64 0), .lit (.int .i64 0), .lit .nilslice] false := by
    rw [k2 _ hs7, g1.sub.blk H.next (by simp)]; simp
  have hn2 := gx.gr.sub.next;rw [Dv.new_next] at hn2;refine sem_loop (DoI H2 H.next s o R (F 73)) ?_ (k := R.length) ⟨0, .lit .nilslice, by simp, by simp, rfl, by simpa [rowsE] using Gr.start⟩;rintro k fr H3 ⟨i, t, rfl, hi, rfl, g⟩;refine sem_run 9000 _ ?_;simp
  by_cases c : i < R.length
  · obtain ⟨r, hr⟩ : ∃ r, R[i]? = some r := ⟨R[i], by simp⟩
    have hc := cell_row hr
    have wi : wr .i64 ((i : Int) + 1) = ((i + 1 : Nat) : Int) := by rw [wr_of] <;> omega
    have gt3 := gt.far g.sub;rcases gt3.at_ with ⟨rfl, rfl⟩ | ⟨b, rfl, h1, h2, h3⟩
    · simp at c
    · simp [c, h3, hc, -List.length_flatten]
      refine sem_fn (modl_do1 L (o := o) (r := r) h.op.pred) (by first | exact D.les_refl _ | simp) (sem_run 9000 _ ?_)
      cases hp : pickF o r with
      | true =>
        have ef : (R.take (i + 1)).filter (pickF o) = (R.take i).filter (pickF o) ++ [r] := by
          rw [List.take_add_one, hr, List.filter_append]; simp [hp]
        have hfl := List.length_filter_le (pickF o) (R.take i);rw [List.length_take, Nat.min_eq_left hi] at hfl;simp;refine sem_push g rfl rfl (roomyD (by simp only [rows_len]; omega) (by simp only [rows_len]; omega)) fun t' H4 g4 _ _ => ?_;simp;refine sem_ok ?_
        have e : rowsE ((R.take i).filter (pickF o)) ++ [[rowD r]] = rowsE ((R.take (i + 1)).filter (pickF o)) := by rw [ef]; simp [rowsE]
        rw [e] at g4;exact ⟨R.length - (i + 1), by omega, i + 1, t', rfl, by omega, by rw [wi], g4⟩
      | false =>
        have ef : (R.take (i + 1)).filter (pickF o) = (R.take i).filter (pickF o) := by
          rw [List.take_add_one, hr, List.filter_append]; simp [hp]
        simp;refine sem_ok ?_;exact ⟨R.length - (i + 1), by omega, i + 1, t, rfl, by omega, by rw [wi], by rw [ef]; exact g⟩
  · have : i = R.length := by omega
    subst this;rw [List.take_length] at g;simp;refine sem_turn_exit g 9 (by simp) fun H4 s4 k4 n4 => ?_;refine sem_exit (sem_run 9000 _ ?_);have gt4 := gt.far s4
    have b7' : H4.blk H.next = .cells [.lit (.int .i64 0), .lit (.int .i64 0), .lit .nilslice] false := by
      rw [s4.blk _ (by omega), b7]
    have l7 : H.next < H4.next := by have := s4.next; omega
    have hfl := List.length_filter_le (pickF o) R;have sub0 : Sub H (H.new (.cells [.lit (.int .i64 0), .lit (.int .i64 0), .lit .nilslice] false)) := Sub.refl.new;have stay : ∀ x : BD, Gr H (H4.put H.next x) 1 s (rowsE R) := fun x => gt4.x.gr.aside sub0 (Nat.le_refl _) (by simp);have hfg : GoodRs ks (R.filter (pickF o)) := fun r hr => h.good r ((List.mem_filter.1 hr).1);have hff : Fine (R.filter (pickF o)) := ⟨by omega, fun r hr => h.rows.fine.2 r ((List.mem_filter.1 hr).1)⟩
    by_cases o1 : o.kind = 1
    · simp [o1]
      refine sem_call (modl_insert L gt4 hR1 h.rise (by have := h.row; omega)) ?_;rintro d H5 ⟨i, hi, ⟨hh, rfl, g5⟩ | ⟨hh, s', rfl, g5⟩⟩
      · have b5 := g5.sub.blk H.next (by simp)
        have l5 := g5.sub.next;simp at b5 l5
        have e : doF R o = (R, ⟨1, 0, []⟩) := by unfold doF; rw [if_pos o1, ← hi.has h.rise, hh]; rfl
        rw [e];refine sem_run 9000 _ ?_;simp;simp [b5];refine sem_ret ?_;simp [M70];exact fin_own (g5.aside sub0 (Nat.le_refl _) (by simp)) (by simp [Rs.c, D.les, D.le, rows_nil])
      · have b5 := g5.sub.blk H.next (by simp)
        have l5 := g5.sub.next;simp at b5 l5
        have e : doF R o = (insK R o.row, ⟨0, 1, []⟩) := by unfold doF; rw [if_pos o1, ← hi.has h.rise, hh]; rfl
        rw [e, ← hi.put];refine sem_run 9000 _ ?_;simp;simp [b5];refine sem_ret ?_;simp [M70];exact fin_own (g5.aside sub0 (Nat.le_refl _) (by simp)) (by simp [Rs.c, D.les, D.le, rows_nil])
    · by_cases o2 : o.kind = 2
      · simp [o2]
        refine sem_row gt4.x.gr 0 rfl fun H5 s5 k5 n5 => ?_;have b5 := s5.blk H.next (by simp);simp at b5;refine sem_call (modl_update L h.rows h.op) ?_;rintro d H6 (⟨M, s', hM, rfl, g6⟩ | ⟨hM, rfl, s6⟩)
        · have e : doF R o = (M, ⟨0, cntF o R, []⟩) := by unfold doF; rw [if_neg o1, if_pos o2, hM]
          rw [e];have b6 := g6.sub.blk H.next (by omega);rw [b5] at b6;have l6 := g6.sub.next;refine sem_run 9000 _ ?_;simp;simp [b6];refine sem_ret ?_;simp [M70];exact fin_own (g6.aside (sub0.trans s5) (Nat.le_refl _) (by omega)) (by simp [Rs.c, D.les, D.le, rows_nil])
        · have e : doF R o = (R, ⟨2, 0, []⟩) := by unfold doF; rw [if_neg o1, if_pos o2, hM]
          rw [e];have b6 := s6.blk H.next (by omega);rw [b5] at b6;have l6 := s6.next;refine sem_run 9000 _ ?_;simp;simp [b6];refine sem_ret ?_;simp [M70];exact fin_row (((sub0.trans s5).trans s6).put (Nat.le_refl _)) (by simp [Rs.c, D.les, D.le, rows_nil])
      · by_cases o3 : o.kind = 3
        · have e : doF R o = (keepF (pickF o) R, ⟨0, cntF o R, []⟩) := by unfold doF; rw [if_neg o1, if_neg o2, if_pos o3]
          rw [e];simp [o3];refine sem_call (deleteFunc L gt4 hR1 (f := F 73) (cl := [.rptr o.c 0]) (pf := pickF o) fun r _ => modl_do1 L h.op.pred) ?_;rintro d H5 (⟨rfl, hk, s5⟩ | ⟨b, cs, rfl, hle, h1, h2, h3, h4, s5⟩)
          · have b5 := s5.blk H.next (by simp)
            have l5 := s5.next;simp at b5 l5
            have l5' : H.next < H5.next := by omega
            refine sem_run 9000 _ ?_;simp;refine sem_call (clip_nil L.aggr) ?_;rintro _ _ ⟨rfl, rfl⟩;refine sem_run 9000 _ ?_;simp;simp [b5];refine sem_ret ?_;simp [M70];exact fin_part ⟨(sub0.trans s5).put (Nat.le_refl _), rows_one, .inl ⟨rfl, by rw [hk]; rfl⟩⟩ (by simp [Rs.c, D.les, D.le, rows_nil, cntF])
          · have b5 := s5.blk H.next (by simp)
            have l5 := s5.next;simp at b5 l5
            have l5' : H.next < H5.next := by omega
            refine sem_run 9000 _ ?_;simp;refine sem_call (clip_part L.aggr hle) ?_;rintro _ _ ⟨rfl, rfl⟩;refine sem_run 9000 _ ?_;simp;simp [b5];refine sem_ret ?_;simp [M70];rw [Dv.new_next] at h1
            have hne : b ≠ H.next := by omega
            exact fin_part ⟨(sub0.trans s5).put (Nat.le_refl _), rows_one, .inr ⟨b, 0, _, _, cs, by rw [rows_len], by rw [rows_len]; exact Nat.le_refl _, by omega, by simpa using h2, by rw [put_blk, if_neg hne]; exact h3, by rw [rows_len, rowsE_flat, List.drop_zero, Nat.mul_one, h4]; rfl⟩⟩ (by simp [Rs.c, D.les, D.le, rows_nil, cntF])
        · by_cases o4 : o.kind = 4
          · have e : doF R o = (R, ⟨0, 0, sortL cmpR (colsF o.cols (R.filter (pickF o)))⟩) := by unfold doF; rw [if_neg o1, if_neg o2, if_neg o3, if_pos o4]
            rw [e];simp [o4];refine sem_fn (aggr_cols L.aggr (cols := o.cols) (m := .p) hff hfg (h.cols o4).1 (h.cols o4).2) (by simp [rowsD, D.les, D.le_refl]) (sem_run 9000 _ ?_);simp [b7'];refine sem_ret ?_;simp [M70];exact fin_own (stay _) (by simp [Rs.c])
          · by_cases o5 : o.kind = 5
            · simp [o5]
              refine sem_fn (aggr_groups L.aggr L.x45 (c := o.group) (ags := o.aggs) hff hfg (h.aggs o5).1 (h.aggs o5).2.2 (h.aggs o5).2.1) (by simp [rowsD, D.les, D.le, D.le_refl]) (sem_run 9000 _ ?_)
              cases hg : (grpsF o.group o.aggs (R.filter (pickF o))).2 with
              | true =>
                have e : doF R o = (R, ⟨0, 0, (grpsF o.group o.aggs (R.filter (pickF o))).1⟩) := by unfold doF; rw [if_neg o1, if_neg o2, if_neg o3, if_neg o4, if_pos o5, if_pos hg]
                rw [e];simp [grpD, hg, b7'];refine sem_ret ?_;simp [M70];exact fin_own (stay _) (by simp [Rs.c])
              | false =>
                have e : doF R o = (R, ⟨2, 0, []⟩) := by unfold doF; rw [if_neg o1, if_neg o2, if_neg o3, if_neg o4, if_pos o5, if_neg (by simp [hg])]
                rw [e];simp [grpD, hg, b7'];refine sem_ret ?_;simp [M70];exact fin_own (stay _) (by simp [Rs.c, D.les, D.le, rows_nil])
            · by_cases o6 : o.kind = 6
              · have e : doF R o = (R, ⟨3, 0, []⟩) := by unfold doF; rw [if_neg o1, if_neg o2, if_neg o3, if_neg o4, if_neg o5, if_pos o6]
                rw [e];simp [o6, b7'];refine sem_ret ?_;simp [M70];exact fin_own (stay _) (by simp [Rs.c, D.les, D.le, rows_nil])
              · have e : doF R o = (R, ⟨0, 0, []⟩) := by unfold doF; rw [if_neg o1, if_neg o2, if_neg o3, if_neg o4, if_neg o5, if_neg o6]
                rw [e];simp [o1, o2, o3, o4, o5, o6, b7'];refine sem_ret ?_;simp [M70];exact fin_own (stay _) (by simp [Rs.c, D.les, D.le, rows_nil])
end Go.Lib
end

section
set_option maxRecDepth 10000
namespace Go.Lib
open Go.Vm Go.Dv Go.Srt
variable {p : Prog} {ext : Ext} {F : Nat → Nat}
structure RowsK (ks : List Int) (B : Nat) (R : List Row) : Prop where
  good : GoodRs ks R
  rise : KeyRise R
  len : R.length ≤ B
structure SxOk (ks : List Int) (x : Sx) : Prop where
  col : 1 ≤ x.col ∧ x.col < ks.length
  good : x.v.Good
  kind : x.v.kind = (ks[x.col.toNat]?).getD 0
  add : x.add = true → (ks[x.col.toNat]?).getD 0 = 1
structure OpOk (ks : List Int) (n : Nat) (o : Op) : Prop where
  op : OpS n o
  rowl : o.row.length < 1000
  row : o.kind = 1 → GoodR ks o.row
  sets : o.kind = 2 → ∀ x, x ∈ o.sets → SxOk ks x
  cols : o.kind = 4 → o.cols.length < 1000 ∧ ∀ c, c ∈ o.cols → InK ks c
  aggs : o.kind = 5 → o.group < ks.length ∧ o.aggs.length < 900 ∧ ∀ a, a ∈ o.aggs → InK ks a.col
theorem GoodR.len {ks : List Int} {r : Row} (h : GoodR ks r) : r.length = ks.length := by
  have := h.kin; unfold Kin at this; rw [← this]; simp
theorem RowsK.rows {ks : List Int} {B : Nat} {R : List Row} (h : RowsK ks B R) (hk : ks.length < 1000) (hB : B < 1000000) : RowsS R :=
  ⟨by have := h.len; omega, fun r hr => by rw [(h.good r hr).len]; exact hk, fun r hr v hv => ((h.good r hr).good v hv).int⟩
theorem RowsK.do_ {ks : List Int} {B n : Nat} {R : List Row} {o : Op} (h : RowsK ks B R) (hk : ks.length < 1000) (hB : B < 1000000) (ho : OpOk ks n o) : DoOk ks n R o :=
  ⟨h.rows hk hB, h.good, h.rise, ho.op, ho.rowl, ho.cols, ho.aggs⟩
theorem GoodR.set {ks : List Int} {r : Row} {v : Vl} {i : Nat} (h : GoodR ks r) (hv : v.Good) (hk : v.kind = (ks[i]?).getD 0) (hi : i < ks.length) : GoodR ks (r.set i v) := by
  refine ⟨?_, fun w hw => ?_⟩
  · have := h.kin
    unfold Kin at this ⊢
    have hks : (ks[i]?).getD 0 = ks[i] := by simp [hi]
    rw [List.map_set, this, hk, hks, List.set_getElem_self hi]
  · rcases List.mem_or_eq_of_mem_set hw with hw | rfl
    · exact h.good w hw
    · exact hv
theorem atV_set {r : Row} {v : Vl} {i : Nat} (hi : 1 ≤ i) : atV (r.set i v) 0 = atV r 0 := by
  unfold atV;rw [if_neg (by omega), if_neg (by omega), show (0 : Int).toNat = 0 from rfl, List.getElem?_set_ne (by omega)]
theorem setS_ok {ks : List Int} {r r' : Row} {x : Sx} (h : GoodR ks r) (hx : SxOk ks x) (e : setS r x = some r') : GoodR ks r' ∧ keyF r' = keyF r := by
  obtain ⟨⟨c1, c2⟩, hg, hkd, hadd⟩ := hx;have hl := h.len;have hin : InK ks x.col := ⟨by omega, c2⟩;have hat := h.at_ hin;unfold setS at e;rw [if_neg (by omega)] at e
  split at e
  · cases e
    exact ⟨h.set hg hkd (by omega), by unfold keyF; rw [atV_set (by omega)]⟩
  · rename_i ha
    have ha : x.add = true := by simpa using ha
    split at e
    · cases e; exact ⟨h, rfl⟩
    · rename_i hn
      split at e
      · rename_i hi
        cases e;have hk1 := hadd ha;refine ⟨h.set ⟨fun h2 => absurd h2 hn, .inl ⟨by show (atV r x.col).kind = 1; rw [hat.1, hk1], ?_⟩, hi⟩ (by show (atV r x.col).kind = _; rw [hat.1]) (by omega), by unfold keyF; rw [atV_set (by omega)]⟩;rcases hat.2.kd with ⟨_, hb⟩ | ⟨hb, _⟩
        · exact hb
        · rw [hat.1, hk1] at hb; simp at hb
      · cases e
theorem setF_ok {ks : List Int} : ∀ {l : List Sx} {r r' : Row}, GoodR ks r → (∀ x, x ∈ l → SxOk ks x) → setF r l = some r' → GoodR ks r' ∧ keyF r' = keyF r
  | [], r, r', h, _, e => by simp [setF] at e; subst e; exact ⟨h, rfl⟩
  | x :: l, r, r', h, hx, e => by
    unfold setF at e
    split at e
    · rename_i r1 e1
      obtain ⟨a, b⟩ := setS_ok h (hx x (by simp)) e1;obtain ⟨c, d⟩ := setF_ok a (fun y hy => hx y (by simp [hy])) e;exact ⟨c, by rw [d, b]⟩
    · cases e
theorem updF_ok {ks : List Int} {o : Op} (hs : ∀ x, x ∈ o.sets → SxOk ks x) : ∀ {R M : List Row}, GoodRs ks R → updF o R = some M → GoodRs ks M ∧ M.map keyF = R.map keyF
  | [], M, _, e => by simp [updF] at e; subst e; exact ⟨fun r hr => by simp at hr, rfl⟩
  | r :: R, M, hg, e => by
    have hr := hg r (by simp);have hR : GoodRs ks R := fun x hx => hg x (by simp [hx]);unfold updF at e
    split at e
    · split at e
      · rename_i r' e1
        obtain ⟨M', e2, rfl⟩ := Option.map_eq_some_iff.1 e;obtain ⟨a, b⟩ := updF_ok hs hR e2;obtain ⟨c, d⟩ := setF_ok hr hs e1;exact ⟨fun x hx => by rcases List.mem_cons.1 hx with rfl | hx; exact c; exact a x hx, by simp [b, d]⟩
      · cases e
    · obtain ⟨M', e2, rfl⟩ := Option.map_eq_some_iff.1 e
      obtain ⟨a, b⟩ := updF_ok hs hR e2;exact ⟨fun x hx => by rcases List.mem_cons.1 hx with rfl | hx; exact hr; exact a x hx, by simp [b]⟩
theorem keyRise_map {R : List Row} : KeyRise R ↔ (R.map keyF).Pairwise (· < ·) := by
  unfold KeyRise; rw [List.pairwise_map]
theorem insK_len {R : List Row} {r : Row} : (insK R r).length = R.length + 1 := by
  unfold insK;have := congrArg List.length (List.takeWhile_append_dropWhile (p := fun x => decide (keyF x < keyF r)) (l := R));simp only [List.length_append, List.length_cons] at this ⊢; omega
theorem insK_mem {R : List Row} {r x : Row} (h : x ∈ insK R r) : x = r ∨ x ∈ R := by
  unfold insK at h;rcases List.mem_append.1 h with h | h
  · exact .inr (List.takeWhile_subset _ h)
  · rcases List.mem_cons.1 h with h | h
    · exact .inl h
    · exact .inr (List.dropWhile_subset _ h)
theorem insK_rise {R : List Row} {r : Row} (h : KeyRise R) (hn : hasR R (keyF r) = false) : KeyRise (insK R r) := by
  have hne : ∀ x, x ∈ R → keyF x ≠ keyF r := fun x hx e => by
    have : hasR R (keyF r) = true := List.any_eq_true.2 ⟨x, hx, by simpa using e⟩;rw [hn] at this; cases this
  have hd : ∀ (L : List Row), KeyRise L → (∀ x, x ∈ L → keyF x ≠ keyF r) → ∀ x, x ∈ L.dropWhile (fun x => decide (keyF x < keyF r)) → keyF r < keyF x := by
    intro L
    induction L with
    | nil => intro _ _ x hx; simp at hx
    | cons y L ih =>
      intro hL hn x hx;have hL' := List.pairwise_cons.1 hL;rw [List.dropWhile_cons] at hx
      split at hx
      · exact ih hL'.2 (fun z hz => hn z (by simp [hz])) x hx
      · rename_i hy
        have hy : ¬ keyF y < keyF r := by simpa using hy
        have := hn y (by simp);rcases List.mem_cons.1 hx with rfl | hx
        · omega
        · have := hL'.1 x hx; omega
  have hsplit : KeyRise (R.takeWhile (fun x => decide (keyF x < keyF r)) ++ R.dropWhile (fun x => decide (keyF x < keyF r))) := by
    rw [List.takeWhile_append_dropWhile]; exact h
  obtain ⟨a, b, c⟩ := List.pairwise_append.1 hsplit
  have ht : ∀ x, x ∈ R.takeWhile (fun x => decide (keyF x < keyF r)) → keyF x < keyF r := fun x hx => by
    have := List.all_takeWhile (p := fun x => decide (keyF x < keyF r)) (l := R)
    simpa using List.all_eq_true.1 this x hx
  refine List.pairwise_append.2 ⟨a, List.pairwise_cons.2 ⟨fun x hx => hd R h hne x hx, b⟩, fun x hx y hy => ?_⟩;rcases List.mem_cons.1 hy with rfl | hy
  · exact ht x hx
  · exact c x hx y hy
theorem doF_ok {ks : List Int} {B n : Nat} {R : List Row} {o : Op} (h : RowsK ks B R) (ho : OpOk ks n o) : RowsK ks (B + 1) (doF R o).1 := by
  have h0 : RowsK ks (B + 1) R := ⟨h.good, h.rise, by have := h.len; omega⟩;unfold doF
  split
  · rename_i o1
    split
    · exact h0
    · rename_i hn
      refine ⟨fun x hx => ?_, insK_rise h.rise (by simpa using hn), by show (insK R o.row).length ≤ _; rw [insK_len]; have := h.len; omega⟩;rcases insK_mem hx with rfl | hx
      · exact ho.row o1
      · exact h.good x hx
  · split
    · rename_i o2
      cases hu : updF o R with
      | none => exact h0
      | some M =>
        obtain ⟨a, b⟩ := updF_ok (ho.sets o2) h.good hu;exact ⟨a, keyRise_map.2 (by show (M.map keyF).Pairwise _; rw [b]; exact keyRise_map.1 h.rise), by show M.length ≤ _; rw [updF_len hu]; exact h0.len⟩
    · split
      · exact ⟨fun x hx => h.good x (List.mem_filter.1 hx).1, h.rise.filter _, Nat.le_trans (List.length_filter_le _ _) h0.len⟩
      · split
        · exact h0
        · split
          · split <;> exact h0
          · split <;> exact h0
def rssD (l : List Rs) : D := .row 3 .p (l.map Rs.c)
def opsD (l : List Op) : D := .row 14 .p (l.map Op.c)
theorem ops_len {l : List Op} : lenbD (opsD l) = some (.lit (.int .i64 (l.length : Int))) := by simp [opsD]
theorem at_ops {l : List Op} {n : Nat} : atO 14 (opsD l) (some n) = elemD (l[n]?.map Op.c) := by simp [opsD]
theorem rs_len {x : Rs} : x.c.length = 3 := rfl
theorem rs_flats {x : Rs} : flatsD x.c = true := rfl
theorem rs_take {x : Rs} : x.c.take 3 = x.c := rfl
theorem rs_drop {x : Rs} : x.c.drop 3 = [] := rfl
theorem rs_0 {x : Rs} : x.c[0]? = some (.lit (.int .i64 x.err)) := rfl
theorem rs_1 {x : Rs} : x.c[1]? = some (.lit (.int .i64 x.n)) := rfl
theorem rs_2 {x : Rs} : x.c[2]? = some (rowsD x.rows) := rfl
theorem rss_len {l : List Rs} : lenbD (rssD l) = some (.lit (.int .i64 (l.length : Int))) := by simp [rssD]
theorem at_rss {l : List Rs} {n : Nat} : atO 3 (rssD l) (some n) = elemD (l[n]?.map Rs.c) := by simp [rssD]
theorem rss_under {n : Nat} {l : List Rs} : (rssD l).under n := by simp only [rssD, D.under]; exact underss_map (fun _ => rs_unders) _
attribute [simp] ops_len at_ops rs_len rs_flats rs_take rs_drop rs_0 rs_1 rs_2 rss_len at_rss rss_under
def runF (R0 : List Row) : List Row → List Rs → List Op → List Row × List Rs
  | now, out, [] => (now, out)
  | now, out, o :: l => if (doF now o).2.err ≠ 0 then (R0, out ++ [(doF now o).2]) else runF R0 (doF now o).1 (out ++ [(doF now o).2]) l
theorem clip_rs (L : HModl p ext F) {H0 H : HpD} {s : D} {el : List (List D)} (g : Gr H0 H 3 s el) : WcD p ext (F 77) [s] H (fun d H' => Gr H0 H' 3 d el) := by
  refine wc_of L.h77 (M := M77) rfl ok77 rfl (sem_run 9000 _ ?_);rcases g.at_ with ⟨rfl, rfl⟩ | ⟨b, ex, el0, rfl, h1, h2, h3, h4⟩
  · simp [slc_nil]
    refine sem_ret ?_;simp [M77];exact g
  · simp [slc_own]
    refine sem_ret ?_;simp [M77];exact ⟨g.sub, g.len, .inr ⟨b, true, el0, rfl, h1, h2, h3, h4⟩⟩
theorem mstill (L : HModl p ext F) {l : List Row} (hl : Fine l) : FnD p ext (F 72) [rowsD l] (rowsD l) :=
  own_fn (fun _ => (mstill_own L hl).mono fun _d _H' ⟨g, _⟩ => g) fun _ => rows_underss
def RunI (H0 : HpD) (sc : Sch) (ks : List Int) (B : Nat) (R : List Row) (l : List Op) (k : Nat) (fr : FrD) (H : HpD) : Prop :=
  ∃ (i : Nat) (now : List Row) (out : List Rs) (t : D), k = l.length - i ∧ i ≤ l.length ∧ out.length = i ∧ RowsK ks (B + i) now ∧ runF R R [] l = runF R now out (l.drop i) ∧
    fr = [(1, rowsD R), (3, .rptr [schR sc] 0), (8, rowsD now), (9, t), (17, opsD l), (18, .lit (.int .i64 (l.length : Int))), (19, .lit (.int .i64 (i : Int)))] ∧ Gr H0 H 3 t (out.map Rs.c)
theorem WeakV.tup2B {d d2 e : D} {H H2 : HpD} (k : WeakV d H d2 H2) : WeakV (.tup [e, d]) H (.tup [e, d2]) H2 := by
  intro ψ S hp v s kv;simp only [VD, VDl] at kv;obtain ⟨l', rfl, x, r, rfl, kx, y, r2, rfl, ky, rfl⟩ := kv;obtain ⟨ψ', S', x1, s1, k1⟩ := k ψ S hp y s ky;refine ⟨ψ', S', x1, s1, ?_⟩;simp only [VD, VDl];exact ⟨_, rfl, x, _, rfl, VD.mono x1 _ kx, y, _, rfl, k1, rfl⟩
theorem fin_run {H0 H : HpD} {s : D} {R : List Row} {l : List Rs} (g : Gr H0 H 3 s (l.map Rs.c)) : Fin H0 (.tup [rowsD R, rssD l]) (.tup [rowsD R, s]) H := by
  obtain ⟨H2, w, sub, _⟩ := g.fin (underss_map (fun _ => rs_unders) _) (m := .p) (by simp);exact ⟨H2, WeakV.tup2B w, sub, by simp [rows_under, rss_under]⟩
theorem modl_run (L : HModl p ext F) {ks : List Int} {n B : Nat} {sc : Sch} {R : List Row} {l : List Op} (hk : ks.length < 1000) (h : RowsK ks B R) (hB : B + l.length < 1000000) (ho : ∀ o, o ∈ l → OpOk ks n o) : FnD p ext (F 71) [schD sc, rowsD R, opsD l] (.tup [rowsD (runF R R [] l).1, rssD (runF R R [] l).2]) := by
  refine fn_of L.h71 (M := M71) rfl ok71 rfl fun H => sem_run 9000 _ ?_;simp;refine sem_fn (mstill L (h.rows hk (by omega)).fine) (by first | exact D.les_refl _ | simp) (sem_run 9000 _ ?_);simp;refine sem_loop (RunI H sc ks B R l) ?_ (k := l.length) ⟨0, R, [], .lit .nilslice, by simp, by simp, rfl, h, rfl, rfl, by simpa using Gr.start⟩;rintro k fr H1 ⟨i, now, out, t, rfl, hi, hol, hnow, hrun, rfl, g⟩;refine sem_run 9000 _ ?_;simp
  by_cases c : i < l.length
  · obtain ⟨o, ho'⟩ : ∃ o, l[i]? = some o := ⟨l[i], by simp⟩
    have hdrop : l.drop i = o :: l.drop (i + 1) := by
      rw [List.drop_eq_getElem_cons c]; congr; exact (List.getElem?_eq_some_iff.1 ho').2
    rw [hdrop] at hrun;have hok := ho o (List.mem_of_getElem? ho')
    have wi : wr .i64 ((i : Int) + 1) = ((i + 1 : Nat) : Int) := by rw [wr_of] <;> omega
    simp [c, ho', -getElem?_pos];refine sem_fn (modl_do L (sc := sc) (hnow.do_ hk (by omega) hok)) (by simp [schD, D.les, D.le, D.le_refl]) (sem_run 9000 _ ?_);have hd := doF_ok hnow hok
    have hstep : runF R now out (o :: l.drop (i + 1)) = if (doF now o).2.err ≠ 0 then (R, out ++ [(doF now o).2]) else runF R (doF now o).1 (out ++ [(doF now o).2]) (l.drop (i + 1)) := rfl
    rw [hstep] at hrun;generalize doF now o = x at hrun hd;obtain ⟨now', rs⟩ := x;simp;refine sem_push (g.mono (by repeat (first | exact Sub.refl | apply Sub.new | refine Sub.put ?_ (by first | omega | (simp only [put_next, new_next]; omega))))) rfl rfl (roomyD (by simp; omega) (by simp; omega)) fun t' H2 g2 k2 n2 => ?_;obtain ⟨n2, rfl⟩ := n2;simp at n2
    have hb : H2.blk (H1.next + 1) = .cells rs.c false := by
      rw [k2 _ (by simp) (fun h => by have := (g.far h).2; omega)]; simp
    have l13 : H1.next + 1 < H2.next := by omega
    have hout : out.map Rs.c ++ [rs.c] = (out ++ [rs]).map Rs.c := by simp
    rw [hout] at g2
    by_cases ce : rs.err = 0
    · simp [hb, ce]
      refine sem_ok ?_;rw [if_neg (by simp [ce])] at hrun;exact ⟨l.length - (i + 1), by omega, i + 1, now', out ++ [rs], _, rfl, by omega, by simp [hol], hd, hrun, by rw [wi], by simpa using g2⟩
    · simp [hb, ce]
      rw [if_pos (by simpa using ce)] at hrun;refine sem_call (clip_rs L (by simpa using g2)) fun d H3 g3 => ?_;refine sem_run 9000 _ ?_;simp;refine sem_ret ?_;simp;refine sem_ret ?_;simp [M71];rw [hrun];exact fin_run (by simpa using g3)
  · have : i = l.length := by omega
    subst this;simp;refine sem_exit (sem_run 9000 _ ?_);simp;refine sem_call (clip_rs L g) fun d H2 g2 => ?_;refine sem_run 9000 _ ?_;simp;refine sem_ret ?_;simp [M71];rw [hrun, List.drop_length];exact fin_run g2
end Go.Lib
end

section
set_option maxRecDepth 10000
namespace Go.Lib
open Go.Vm Go.Dv Go.Srt
attribute [-simp] bin_and bin_xor
def nV (n : Int) : Vl := ⟨false, 1, n, [], by simp⟩
def pr0 : Pr := .mk 0 0 0 zv []
def prT : Pr := .mk 1 0 0 zv []
def prK (n : Int) : Pr := .mk 2 0 1 (nV n) []
def insO (r : Row) : Op := ⟨1, r, pr0, [], [], 0, []⟩
def scanO (q : Pr) (c : List Int) : Op := ⟨4, [], q, [], c, 0, []⟩
def delO (q : Pr) : Op := ⟨3, [], q, [], [], 0, []⟩
def setO (q : Pr) (x : Sx) : Op := ⟨2, [], q, [x], [], 0, []⟩
def aggO (q : Pr) (g : Int) (l : List Ag) : Op := ⟨5, [], q, [], [], g, l⟩
def rollO : Op := ⟨6, [], pr0, [], [], 0, []⟩
theorem sxs_under {n : Nat} {l : List Sx} : (sxsD l).under n := by simp only [sxsD, D.under]; exact underss_map (fun _ => sx_unders) _
theorem ags_under {n : Nat} {l : List Ag} : (agsD l).under n := by simp only [agsD, D.under]; exact underss_map (fun _ => by simp [Ag.c]) _
theorem op_unders {n : Nat} {o : Op} : D.unders n o.c := by
  rw [op_c]; simp [D.unders, row_under, by_under, prs_under, ints_under, sxs_under, ags_under]
theorem evalK {k : Int} {r : Row} : evalF (prK k) r = if (atV r 0).null = true then 3 else truthF (decide (cmpV (atV r 0) (nV k) = 0)) := by
  simp [prK, evalF, holdsF]
theorem pickK_no {k : Int} {r : Row} (h1 : (atV r 0).kind = 1) (h2 : keyF r ≠ k) : evalF (prK k) r ≠ 1 := by
  rw [evalK]
  split
  · omega
  · rename_i hn
    have : ¬ cmpV (atV r 0) (nV k) = 0 := by
      rw [cmpV_null, if_neg hn, if_neg (by simp [nV]), if_pos h1, cmpI_eq]; exact h2
    simp [this, truthF]
def numP (l : List Int) (a : Nat) : Int := (l[a]?).getD (wr .i64 ((a : Int) * 7919))
def kP (d : Nat) (n : Int) : Int := if d ≤ 1 ∧ 4 < andI n 7 then andI n 7 - 4 else andI n 7
def cP (s : Sch) (n : Int) : Int := Int.tmod (andI (shrI .i64 n 3) 255) (s.length : Int)
def vP (s : Sch) (n : Int) : Vl := if cP s n = 0 then nV (andI (shrI .i64 n 11) 15) else match s[(cP s n).toNat]? with
  | some c => valF ⟨c.name, c.kind, false⟩ (shrI .i64 n 11)
  | none => zv
def leafP (s : Sch) (n : Int) : Pr := .mk 2 (cP s n) (Int.tmod (andI (shrI .i64 n 17) 255) 6 + 1) (vP s n) []
def sonsP (n : Int) (son : Nat → Pr) : List Pr := (List.range (andI (shrI .i64 n 11) 3).toNat).map son
def predG (s : Sch) (n k : Int) (son : Nat → Pr) : Pr :=
  if k = 0 then prT else if k = 1 then .mk 3 (cP s n) 0 zv []
  else if k = 5 ∨ k = 6 then .mk (k - 1) 0 0 zv (sonsP n son)
  else if k = 7 then .mk 6 0 0 zv [son 0] else leafP s n
def predF (s : Sch) (l : List Int) : Nat → Nat → Pr
  | 0, a => predG s (numP l a) (kP 0 (numP l a)) fun _ => prT
  | d + 1, a => predG s (numP l a) (kP (d + 1) (numP l a)) fun i => predF s l d (3 * a + i + 1)
theorem kP_at {d : Nat} {n : Int} : ∃ k : Nat, kP d n = k ∧ k ≤ 7 ∧ (d ≤ 1 → k ≤ 4) := by
  obtain ⟨q, hq, h1⟩ := andI_small (a := n) (m := 7) (by simp);have hq' : andI n 7 = q := hq;unfold kP;rw [hq']
  split
  · exact ⟨q - 4, by omega, by omega, by omega⟩
  · exact ⟨q, rfl, h1, by omega⟩
def numO (l : List Int) (a : Nat) : Int := match l[a % l.length]? with
  | some x => wr .i64 (x + wr .i64 ((a : Int) * 7919))
  | none => 0
def predO (s : Sch) (l : List Int) (a : Nat) : Pr := if andI (shrI .i64 (numO l a) 3) 3 = 0 then prK (andI (shrI .i64 (numO l a) 5) 15) else predF s l 3 (a % 7)
def colO (s : Sch) (n : Int) : Int := Int.tmod (andI (shrI .i64 n 9) 255) (s.length : Int)
def addO (cl : Cl) (n : Int) : Bool := decide (cl.kind = 1) && !(valF cl (shrI .i64 n 17)).null && decide (andI (shrI .i64 n 13) 1 = 1)
def sxO (c : Int) (cl : Cl) (n : Int) : Sx := ⟨c, addO cl n, valF cl (shrI .i64 n 17)⟩
def opG (s : Sch) (n k c : Int) (q : Pr) : Op :=
  if k ≤ 2 then insO (rowF s (shrI .i64 n 5))
  else if k ≤ 4 then (if 0 < c then setO q (match s[c.toNat]? with | some cl => sxO c cl n | none => ⟨0, false, zv⟩) else delO q)
  else if k = 5 then scanO q [c, 0]
  else if k = 6 then aggO q (wr .i64 (c - wr .i64 (andI (shrI .i64 n 14) 1 * wr .i64 (c + 1)))) [⟨1, 0⟩, ⟨wr .i64 (3 + andI (shrI .i64 n 15) 1), c⟩, ⟨2, 0⟩]
  else if andI (shrI .i64 n 18) 7 = 0 then rollO else delO q
def opF (s : Sch) (l : List Int) (a : Nat) : Op := opG s (numO l a) (andI (numO l a) 7) (colO s (numO l a)) (predO s l a)
end Go.Lib
end
