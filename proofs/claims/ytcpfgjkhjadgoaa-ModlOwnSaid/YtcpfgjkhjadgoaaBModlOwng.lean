/-
  Texts that the claim's last one rests on, joined.
-/
import Derived.Test.YtcpfgjkhjadgoaaBModlOwnf
import Derived.Test.YtcpfgjkhjadgoaaBModlOwnc

section
namespace Go.Dv
open Go.Vm
variable {p : Prog} {ext : Ext} {Q : ResD → Prop}
def D.hasB (x : Nat) : D → Prop
  | .slice b _ _ _ _ _ => x = b
  | _ => False
structure Gr (H0 H : HpD) (sz : Nat) (s : D) (el : List (List D)) : Prop where
  sub : Sub H0 H
  len : ∀ e, e ∈ el → e.length = sz
  at_ : (s = .lit .nilslice ∧ el = []) ∨ ∃ b ex el0, s = .slice b 0 sz el.length el.length ex ∧ H0.next ≤ b ∧ b < H.next ∧ H.blk b = .cells el0.flatten false ∧ D.less el0 el
section
variable {H0 H H1 : HpD} {sz : Nat} {s : D} {el : List (List D)}
theorem Gr.nil (hs : Sub H0 H) : Gr H0 H sz (.lit .nilslice) [] := ⟨hs, fun _ h => (by cases h), .inl ⟨rfl, rfl⟩⟩
theorem Gr.lit (hs : Sub H0 H) {ex : Bool} (he : ∀ e, e ∈ el → e.length = sz) {c : List D} (hc : c = el.flatten) {n : Nat} (hn : n = el.length) : Gr H0 (H.new (.cells c false)) sz (.slice H.next 0 sz n n ex) el :=
  ⟨hs.new, he, .inr ⟨H.next, ex, el, by rw [hn], hs.next, by simp [new_next], by simp [new_blk, hc], D.less_refl _⟩⟩
theorem Gr.start : Gr H H sz (.lit .nilslice) [] := .nil .refl
theorem Gr.mono (g : Gr H0 H sz s el) (h : Sub H H1) : Gr H0 H1 sz s el := by
  refine ⟨g.sub.trans h, g.len, ?_⟩
  rcases g.at_ with k | ⟨b, ex, el0, rfl, h1, h2, h3, h4⟩
  · exact .inl k
  · exact .inr ⟨b, ex, el0, rfl, h1, Nat.lt_of_lt_of_le h2 h.next, (h.blk b h2).trans h3, h4⟩
theorem Gr.keep (g : Gr H0 H sz s el) (hs : Sub H0 H1) (hn : H.next ≤ H1.next) (hk : ∀ x, s.hasB x → H1.blk x = H.blk x) : Gr H0 H1 sz s el := by
  refine ⟨hs, g.len, ?_⟩
  rcases g.at_ with k | ⟨b, ex, el0, rfl, h1, h2, h3, h4⟩
  · exact .inl k
  · exact .inr ⟨b, ex, el0, rfl, h1, Nat.lt_of_lt_of_le h2 hn, (hk b rfl).trans h3, h4⟩
theorem Gr.lenb (g : Gr H0 H sz s el) : lenbD s = some (.lit (.int .i64 (el.length : Int))) := by
  rcases g.at_ with ⟨rfl, rfl⟩ | ⟨b, ex, el0, rfl, _⟩ <;> rfl
theorem flatten_len {sz : Nat} : ∀ {el : List (List D)}, (∀ e, e ∈ el → e.length = sz) → el.flatten.length = el.length * sz
  | [], _ => by simp
  | e :: l, h => by
    rw [List.flatten_cons, List.length_append, flatten_len fun x hx => h x (List.mem_cons_of_mem _ hx), h e (List.mem_cons_self ..), List.length_cons, Nat.succ_mul, Nat.add_comm]
theorem flatsD_flatten : ∀ {l : List (List D)}, (∀ e, e ∈ l → flatsD e = true) → flatsD l.flatten = true
  | [], _ => rfl
  | e :: l, h => by
    have key : ∀ (a b : List D), flatsD (a ++ b) = (flatsD a && flatsD b) := by
      intro a b
      induction a with
      | nil => simp [flatsD]
      | cons d a ih => simp [flatsD, ih, Bool.and_assoc]
    rw [List.flatten_cons, key, h e (List.mem_cons_self ..), flatsD_flatten fun x hx => h x (List.mem_cons_of_mem _ hx)]
    rfl
theorem roomyD {by_ n : Nat} (h : by_ * n ≤ 1099511627776) (h2 : n ≤ 1099511627776) : roomy by_ n = true := roomy_of h h2
theorem less_append : ∀ {a a' b b' : List (List D)}, D.less a a' → D.less b b' → D.less (a ++ b) (a' ++ b')
  | [], [], _, _, _, k => k
  | x :: a, y :: a', b, b', k, k2 => by
    simp only [D.less, List.cons_append] at k ⊢
    exact ⟨k.1, less_append k.2 k2⟩
  | [], _ :: _, _, _, k, _ => by simp [D.less] at k
  | _ :: _, [], _, _, k, _ => by simp [D.less] at k
theorem less_sz : ∀ {a a' : List (List D)} {sz : Nat}, D.less a a' → (∀ e, e ∈ a' → e.length = sz) → ∀ e, e ∈ a → e.length = sz
  | [], _, _, _, _, e, he => by cases he
  | x :: a, y :: a', sz, k, h, e, he => by
    simp only [D.less] at k
    rcases List.mem_cons.1 he with rfl | he
    · rw [les_length k.1]; exact h y (List.mem_cons_self ..)
    · exact less_sz k.2 (fun z hz => h z (List.mem_cons_of_mem _ hz)) e he
  | _ :: _, [], _, k, _, _, _ => by simp [D.less] at k
theorem Gr.grow (g : Gr H0 H sz s el) {by_ n : Nat} {new0 new : List (List D)} (hle : D.less new0 new) (hn : new.length = n) (h0 : 0 < n) (he : ∀ e, e ∈ new → e.length = sz) (hr : roomy by_ (el.length + n) = true) :
    ∃ s' H', appendCD sz by_ H s n new0.flatten = some (s', H') ∧ Gr H0 H' sz s' (el ++ new) ∧ (∀ x, x < H.next → ¬ s.hasB x → H'.blk x = H.blk x) ∧ H.next < H'.next ∧ s' = .slice H.next 0 sz (el ++ new).length (el ++ new).length false := by
  have hlen : ∀ e, e ∈ el ++ new → e.length = sz := fun e h => by
    rcases List.mem_append.1 h with h | h
    · exact g.len e h
    · exact he e h
  rcases g.at_ with ⟨rfl, rfl⟩ | ⟨b, ex, el0, rfl, h1, h2, h3, h4⟩
  · simp only [List.length_nil, Nat.zero_add] at hr
    refine ⟨_, _, by simp only [appendCD, hr, cond_true]; rfl, ⟨g.sub.new, hlen, .inr ⟨H.next, false, new0, by simp [hn], g.sub.next, by simp [new_next], by simp [new_blk], by simpa using hle⟩⟩, fun x hx _ => by rw [new_blk, if_neg (by omega)], Nat.lt_succ_self _, by simp [hn]⟩
  · have hel := less_length h4
    have hf := flatten_len (less_sz h4 g.len)
    have hrd : readD H b 0 (el.length * sz) = some el0.flatten := by
      rw [readD_eq, h3, ← hel, ← hf]
      simp only [Nat.zero_add, Nat.le_refl, if_true, List.drop_zero, List.take_length]
    have hnew : D.less (el0 ++ new0) (el ++ new) := less_append h4 hle
    cases ex with
    | false =>
      refine ⟨.slice H.next 0 sz (el.length + n) (el.length + n) false, (H.put b .gone).new (.cells (el0.flatten ++ new0.flatten) false), ?_, ⟨(g.sub.put h1).new, hlen, .inr ⟨H.next, false, el0 ++ new0, by simp [hn], g.sub.next, by simp [new_next, put_next], by simp [new_blk, put_next], hnew⟩⟩, fun x hx hx2 => ?_, by simp [new_next, put_next], by simp [hn]⟩
      · simp only [appendCD, hr, hrd, h3, growD]
        rw [show Nat.beq sz sz = true from nbeq.2 rfl, show Nat.ble (el.length + n) el.length = false from by rw [nble_d]; exact decide_eq_false (by omega)]
        rfl
      · rw [new_blk, put_next, if_neg (by omega), put_blk, if_neg]
        exact hx2
    | true =>
      refine ⟨.slice H.next 0 sz (el.length + n) (el.length + n) false, H.new (.cells (el0.flatten ++ new0.flatten) false), ?_, ⟨g.sub.new, hlen, .inr ⟨H.next, false, el0 ++ new0, by simp [hn], g.sub.next, by simp [new_next], by simp [new_blk], hnew⟩⟩, fun x hx hx2 => ?_, by simp [new_next], by simp [hn]⟩
      · simp only [appendCD, hr, hrd, growD]
        rw [show Nat.beq sz sz = true from nbeq.2 rfl, show Nat.ble (el.length + n) el.length = false from by rw [nble_d]; exact decide_eq_false (by omega)]
        rfl
      · rw [new_blk, if_neg (by omega)]
theorem Gr.app' (g : Gr H0 H sz s el) {by_ : Nat} {m : Md} {new0 new : List (List D)} (hle : D.less new0 new) (he : ∀ e, e ∈ new → e.length = sz) (hf : ∀ e, e ∈ new0 → flatsD e = true) (hr : roomy by_ (el.length + new.length) = true) :
    ∃ s' H', appendD sz by_ H s (.row sz m new0) = some (s', H') ∧ Gr H0 H' sz s' (el ++ new) ∧ (∀ x, x < H.next → ¬ s.hasB x → H'.blk x = H.blk x) ∧ H.next ≤ H'.next := by
  have hln := less_length hle
  cases hn : new0 with
  | nil =>
    have : new = [] := by rw [hn] at hln; exact List.eq_nil_of_length_eq_zero hln.symm
    subst this
    refine ⟨s, H, ?_, by rw [List.append_nil]; exact g, fun _ _ _ => rfl, Nat.le_refl _⟩
    simp only [appendD, lenD, List.length_nil]
    rcases g.at_ with ⟨rfl, rfl⟩ | ⟨b, ex, el0, rfl, _⟩
    · rfl
    · simp only [sameD]
      rw [show Nat.beq sz sz = true from nbeq.2 rfl]
      rfl
  | cons e l =>
    rw [← hn]
    have h0 : 0 < new.length := by rw [← hln, hn]; simp
    obtain ⟨s', H', e1, g', k, n, _⟩ := g.grow (by_ := by_) hle rfl h0 he hr
    refine ⟨s', H', ?_, g', k, Nat.le_of_lt n⟩
    simp only [appendD, lenD]
    obtain ⟨k, hk⟩ : ∃ k, new.length = k + 1 := ⟨new.length - 1, by omega⟩
    rw [hln, hk]
    simp only
    have hm : srcD H sz (k + 1) (.row sz m new0) = some new0.flatten := by
      simp only [srcD]
      rw [show Nat.beq sz sz = true from nbeq.2 rfl, show Nat.ble (k + 1) new0.length = true from nble.2 (by omega)]
      rw [show new0.take (k + 1) = new0 from List.take_of_length_le (by omega)]
      cases m <;> rfl
    rw [hm]
    simp only [appendN, flatsD_flatten hf, cond_true]
    rw [← hk]; exact e1
theorem Gr.app (g : Gr H0 H sz s el) {by_ : Nat} {m : Md} {new : List (List D)} (he : ∀ e, e ∈ new → e.length = sz) (hf : ∀ e, e ∈ new → flatsD e = true) (hr : roomy by_ (el.length + new.length) = true) :
    ∃ s' H', appendD sz by_ H s (.row sz m new) = some (s', H') ∧ Gr H0 H' sz s' (el ++ new) ∧ (∀ x, x < H.next → ¬ s.hasB x → H'.blk x = H.blk x) ∧ H.next ≤ H'.next := g.app' (D.less_refl _) he hf hr
theorem Gr.push (g : Gr H0 H sz s el) {by_ : Nat} {m : Md} {e : List D} (e' : List D) (hle : D.les e e') (he : e'.length = sz) (hf : flatsD e = true) (hr : roomy by_ (el.length + 1) = true) :
    ∃ s' H', appendD sz by_ H s (.row sz m [e]) = some (s', H') ∧ Gr H0 H' sz s' (el ++ [e']) ∧ (∀ x, x < H.next → ¬ s.hasB x → H'.blk x = H.blk x) ∧ H.next ≤ H'.next ∧ s' = .slice H.next 0 sz (el.length + 1) (el.length + 1) false := by
  obtain ⟨s', H', e1, g', k, n, e2⟩ := g.grow (by_ := by_) (n := 1) (new0 := [e]) (new := [e']) (by simp only [D.less]; exact ⟨hle, trivial⟩) rfl (by omega) (by simp [he]) hr
  refine ⟨s', H', ?_, g', k, Nat.le_of_lt n, by simpa using e2⟩
  simp only [appendD, lenD, List.length_singleton]
  have hm : srcD H sz (0 + 1) (.row sz m [e]) = some [e].flatten := by
    simp only [srcD]
    rw [show Nat.beq sz sz = true from nbeq.2 rfl]
    cases m <;> rfl
  rw [hm]
  simp only [appendN]
  rw [show flatsD [e].flatten = true from by simpa using hf]
  exact e1
theorem appendD_slice1 {by_ b o cap : Nat} {ex ro : Bool} {cs : List D} (hb : H.blk b = .cells cs ro) (ho : o + sz ≤ cs.length) : appendD sz by_ H s (.slice b o sz 1 cap ex) = appendD sz by_ H s (.row sz .p [(cs.drop o).take sz]) := by
  simp only [appendD, lenD, List.length_singleton]
  have h1 : srcD H sz (0 + 1) (.slice b o sz 1 cap ex) = some ((cs.drop o).take sz) := by
    simp only [srcD]
    rw [show Nat.beq sz sz = true from nbeq.2 rfl, readD_eq, hb]
    simp [ho]
  have h2 : srcD H sz (0 + 1) (.row sz .p [(cs.drop o).take sz]) = some ((cs.drop o).take sz) := by
    simp only [srcD]
    rw [show Nat.beq sz sz = true from nbeq.2 rfl]
    simp
  rw [h1, h2]
theorem Gr.fin (g : Gr H0 H sz s el) (hu : D.underss H0.next el) {m : Md} (hm : m = .p ∨ m = .w) : Fin H0 (.row sz m el) s H := by
  have hm' := hm
  rcases g.at_ with ⟨rfl, rfl⟩ | ⟨b, ex, el0, rfl, h1, h2, h3, h4⟩
  · exact ⟨H, .le (by simp [D.le]), g.sub, by simp [D.under]⟩
  · have hel := less_length h4
    refine ⟨H.put b .gone, (WeakV.freeze h3 (less_sz h4 g.len)).trans (.le ?_), g.sub.put h1, by simpa [D.under] using hu⟩
    simp only [frz]
    rw [if_pos ⟨trivial, trivial, trivial, hel.symm, by omega⟩]
    simp only [D.le, h4, and_true, true_and]
    by_cases hx : el.length = el0.length ∧ ex = true
    · rcases hm' with rfl | rfl <;> simp [hx]
    · rcases hm' with rfl | rfl <;> simp [hx]
theorem Gr.slot (g : Gr H0 H sz s el) {t : Nat} {fr : FrD} {args : List D} (ht : lk fr t = s) {m : Md} (hm : m = .p ∨ m = .w) :
    ∃ H', Weak args fr H args ((t, .row sz m el) :: fr) H' ∧ Sub H0 H' ∧ (∀ x, ¬ s.hasB x → H'.blk x = H.blk x) ∧ H'.next = H.next := by
  have hm' := hm
  have put : ∀ {ψ : Nat → Option Nat} {S : Fz} {h : Hp} {fv : Fr} {d : D}, FrR h ψ S fr fv → VD h ψ S d (ev fv (.tmp t)) → FrR h ψ S ((t, d) :: fr) fv := by
    intro ψ S h fv d k kd u
    rw [lk_cons]
    split
    · rename_i e; subst e; exact kd
    · exact k u
  rcases g.at_ with ⟨rfl, rfl⟩ | ⟨b, ex, el0, rfl, h1, h2, h3, h4⟩
  · refine ⟨H, ?_, g.sub, fun _ _ => rfl, rfl⟩
    intro G ψ S h fv vs sr kf kv
    refine ⟨ψ, S, .refl, sr, put kf (VD.le (.lit .nilslice) _ (by simp [D.le]) ?_), kv⟩
    have := kf t
    rwa [ht] at this
  · refine ⟨H.put b .gone, ?_, g.sub.put h1, fun x hx => by rw [put_blk, if_neg]; exact hx, put_next⟩
    intro G ψ S h fv vs sr kf kv
    have hel := less_length h4
    obtain ⟨c, hc, hr⟩ := frz_row sr h3 (less_sz h4 g.len)
    obtain ⟨x0, s0⟩ := sr.freeze hc
    refine ⟨ψ, _, x0, s0, put (kf.mono x0) ?_, VDl.mono x0 _ kv⟩
    have := kf t
    rw [ht] at this
    simp only [VD] at this
    obtain ⟨c', e, e2⟩ := this
    rw [hc] at e; cases e
    rw [e2]
    rw [← hel]
    refine VD.le _ _ ?_ (hr _ _ (Nat.le_refl _))
    simp only [D.le, h4, and_true, true_and]
    rcases hm' with rfl | rfl <;> simp
theorem VDl.setD {h : Hp} {ψ : Nat → Option Nat} {S : Fz} {args : List D} {vs : List V} {j : Nat} {d d' : D} (k : VDl h ψ S args vs) (hj : args[j]? = some d) (hd : ∀ v, VD h ψ S d v → VD h ψ S d' v) : VDl h ψ S (args.set j d') vs := by
  obtain ⟨v, e, kv⟩ := VDl.get k hj
  have := VDl.set j k (hd v kv)
  have he : vs.set j v = vs := by
    obtain ⟨hl, rfl⟩ := List.getElem?_eq_some_iff.1 e
    exact List.set_getElem_self hl
  rwa [he] at this
theorem Gr.arg (g : Gr H0 H sz s el) (j : Nat) {fr : FrD} {args : List D} (ht : args[j]? = some s) {m : Md} (hm : m = .p ∨ m = .w) :
    ∃ H', Weak args fr H (args.set j (.row sz m el)) fr H' ∧ Sub H0 H' ∧ (∀ x, ¬ s.hasB x → H'.blk x = H.blk x) ∧ H'.next = H.next := by
  have hm' := hm
  rcases g.at_ with ⟨rfl, rfl⟩ | ⟨b, ex, el0, rfl, h1, h2, h3, h4⟩
  · refine ⟨H, ?_, g.sub, fun _ _ => rfl, rfl⟩
    intro G ψ S h fv vs sr kf kv
    exact ⟨ψ, S, .refl, sr, kf, kv.setD ht fun v hv => VD.le (.lit .nilslice) _ (by simp [D.le]) hv⟩
  · refine ⟨H.put b .gone, ?_, g.sub.put h1, fun x hx => by rw [put_blk, if_neg]; exact hx, put_next⟩
    intro G ψ S h fv vs sr kf kv
    have hel := less_length h4
    obtain ⟨c, hc, hr⟩ := frz_row sr h3 (less_sz h4 g.len)
    obtain ⟨x0, s0⟩ := sr.freeze hc
    refine ⟨ψ, _, x0, s0, kf.mono x0, (VDl.mono x0 _ kv).setD ht fun v hv => ?_⟩
    simp only [VD] at hv
    obtain ⟨c', e, e2⟩ := hv
    rw [hc] at e; cases e
    rw [e2]
    rw [← hel]
    refine VD.le _ _ ?_ (hr _ _ (Nat.le_refl _))
    simp only [D.le, h4, and_true, true_and]
    rcases hm' with rfl | rfl <;> simp
theorem sem_push_le {by_ : Nat} {m : Md} {e : List D} (e' : List D) {k : D → HpD → Cfg} (g : Gr H0 H sz s el) (hle : D.les e e') (he : e'.length = sz) (hf : flatsD e = true) (hr : roomy by_ (el.length + 1) = true)
    (hk : ∀ s' H', Gr H0 H' sz s' (el ++ [e']) → (∀ x, x < H.next → ¬ s.hasB x → H'.blk x = H.blk x) → (H.next ≤ H'.next ∧ s' = .slice H.next 0 sz (el.length + 1) (el.length + 1) false) → Sem p ext Q (k s' H')) : Sem p ext Q (optH (appendD sz by_ H s (.row sz m [e])) k) := by
  obtain ⟨s', H', e1, g', k1, n1⟩ := g.push (m := m) e' hle he hf hr
  rw [e1]
  exact hk s' H' g' k1 n1
theorem sem_push {by_ : Nat} {m : Md} {e : List D} {k : D → HpD → Cfg} (g : Gr H0 H sz s el) (he : e.length = sz) (hf : flatsD e = true) (hr : roomy by_ (el.length + 1) = true)
    (hk : ∀ s' H', Gr H0 H' sz s' (el ++ [e]) → (∀ x, x < H.next → ¬ s.hasB x → H'.blk x = H.blk x) → (H.next ≤ H'.next ∧ s' = .slice H.next 0 sz (el.length + 1) (el.length + 1) false) → Sem p ext Q (k s' H')) : Sem p ext Q (optH (appendD sz by_ H s (.row sz m [e])) k) :=
  sem_push_le e g (D.les_refl _) he hf hr hk
theorem sem_row (g : Gr H0 H sz s el) (j : Nat) {f : Nat} {args : List D} {dst : Option Nat} {l : List MO} {fz lv : List Nat} {K : List KD} {fr : FrD} (ht : args[j]? = some s)
    (hs : ∀ H', Sub H0 H' → (∀ x, ¬ s.hasB x → H'.blk x = H.blk x) → H'.next = H.next → Sem p ext Q (.call f (args.set j (.row sz .p el)) dst l fz lv K .mk fr H')) : Sem p ext Q (.call f args dst l fz lv K .mk fr H) := by
  obtain ⟨H', w, s', k, n⟩ := g.arg j (fr := fr) ht (m := .p) (by simp)
  exact sem_weak_call w (hs H' s' k n)
theorem sem_turn_exit (g : Gr H0 H sz s el) (t : Nat) {id : Nat} {K : List KD} {fr : FrD} (ht : lk fr t = s)
    (hs : ∀ H', Sub H0 H' → (∀ x, ¬ s.hasB x → H'.blk x = H.blk x) → H'.next = H.next → Sem p ext Q (.res (.exit id ((t, .row sz .p el) :: fr) H') K .mk)) : Sem p ext Q (.res (.exit id fr H) K .mk) := by
  obtain ⟨H', w, s', k, n⟩ := g.slot (args := []) ht (m := .p) (by simp)
  exact sem_weak_exit w (hs H' s' k n)
theorem sem_turn_ops (g : Gr H0 H sz s el) (t : Nat) {l : List MO} {fz lv : List Nat} {K : List KD} {fr : FrD} (ht : lk fr t = s)
    (hs : ∀ H', Sub H0 H' → (∀ x, ¬ s.hasB x → H'.blk x = H.blk x) → H'.next = H.next → Sem p ext Q (.ops l fz lv K .mk ((t, .row sz .p el) :: fr) H')) : Sem p ext Q (.ops l fz lv K .mk fr H) := by
  obtain ⟨H', w, s', k, n⟩ := g.slot (args := []) ht (m := .p) (by simp)
  exact sem_weak_ops w (hs H' s' k n)
theorem Gr.finA (g : Gr H0 H sz s el) (hu : D.underss H0.next el) {m : Md} (hm : m = .p ∨ m = .w) : Fin H0 (.agg [.row sz m el]) (.agg [s]) H := by
  obtain ⟨H2, w, sub, u⟩ := g.fin hu hm
  refine ⟨H2, ?_, sub, by simpa [D.under] using u⟩
  intro G ψ S h v sr kv
  simp only [VD, VDl] at kv
  obtain ⟨l', rfl, x, r, rfl, kx, rfl⟩ := kv
  obtain ⟨ψ', S', x0, s', k'⟩ := w _ ψ S h x sr kx
  exact ⟨ψ', S', x0, s', by simp only [VD, VDl]; exact ⟨_, rfl, _, _, rfl, k', rfl⟩⟩
theorem WeakV.part {pre : List D} {b o n cap : Nat} {ex ro : Bool} {cs : List D} {el : List (List D)} (hb : H.blk b = .cells cs ro) (he : ∀ e, e ∈ el → e.length = sz) (hl : el.length = n) (hc : (cs.drop o).take (n * sz) = el.flatten) (hn : n ≤ cap) :
    WeakV (.agg (pre ++ [.slice b o sz n cap ex])) H (.agg (pre ++ [.row sz .p el])) (H.put b .gone) := by
  intro G ψ S h v sr kv
  obtain ⟨c, h1, h2, l', h3, h4⟩ : ∃ c, ψ b = some c ∧ ¬ S c ∧ ∃ l', h.blk c = .cells l' ro ∧ VDl h ψ S cs l' := by
    obtain ⟨c, h1, h2, h3⟩ := sr.live b (by rw [hb]; rfl)
    rw [hb] at h3
    exact ⟨c, h1, h2, h3⟩
  obtain ⟨x0, s0⟩ := sr.freeze h1
  refine ⟨ψ, _, x0, s0, ?_⟩
  simp only [VD] at kv ⊢
  obtain ⟨l2, rfl, kl⟩ := kv
  refine ⟨l2, rfl, ?_⟩
  have key : ∀ (pre : List D) (l2 : List V), VDl h ψ S (pre ++ [.slice b o sz n cap ex]) l2 → VDl h ψ (S.add c) (pre ++ [.row sz .p el]) l2 := by
    intro pre
    induction pre with
    | nil =>
      intro l2 kl
      simp only [List.nil_append, VDl, VD] at kl ⊢
      obtain ⟨x, r, rfl, ⟨c', e, rfl⟩, rfl⟩ := kl
      rw [h1] at e; cases e
      refine ⟨_, _, rfl, .inr ⟨c, o, cap, ex, by rw [hl], by rw [hl]; exact hn, fun e => (by cases e), .inr ⟨l', ro, Fz.at_p (.inr rfl), h3, ?_⟩⟩, rfl⟩
      have k1 := VDl.take (n * sz) (VDl.drop o h4)
      rw [hc] at k1
      have := VDss.of (us := (l'.drop o).drop (n * sz)) he (VDl.mono x0 _ k1)
      rwa [List.take_append_drop] at this
    | cons d pre ih =>
      intro l2 kl
      simp only [List.cons_append, VDl] at kl ⊢
      obtain ⟨x, r, rfl, k1, k2⟩ := kl
      exact ⟨x, r, rfl, VD.mono x0 _ k1, ih _ k2⟩
  exact key pre l2 kl
theorem own_fn {f : Nat} {args : List D} {sz : Nat} {el : List (List D)} (hw : ∀ H, WcD p ext f args H fun d H' => Gr H H' sz d el) (hu : ∀ n, D.underss n el) : FnD p ext f args (.row sz .p el) := by
  intro H
  refine WcD.drop ((hw H).mono ?_)
  intro d H' g
  obtain ⟨H2, w, s, u⟩ := g.fin (hu H.next) (m := .p) (by simp)
  exact ⟨_, H2, w, s, u, rfl, rfl⟩
theorem spliceD_flatten {sz j : Nat} {x : D} : ∀ {el : List (List D)} {i : Nat} {e : List D}, (∀ e, e ∈ el → e.length = sz) → el[i]? = some e → j < sz → spliceD el.flatten (i * sz + j) [x] = (el.set i (e.set j x)).flatten
  | [], _, _, _, he, _ => by simp at he
  | a :: l, 0, e, hs, he, hj => by
    simp at he
    subst he
    have ha := hs a (List.mem_cons_self ..)
    simp only [Nat.zero_mul, Nat.zero_add, List.flatten_cons, List.set_cons_zero]
    have key : ∀ (a m : List D) (j : Nat), j < a.length → spliceD (a ++ m) j [x] = a.set j x ++ m := by
      intro a
      induction a with
      | nil => intro m j h; simp at h
      | cons d a ih =>
        intro m j h
        cases j with
        | zero => simp [spliceD_zero]
        | succ j => simp only [List.cons_append, spliceD_succ, List.set_cons_succ]; rw [ih m j (by simpa using h)]
    exact key a _ j (by omega)
  | a :: l, i + 1, e, hs, he, hj => by
    have ha := hs a (List.mem_cons_self ..)
    have ih := spliceD_flatten (j := j) (x := x) (el := l) (i := i) (e := e) (fun y hy => hs y (List.mem_cons_of_mem _ hy)) (by simpa using he) hj
    simp only [List.flatten_cons, List.set_cons_succ]
    have key : ∀ (a m : List D) (k : Nat), spliceD (a ++ m) (a.length + k) [x] = a ++ spliceD m k [x] := by
      intro a
      induction a with
      | nil => intro m k; simp
      | cons d a ih2 =>
        intro m k
        rw [List.cons_append, List.length_cons, show a.length + 1 + k = (a.length + k) + 1 from by omega, spliceD_succ, ih2]; rfl
    rw [show (i + 1) * sz + j = a.length + (i * sz + j) from by rw [ha, Nat.succ_mul]; omega, key, ih]
theorem les_set : ∀ {l l' : List D} {j : Nat} {x : D}, D.les l l' → D.les (l.set j x) (l'.set j x)
  | [], [], _, _, k => k
  | a :: l, b :: l', 0, x, k => by simp only [D.les, List.set_cons_zero] at k ⊢; exact ⟨D.le_refl x, k.2⟩
  | a :: l, b :: l', j + 1, x, k => by simp only [D.les, List.set_cons_succ] at k ⊢; exact ⟨k.1, les_set k.2⟩
  | [], _ :: _, _, _, k => by simp [D.les] at k
  | _ :: _, [], _, _, k => by simp [D.les] at k
theorem less_get : ∀ {l l' : List (List D)} {i : Nat} {e : List D}, D.less l l' → l'[i]? = some e → ∃ e0, l[i]? = some e0 ∧ D.les e0 e
  | [], [], _, _, _, he => by simp at he
  | a :: l, b :: l', 0, e, k, he => by simp at he; subst he; simp only [D.less] at k; exact ⟨a, rfl, k.1⟩
  | a :: l, b :: l', i + 1, e, k, he => by simp only [D.less] at k; exact less_get (l := l) (l' := l') k.2 (by simpa using he)
  | [], _ :: _, _, _, k, _ => by simp [D.less] at k
  | _ :: _, [], _, _, k, _ => by simp [D.less] at k
theorem less_set : ∀ {l l' : List (List D)} {i : Nat} {a b : List D}, D.less l l' → D.les a b → D.less (l.set i a) (l'.set i b)
  | [], [], _, _, _, k, _ => k
  | x :: l, y :: l', 0, a, b, k, k2 => by simp only [D.less, List.set_cons_zero] at k ⊢; exact ⟨k2, k.2⟩
  | x :: l, y :: l', i + 1, a, b, k, k2 => by simp only [D.less, List.set_cons_succ] at k ⊢; exact ⟨k.1, less_set k.2 k2⟩
  | [], _ :: _, _, _, _, k, _ => by simp [D.less] at k
  | _ :: _, [], _, _, _, k, _ => by simp [D.less] at k
theorem Gr.place (g : Gr H0 H sz s el) (hn : 0 < el.length) : ∃ b ex el0, s = .slice b 0 sz el.length el.length ex ∧ H0.next ≤ b ∧ b < H.next ∧ H.blk b = .cells el0.flatten false ∧ D.less el0 el ∧ el0.flatten.length = el.length * sz := by
  rcases g.at_ with ⟨rfl, rfl⟩ | ⟨b, ex, el0, rfl, h1, h2, h3, h4⟩
  · simp at hn
  · exact ⟨b, ex, el0, rfl, h1, h2, h3, h4, by rw [flatten_len (less_sz h4 g.len), less_length h4]⟩
theorem Gr.set (g : Gr H0 H sz s el) {b : Nat} {ex : Bool} {el0 : List (List D)} (hs : s = .slice b 0 sz el.length el.length ex) (h1 : H0.next ≤ b) (h2 : b < H.next) (h4 : D.less el0 el) {i j o : Nat} {e : List D} {x : D} (he : el[i]? = some e) (hj : j < sz) (ho : o = i * sz + j) :
    Gr H0 (H.put b (.cells (spliceD el0.flatten o [x]) false)) sz s (el.set i (e.set j x)) := by
  subst ho
  obtain ⟨e0, h5, h6⟩ := less_get h4 he
  have hl : e.length = sz := g.len e (List.mem_of_getElem? he)
  refine ⟨g.sub.put h1, fun y hy => ?_, .inr ⟨b, ex, el0.set i (e0.set j x), by rw [List.length_set]; exact hs, h1, h2, ?_, less_set h4 (les_set h6)⟩⟩
  · rcases List.mem_or_eq_of_mem_set hy with hy | rfl
    · exact g.len y hy
    · rw [List.length_set]; exact hl
  · rw [put_blk, if_pos rfl, spliceD_flatten (less_sz h4 g.len) h5 hj]
end
theorem sR {A B : HpD} (h : Sub A B := by repeat (first | exact Sub.refl | apply Sub.new | refine Sub.put ?_ (by first | omega | (simp only [put_next, new_next]; omega)))) : Sub A B := h
theorem sB {A B C : HpD} (s : Sub A B) (h : Sub A B → A.next ≤ B.next → Sub A C := by intro _ _; repeat (first | assumption | apply Sub.new | refine Sub.put ?_ (by first | omega | (simp only [put_next, new_next]; omega)))) : Sub A C := h s s.next
theorem sf {p : Prog} {ext : Ext} {Q : ResD → Prop} {f : Nat} {args args' : List D} {d : D} (hf : FnD p ext f args' d) {dst : Option Nat} {l : List MO} {fz lv : List Nat} {K : List KD} {fr : FrD} {H : HpD}
    (hs : Sem p ext Q (run p.env 9000 (.ops l fz lv K .mk (putD fr dst d) H))) (ha : D.les args args' := by first | exact D.les_refl _ | simp) : Sem p ext Q (.call f args dst l fz lv K .mk fr H) := sem_fn hf ha (sem_run 9000 _ hs)
end Go.Dv
end

section
namespace Go.Lib
open Go.Vm Go.Dv
abbrev By := Fin 256
structure Vl where
  null : Bool
  kind : Int
  n : Int
  bytes : List By
  small : bytes.length < 1000000
def byE (b : List By) : List (List D) := b.map fun c => [.lit (.int .u8 (c.val : Int))]
def byD (b : List By) : D := .row 1 .p (byE b)
def Vl.c (v : Vl) : List D := [.lit (.bool v.null), .lit (.int .i64 v.kind), .lit (.int .i64 v.n), byD v.bytes]
abbrev Row := List Vl
def rowE (r : Row) : List (List D) := r.map Vl.c
def rowD (r : Row) : D := .row 4 .p (rowE r)
def rowsE (l : List Row) : List (List D) := l.map fun r => [rowD r]
def rowsD (l : List Row) : D := .row 1 .p (rowsE l)
theorem by_under {n : Nat} {b : List By} : (byD b).under n := by
  simp only [byD, D.under]; exact underss_map (fun _ => by simp) _
theorem vl_unders {n : Nat} {v : Vl} : D.unders n v.c := by simp [Vl.c, by_under]
theorem row_under {n : Nat} {r : Row} : (rowD r).under n := by
  simp only [rowD, D.under]; exact underss_map (fun _ => vl_unders) _
theorem rows_under {n : Nat} {l : List Row} : (rowsD l).under n := by
  simp only [rowsD, D.under]; exact underss_map (fun _ => by simp [row_under]) _
theorem by_underss {n : Nat} {b : List By} : D.underss n (byE b) := underss_map (fun _ => by simp) _
theorem row_underss {n : Nat} {r : Row} : D.underss n (rowE r) := underss_map (fun _ => vl_unders) _
theorem rows_underss {n : Nat} {l : List Row} : D.underss n (rowsE l) := underss_map (fun _ => by simp [row_under]) _
theorem by_flat {b : List By} : flatD (byD b) = true := rfl
theorem row_flat {r : Row} : flatD (rowD r) = true := rfl
theorem rows_flat {l : List Row} : flatD (rowsD l) = true := rfl
theorem vl_len {v : Vl} : v.c.length = 4 := rfl
theorem vl_flats {v : Vl} : flatsD v.c = true := rfl
theorem vl_0 {v : Vl} : v.c[0]? = some (.lit (.bool v.null)) := rfl
theorem vl_1 {v : Vl} : v.c[1]? = some (.lit (.int .i64 v.kind)) := rfl
theorem vl_2 {v : Vl} : v.c[2]? = some (.lit (.int .i64 v.n)) := rfl
theorem vl_3 {v : Vl} : v.c[3]? = some (byD v.bytes) := rfl
theorem vl_take {v : Vl} : v.c.take 4 = v.c := rfl
theorem vl_drop {v : Vl} : v.c.drop 4 = [] := rfl
theorem by_len {b : List By} : (byE b).length = b.length := by simp [byE]
theorem row_len {r : Row} : (rowE r).length = r.length := by simp [rowE]
theorem rows_len {l : List Row} : (rowsE l).length = l.length := by simp [rowsE]
theorem lenb_by {b : List By} : lenbD (byD b) = some (.lit (.int .i64 (b.length : Int))) := by simp [byD, by_len]
theorem lenb_row {r : Row} : lenbD (rowD r) = some (.lit (.int .i64 (r.length : Int))) := by simp [rowD, row_len]
theorem lenb_rows {l : List Row} : lenbD (rowsD l) = some (.lit (.int .i64 (l.length : Int))) := by simp [rowsD, rows_len]
theorem cellsD_by {b : List By} : cellsD (byD b) = some [byD b] := rfl
theorem cellsD_rowD {r : Row} : cellsD (rowD r) = some [rowD r] := rfl
theorem cellsD_rowsD {l : List Row} : cellsD (rowsD l) = some [rowsD l] := rfl
def bys (b : List By) : List Nat := b.map fun c => c.val
theorem bys_inj {a b : List By} : bys a = bys b ↔ a = b := by
  constructor
  · intro h
    induction a generalizing b with
    | nil => cases b with
      | nil => rfl
      | cons y b => simp [bys] at h
    | cons x a ih => cases b with
      | nil => simp [bys] at h
      | cons y b =>
        simp only [bys, List.map_cons, List.cons.injEq] at h
        rw [Fin.ext h.1, ih h.2]
  · rintro rfl; rfl
theorem toVs_by : ∀ b : List By, toVs (byE b).flatten = some (b.map fun c => V.int .u8 (c.val : Int))
  | [] => rfl
  | c :: b => by
    have := toVs_by b
    simp only [byE] at this
    simp only [byE, List.map_cons, List.flatten_cons, List.singleton_append, toVs, toV, this]
theorem bytesOf_by : ∀ b : List By, eV.bytesOf (b.map fun c => V.int .u8 (c.val : Int)) = some (bys b)
  | [] => rfl
  | c :: b => by
    show cond (Nat.blt c.val 256) _ none = _
    rw [show Nat.blt c.val 256 = true from nblt.2 c.isLt, cond_true, bytesOf_by b]; rfl
theorem text_by {H : HpD} {b : List By} : textD H (byD b) = some (.lit (.str (bys b)), H) := by
  simp only [byD, textD, Nat.beq, cond_true, strD, toVs_by, bytesOf_by]
theorem neqs_iff : ∀ {a b : List Nat}, neqs a b = true ↔ a = b
  | [], [] => by simp [neqs]
  | [], _ :: _ => by simp [neqs]
  | _ :: _, [] => by simp [neqs]
  | x :: a, y :: b => by
    simp only [neqs, cond_eq_ite]
    by_cases h : Nat.beq x y = true
    · rw [if_pos h, neqs_iff]; rw [nbeq] at h; simp [h]
    · rw [if_neg h]; rw [nbeq] at h; simp [h]
theorem neqs_bys {a b : List By} : neqs (bys a) (bys b) = decide (a = b) := by
  rw [Bool.eq_iff_iff, neqs_iff, bys_inj, decide_eq_true_iff]
theorem str_eql {tab : Tab} {a b : List Nat} : binV tab .eql (.str a) (.str b) = some (.bool (neqs a b)) := rfl
theorem str_neq {tab : Tab} {a b : List Nat} : binV tab .neq (.str a) (.str b) = some (.bool (!neqs a b)) := rfl
theorem str_lss {tab : Tab} {a b : List Nat} : binV tab .lss (.str a) (.str b) = some (.bool (slt a b)) := rfl
theorem bytesV_by {h : Hp} {ψ : Nat → Option Nat} {S : Fz} {b : List By} {v : V} (k : VD h ψ S (byD b) v) : bytesV h v = some (bys b) := by
  simp only [byD, VD] at k
  rcases k with ⟨rfl, hb⟩ | ⟨c, o, cp, ex, rfl, h1, h2, k⟩
  · cases b with
    | nil => rfl
    | cons x b => simp [byE] at hb
  · rcases k with ⟨hm, _⟩ | ⟨cs, ro, hs, hb, hp⟩
    · cases hm
    · obtain ⟨us, e1, k1⟩ := VDss.cells hp
      rw [Nat.mul_one] at e1
      have := toVs_ok _ (toVs_by b) k1
      subst this
      have hr : h.read c o (byE b).length = some (b.map fun c => V.int .u8 (c.val : Int)) := by unfold Hp.read; rw [hb]; exact e1
      simp only [bytesV, hr]
      exact bytesOf_by b
theorem vl_set3 {v : Vl} : spliceD v.c 3 [byD v.bytes] = v.c := rfl
theorem by_one {b : List By} : ∀ e, e ∈ byE b → e.length = 1 := by simp [byE]
theorem by_flats {b : List By} : ∀ e, e ∈ byE b → flatsD e = true := by simp [byE]
theorem at_row {r : Row} {n : Nat} : atO 4 (rowD r) (some n) = elemD (r[n]?.map Vl.c) := by simp [rowD, rowE]
theorem at_rows {l : List Row} {n : Nat} : atO 1 (rowsD l) (some n) = elemD (l[n]?.map fun r => [rowD r]) := by simp [rowsD, rowsE]
theorem at_by {b : List By} {n : Nat} : atO 1 (byD b) (some n) = elemD (b[n]?.map fun c => [.lit (.int .u8 (c.val : Int))]) := by simp [byD, byE]
theorem rowE_snoc {r : Row} {i : Nat} {x : Vl} (hx : r[i]? = some x) : rowE (r.take i) ++ [x.c] = rowE (r.take (i + 1)) := by
  rw [List.take_add_one, hx]; simp [rowE]
theorem rowsE_snoc {l : List Row} {i : Nat} {x : Row} (hx : l[i]? = some x) : rowsE (l.take i) ++ [[rowD x]] = rowsE (l.take (i + 1)) := by
  rw [List.take_add_one, hx]; simp [rowsE]
attribute [simp] at_row at_rows at_by
def zv : Vl := ⟨false, 0, 0, [], by simp⟩
theorem zv_le : D.le (.agg [.lit (.bool false), .lit (.int .i64 0), .lit (.int .i64 0), .lit .nilslice]) (.agg zv.c) := by
  simp [Vl.c, zv, byD, byE, D.le]
attribute [simp] vl_set3 vl_0 vl_1 vl_2 vl_3 vl_take vl_drop by_len row_len rows_len lenb_by lenb_row lenb_rows cellsD_by cellsD_rowD cellsD_rowsD text_by neqs_bys str_eql str_neq str_lss
attribute [simp] by_underss row_underss rows_underss by_under vl_unders row_under rows_under by_flat row_flat rows_flat vl_len vl_flats
end Go.Lib
end

section
set_option maxRecDepth 10000
namespace Go.Dv
open Go.Vm
variable {p : Prog} {ext : Ext} {Q : ResD → Prop} {H0 H : HpD} {sz : Nat} {s : D} {el : List (List D)}
theorem les_append : ∀ {a a' b b' : List D}, D.les a a' → D.les b b' → D.les (a ++ b) (a' ++ b')
  | [], [], _, _, _, h => h
  | d :: a, d' :: a', _, _, k, h => by
    simp only [D.les, List.cons_append] at k ⊢
    exact ⟨k.1, les_append k.2 h⟩
  | [], _ :: _, _, _, k, _ => by simp [D.les] at k
  | _ :: _, [], _, _, k, _ => by simp [D.les] at k
theorem les_flat : ∀ {l l' : List (List D)}, D.less l l' → D.les l.flatten l'.flatten
  | [], [], _ => by simp
  | e :: l, e' :: l', k => by
    simp only [D.less] at k
    simp only [List.flatten_cons]
    exact les_append k.1 (les_flat k.2)
  | [], _ :: _, k => by simp [D.less] at k
  | _ :: _, [], k => by simp [D.less] at k
theorem SR.tell {G : Nat → Option (Blk → Prop)} {ψ : Nat → Option Nat} {S : Fz} {h : Hp} {b : Nat} {cs cs' : List D} {ro : Bool} (s : SR G ψ S H h) (hb : H.blk b = .cells cs ro) (hl : D.les cs cs') : SR G ψ S (H.put b (.cells cs' ro)) h :=
  ⟨s.inj, s.dom, s.frz, fun b' hg => by
    rw [put_blk] at hg ⊢
    by_cases e : b' = b
    · subst e
      obtain ⟨c, h1, h2, h3⟩ := s.live b' (by rw [hb]; rfl)
      rw [hb] at h3
      obtain ⟨l', e1, k⟩ := h3
      refine ⟨c, h1, h2, ?_⟩
      rw [if_pos rfl]
      exact ⟨l', e1, VDl.le _ _ hl k⟩
    · rw [if_neg e] at hg ⊢
      exact s.live b' hg, s.gl, s.low⟩
theorem Weak.tell {a : List D} {fr : FrD} {b : Nat} {cs cs' : List D} {ro : Bool} (hb : H.blk b = .cells cs ro) (hl : D.les cs cs') : Weak a fr H a fr (H.put b (.cells cs' ro)) :=
  fun _ ψ S _ _ _ s k kv => ⟨ψ, S, .refl, s.tell hb hl, k, kv⟩
structure GrX (H0 H : HpD) (sz : Nat) (s : D) (el : List (List D)) : Prop where
  gr : Gr H0 H sz s el
  at_ : (s = .lit .nilslice ∧ el = []) ∨ ∃ b ex, s = .slice b 0 sz el.length el.length ex ∧ H0.next ≤ b ∧ b < H.next ∧ H.blk b = .cells el.flatten false
theorem Gr.exact (g : Gr H0 H sz s el) : ∃ H', (∀ a fr, Weak a fr H a fr H') ∧ GrX H0 H' sz s el ∧ (∀ x, ¬ s.hasB x → H'.blk x = H.blk x) ∧ H'.next = H.next := by
  rcases g.at_ with ⟨rfl, rfl⟩ | ⟨b, ex, el0, rfl, h1, h2, h3, h4⟩
  · exact ⟨H, fun _ _ => .refl, ⟨g, .inl ⟨rfl, rfl⟩⟩, fun _ _ => rfl, rfl⟩
  · refine ⟨H.put b (.cells el.flatten false), fun _ _ => Weak.tell h3 (les_flat h4), ⟨⟨g.sub.put h1, g.len, .inr ⟨b, ex, el, rfl, h1, h2, by simp, D.less_refl _⟩⟩, .inr ⟨b, ex, rfl, h1, h2, by simp⟩⟩, fun x hx => ?_, rfl⟩
    rw [put_blk, if_neg]
    rintro rfl
    exact hx rfl
theorem sem_exact_call {f : Nat} {args : List D} {dst : Option Nat} {l : List MO} {fz lv : List Nat} {K : List KD} {fr : FrD} (g : Gr H0 H sz s el)
    (hs : ∀ H', GrX H0 H' sz s el → (∀ x, ¬ s.hasB x → H'.blk x = H.blk x) → H'.next = H.next → Sem p ext Q (.call f args dst l fz lv K .mk fr H')) : Sem p ext Q (.call f args dst l fz lv K .mk fr H) := by
  obtain ⟨H', w, g', k, n⟩ := g.exact
  exact sem_weak_call (w _ _) (hs H' g' k n)
theorem Weak.box {a : List D} {fr : FrD} {b t : Nat} {cs : List D} {ro : Bool} (hb : H.blk b = .cells cs ro) (ht : lk fr t = .ptr b 0) : Weak a fr H a ((t, .rptr cs 0) :: fr) (H.put b .gone) := by
  intro G ψ S h fv vs sr kf kv
  obtain ⟨c, hc, h2, h3⟩ := sr.live b (by rw [hb]; rfl)
  rw [hb] at h3
  obtain ⟨l', e1, k⟩ := h3
  obtain ⟨x0, s0⟩ := sr.freeze hc
  refine ⟨ψ, _, x0, s0, ?_, VDl.mono x0 _ kv⟩
  intro u
  rw [lk_cons]
  split
  · rename_i e; subst e
    have := kf t
    rw [ht] at this
    simp only [VD] at this ⊢
    obtain ⟨c', e, e2⟩ := this
    rw [hc] at e; cases e
    exact ⟨c, 0, l', ro, .inr rfl, by rw [e2], e1, by have := VDp.of (us := []) (VDl.mono x0 _ k); simpa using this⟩
  · exact kf.mono x0 u
theorem sem_box {b : Nat} {cs : List D} {ro : Bool} (t : Nat) {c : KC} {K : List KD} {fr : FrD} (hb : H.blk b = .cells cs ro) (ht : lk fr t = .ptr b 0)
    (hs : Sem p ext Q (.code c K .mk ((t, .rptr cs 0) :: fr) (H.put b .gone))) : Sem p ext Q (.code c K .mk fr H) := sem_weak (Weak.box hb ht) hs
end Go.Dv
end

section
namespace Go.Dv
open Go.Vm
variable {p : Prog} {ext : Ext} {Q : ResD → Prop} {H0 H : HpD} {sz : Nat} {s : D} {el : List (List D)}
def FrLe (fr : FrD) : FrD → Prop
  | [] => True
  | (t, d) :: r => D.le (lk fr t) d ∧ FrLe fr r
theorem frLe_nil {fr : FrD} : FrLe fr [] = True := rfl
theorem frLe_cons {fr r : FrD} {t : Nat} {d : D} : FrLe fr ((t, d) :: r) = (D.le (lk fr t) d ∧ FrLe fr r) := rfl
theorem FrLe.lk {fr : FrD} : ∀ {fr' : FrD}, FrLe fr fr' → ∀ u, D.le (lk fr u) (lk fr' u)
  | [], _, u => by simp [Dv.lk, D.le]
  | (t, d) :: r, h, u => by
    rw [lk_cons]
    split
    · rename_i e; subst e; exact h.1
    · exact FrLe.lk h.2 u
theorem Weak.as {a : List D} {fr fr' : FrD} (h : FrLe fr fr') : Weak a fr H a fr' H :=
  fun _ ψ S _ _ _ s k kv => ⟨ψ, S, .refl, s, fun t => VD.le _ _ (h.lk t) (k t), kv⟩
theorem get1_0 {d : D} : [d][0]? = some d := rfl
theorem get2_0 {d e : D} : [d, e][0]? = some d := rfl
theorem get2_1 {d e : D} : [d, e][1]? = some e := rfl
attribute [simp] frLe_nil frLe_cons get1_0 get2_0 get2_1
theorem sem_as (fr' : FrD) {fr : FrD} {c : KC} {K : List KD} (h : FrLe fr fr') (hs : Sem p ext Q (.code c K .mk fr' H)) : Sem p ext Q (.code c K .mk fr H) := sem_weak (Weak.as h) hs
theorem sem_as_ok (fr' : FrD) {fr : FrD} {K : List KD} (h : FrLe fr fr') (hs : Sem p ext Q (.res (.ok fr' H) K .mk)) : Sem p ext Q (.res (.ok fr H) K .mk) := sem_weak_ok (Weak.as h) hs
theorem splice_left {x : List D} : ∀ (a m : List D) (k : Nat), spliceD (a ++ m) (a.length + k) x = a ++ spliceD m k x
  | [], m, k => by simp
  | d :: a, m, k => by
    rw [List.cons_append, List.length_cons, show a.length + 1 + k = (a.length + k) + 1 from by omega, spliceD_succ, splice_left a m k]; rfl
theorem splice_whole {x : List D} (hx : x.length = sz) : ∀ {el : List (List D)} {i : Nat} {e : List D}, (∀ e, e ∈ el → e.length = sz) → el[i]? = some e → spliceD el.flatten (i * sz) x = (el.set i x).flatten
  | [], _, _, _, he => by simp at he
  | a :: l, 0, e, hs, he => by
    have ha := hs a (List.mem_cons_self ..)
    simp [spliceD_zero, hx, ← ha]
  | a :: l, i + 1, e, hs, he => by
    have ha := hs a (List.mem_cons_self ..)
    have ih := splice_whole hx (el := l) (i := i) (e := e) (fun y hy => hs y (List.mem_cons_of_mem _ hy)) (by simpa using he)
    simp only [List.flatten_cons, List.set_cons_succ]
    rw [show (i + 1) * sz = a.length + i * sz from by rw [ha, Nat.succ_mul]; omega, splice_left, ih]
theorem flat_get {j : Nat} : ∀ {el : List (List D)} {i : Nat} {e : List D}, (∀ e, e ∈ el → e.length = sz) → el[i]? = some e → j < sz → el.flatten[i * sz + j]? = e[j]?
  | [], _, _, _, he, _ => by simp at he
  | a :: l, 0, e, hs, he, hj => by
    have ha := hs a (List.mem_cons_self ..)
    simp at he; subst he
    simp only [List.flatten_cons, Nat.zero_mul, Nat.zero_add]
    rw [List.getElem?_append_left (by omega)]
  | a :: l, i + 1, e, hs, he, hj => by
    have ha := hs a (List.mem_cons_self ..)
    have ih := flat_get (el := l) (i := i) (e := e) (fun y hy => hs y (List.mem_cons_of_mem _ hy)) (by simpa using he) hj
    simp only [List.flatten_cons]
    rw [show (i + 1) * sz + j = a.length + (i * sz + j) from by rw [ha, Nat.succ_mul]; omega, List.getElem?_append_right (by omega), Nat.add_sub_cancel_left, ih]
theorem Gr.aside {H1 : HpD} {x : BD} (g : Gr H1 H sz s el) (h : Sub H0 H1) {b : Nat} (h0 : H0.next ≤ b) (hb : b < H1.next) : Gr H0 (H.put b x) sz s el := by
  refine ⟨(h.trans g.sub).put h0, g.len, ?_⟩
  rcases g.at_ with h2 | ⟨b', ex, el0, rfl, h1, h2, h3, h4⟩
  · exact .inl h2
  · exact .inr ⟨b', ex, el0, rfl, by have := h.next; omega, h2, by rw [put_blk, if_neg (by omega)]; exact h3, h4⟩
theorem sem_exact {c : KC} {K : List KD} {fr : FrD} (g : Gr H0 H sz s el) (hs : ∀ H', GrX H0 H' sz s el → (∀ x, ¬ s.hasB x → H'.blk x = H.blk x) → H'.next = H.next → Sem p ext Q (.code c K .mk fr H')) : Sem p ext Q (.code c K .mk fr H) := by
  obtain ⟨H', w, g', k, n⟩ := g.exact
  exact sem_weak (w _ _) (hs H' g' k n)
theorem GrX.keep {H1 : HpD} (g : GrX H0 H sz s el) (hs : Sub H H1) (hk : ∀ x, s.hasB x → H1.blk x = H.blk x) : GrX H0 H1 sz s el := by
  refine ⟨g.gr.mono hs, ?_⟩
  rcases g.at_ with h | ⟨b, ex, rfl, h1, h2, h3⟩
  · exact .inl h
  · exact .inr ⟨b, ex, rfl, h1, by have := hs.next; omega, by rw [hk b rfl, h3]⟩
theorem GrX.whole {e x : List D} {i b : Nat} {ex : Bool} (g : GrX H0 H sz (.slice b 0 sz el.length el.length ex) el) (he : el[i]? = some e) (hx : x.length = sz) (h1 : H0.next ≤ b) (h2 : b < H.next) : GrX H0 (H.put b (.cells (spliceD el.flatten (i * sz) x) false)) sz (.slice b 0 sz el.length el.length ex) (el.set i x) := by
  rw [splice_whole hx g.gr.len he]
  refine ⟨⟨g.gr.sub.put h1, fun y hy => ?_, .inr ⟨b, ex, el.set i x, by simp, h1, h2, by simp, D.less_refl _⟩⟩, .inr ⟨b, ex, by simp, h1, h2, by simp⟩⟩
  rcases List.mem_or_eq_of_mem_set hy with hy | rfl
  · exact g.gr.len y hy
  · exact hx
theorem GrX.cell {e : List D} {x : D} {i j b : Nat} {ex : Bool} (g : GrX H0 H sz (.slice b 0 sz el.length el.length ex) el) (he : el[i]? = some e) (hj : j < sz) (h1 : H0.next ≤ b) (h2 : b < H.next) : GrX H0 (H.put b (.cells (spliceD el.flatten (i * sz + j) [x]) false)) sz (.slice b 0 sz el.length el.length ex) (el.set i (e.set j x)) := by
  rw [spliceD_flatten g.gr.len he hj]
  refine ⟨⟨g.gr.sub.put h1, fun y hy => ?_, .inr ⟨b, ex, el.set i (e.set j x), by simp, h1, h2, by simp, D.less_refl _⟩⟩, .inr ⟨b, ex, by simp, h1, h2, by simp⟩⟩
  rcases List.mem_or_eq_of_mem_set hy with hy | rfl
  · exact g.gr.len y hy
  · rw [List.length_set]; exact g.gr.len e (List.mem_of_getElem? he)
theorem SR.tellV {G : Nat → Option (Blk → Prop)} {ψ : Nat → Option Nat} {S : Fz} {h : Hp} {b : Nat} {cs cs' : List D} {ro : Bool} (s : SR G ψ S H h) (hb : H.blk b = .cells cs ro) (hl : ∀ l', VDl h ψ S cs l' → VDl h ψ S cs' l') : SR G ψ S (H.put b (.cells cs' ro)) h :=
  ⟨s.inj, s.dom, s.frz, fun b' hg => by
    rw [put_blk] at hg ⊢
    by_cases e : b' = b
    · subst e
      obtain ⟨c, h1, h2, h3⟩ := s.live b' (by rw [hb]; rfl)
      rw [hb] at h3
      obtain ⟨l', e1, k⟩ := h3
      refine ⟨c, h1, h2, ?_⟩
      rw [if_pos rfl]
      exact ⟨l', e1, hl l' k⟩
    · rw [if_neg e] at hg ⊢
      exact s.live b' hg, s.gl, s.low⟩
theorem Gr.incell (g : Gr H0 H sz s el) {b2 j : Nat} {cs : List D} {ro : Bool} (hb2 : H.blk b2 = .cells cs ro) (hj : cs[j]? = some s) (hne : ¬ s.hasB b2) :
    ∃ H', (∀ a fr, Weak a fr H a fr H') ∧ H'.blk b2 = .cells (cs.set j (.row sz .p el)) ro ∧ (∀ x, x ≠ b2 → ¬ s.hasB x → H'.blk x = H.blk x) ∧ H'.next = H.next ∧ ∀ H1, Sub H1 H → H1.next ≤ H0.next → H1.next ≤ b2 → Sub H1 H' := by
  rcases g.at_ with ⟨rfl, rfl⟩ | ⟨b, ex, el0, rfl, h1, h2, h3, h4⟩
  · refine ⟨H.put b2 (.cells (cs.set j (.row sz .p [])) ro), fun a fr => ?_, by simp, fun x hx _ => by rw [put_blk, if_neg hx], by simp, fun H1 hs _ h2 => hs.put h2⟩
    intro G ψ S h fv vs sr kf kv
    exact ⟨ψ, S, .refl, sr.tellV hb2 fun l' k => k.setD hj fun v hv => VD.le (.lit .nilslice) _ (by simp [D.le]) hv, kf, kv⟩
  · have hb : b2 ≠ b := fun e => hne (by simp only [D.hasB]; omega)
    refine ⟨(H.put b .gone).put b2 (.cells (cs.set j (.row sz .p el)) ro), fun a fr => ?_, by simp, fun x hx hx2 => ?_, by simp, fun H1 hs h0 h2 => (hs.put (by omega)).put h2⟩
    · intro G ψ S h fv vs sr kf kv
      have hel := less_length h4
      obtain ⟨c, hc, hr⟩ := frz_row sr h3 (less_sz h4 g.len)
      obtain ⟨x0, s0⟩ := sr.freeze hc
      refine ⟨ψ, _, x0, s0.tellV (cs := cs) (by rw [put_blk, if_neg hb]; exact hb2) fun l' k => k.setD hj fun v hv => ?_, kf.mono x0, VDl.mono x0 _ kv⟩
      simp only [VD] at hv
      obtain ⟨c', e, e2⟩ := hv
      rw [hc] at e; cases e
      rw [e2]
      rw [← hel]
      refine VD.le _ _ ?_ (hr _ _ (Nat.le_refl _))
      simp [D.le, h4]
    · rw [put_blk, if_neg hx, put_blk, if_neg]
      exact fun e => hx2 (by simp only [D.hasB]; omega)
theorem Gr.last {t : D} {H1 : HpD} {pre : List (List D)} (g : Gr H0 H 1 t (pre ++ [[s]])) (gs : Gr H1 H sz s el) (h01 : H0.next ≤ H1.next) (hne : ∀ x, t.hasB x → ¬ s.hasB x) :
    ∃ H', (∀ a fr, Weak a fr H a fr H') ∧ Gr H0 H' 1 t (pre ++ [[.row sz .p el]]) ∧ (∀ x, ¬ t.hasB x → ¬ s.hasB x → H'.blk x = H.blk x) ∧ H'.next = H.next := by
  obtain ⟨H2, w, g2, k2, n2⟩ := g.exact
  rcases g2.at_ with ⟨_, he⟩ | ⟨b, ex, rfl, h1, h2, h3⟩
  · simp at he
  · have hpre : pre.flatten.length = pre.length := by
      rw [flatten_len (sz := 1) fun e he => g.len e (List.mem_append_left _ he)]; omega
    have hsb : ¬ s.hasB b := hne b (by simp [D.hasB])
    have gs2 : Gr H2 H2 sz s el ∨ ∃ b' ex' el0, s = .slice b' 0 sz el.length el.length ex' ∧ H1.next ≤ b' ∧ b' < H2.next ∧ H2.blk b' = .cells el0.flatten false ∧ D.less el0 el := by
      rcases gs.at_ with ⟨h, h'⟩ | ⟨b', ex', el0, rfl, h1', h2', h3', h4'⟩
      · exact .inl ⟨.refl, gs.len, .inl ⟨h, h'⟩⟩
      · refine .inr ⟨b', ex', el0, rfl, h1', by omega, ?_, h4'⟩
        have hb : ¬ b' = b := fun e => hsb (by simp only [D.hasB]; omega)
        rw [k2 b' (by simp only [D.hasB]; exact hb)]; exact h3'
    have gs3 : ∃ H3, Gr H3 H2 sz s el ∧ H3.next = min H1.next H2.next ∧ ∀ x, H3.blk x = H2.blk x := by
      rcases gs2 with g | ⟨b', ex', el0, rfl, h1', h2', h3', h4'⟩
      · rcases g.at_ with h | ⟨b', ex', el0, rfl, h1', h2', _, _⟩
        · exact ⟨⟨min H1.next H2.next, H2.blk⟩, ⟨⟨by simp; omega, fun _ _ => rfl⟩, g.len, .inl h⟩, rfl, fun _ => rfl⟩
        · omega
      · exact ⟨⟨min H1.next H2.next, H2.blk⟩, ⟨⟨by simp; omega, fun _ _ => rfl⟩, gs.len, .inr ⟨b', ex', el0, rfl, by simp; omega, h2', h3', h4'⟩⟩, rfl, fun _ => rfl⟩
    obtain ⟨H3, g3, n3, _⟩ := gs3
    have hcell : (pre ++ [[s]]).flatten[pre.length]? = some s := by
      rw [List.flatten_append, List.getElem?_append_right (by omega), hpre]; simp
    have hset : (pre ++ [[s]]).flatten.set pre.length (D.row sz .p el) = (pre ++ [[D.row sz .p el]]).flatten := by
      rw [List.flatten_append, List.flatten_append, List.set_append, if_neg (by omega), hpre]; simp
    obtain ⟨H4, w4, c4, k4, n4, sub4⟩ := g3.incell h3 hcell hsb
    rw [hset] at c4
    have hn0 := g.sub.next
    have h3n : H0.next ≤ H3.next := by rw [n3]; omega
    refine ⟨H4, fun a fr => (w a fr).trans (w4 a fr), ⟨sub4 H0 g2.gr.sub h3n h1, fun e he => ?_, .inr ⟨b, ex, pre ++ [[.row sz .p el]], by simp, h1, by omega, c4, D.less_refl _⟩⟩, fun x hx hx2 => ?_, by omega⟩
    · rcases List.mem_append.1 he with he | he
      · exact g.len e (List.mem_append_left _ he)
      · simp at he; subst he; rfl
    · rw [k4 x (fun e => hx (by simp only [D.hasB]; omega)) hx2, k2 x hx]
theorem Gr.far (g : Gr H0 H sz s el) {x : Nat} (h : s.hasB x) : H0.next ≤ x ∧ x < H.next := by
  rcases g.at_ with ⟨rfl, _⟩ | ⟨b, ex, el0, rfl, h1, h2, _⟩
  · simp [D.hasB] at h
  · simp only [D.hasB] at h; subst h; exact ⟨h1, h2⟩
theorem Gr.rest {H3 : HpD} (g : Gr H0 H sz s el) (hn : H.next ≤ H3.next) (hk : ∀ x, s.hasB x → H3.blk x = H.blk x) : Gr ⟨H0.next, H3.blk⟩ H3 sz s el := by
  refine ⟨⟨Nat.le_trans g.sub.next hn, fun _ _ => rfl⟩, g.len, ?_⟩
  rcases g.at_ with h | ⟨b, ex, el0, rfl, h1, h2, h3, h4⟩
  · exact .inl h
  · exact .inr ⟨b, ex, el0, rfl, h1, by omega, by rw [hk b (by simp only [D.hasB])]; exact h3, h4⟩
theorem Gr.base {H1 : HpD} (g : Gr H1 H sz s el) (h : Sub H0 H1) : Gr H0 H sz s el := by
  refine ⟨h.trans g.sub, g.len, ?_⟩
  rcases g.at_ with h2 | ⟨b, ex, el0, rfl, h1, h2, h3, h4⟩
  · exact .inl h2
  · exact .inr ⟨b, ex, el0, rfl, Nat.le_trans h.next h1, h2, h3, h4⟩
theorem WeakV.part1 {b o n cap : Nat} {ex ro : Bool} {cs : List D} (hb : H.blk b = .cells cs ro) (he : ∀ e, e ∈ el → e.length = sz) (hl : el.length = n) (hc : (cs.drop o).take (n * sz) = el.flatten) (hn : n ≤ cap) :
    WeakV (.slice b o sz n cap ex) H (.row sz .p el) (H.put b .gone) := by
  intro G ψ S h v sr kv
  obtain ⟨c, h1, h2, l', h3, h4⟩ : ∃ c, ψ b = some c ∧ ¬ S c ∧ ∃ l', h.blk c = .cells l' ro ∧ VDl h ψ S cs l' := by
    obtain ⟨c, h1, h2, h3⟩ := sr.live b (by rw [hb]; rfl)
    rw [hb] at h3
    exact ⟨c, h1, h2, h3⟩
  obtain ⟨x0, s0⟩ := sr.freeze h1
  refine ⟨ψ, _, x0, s0, ?_⟩
  simp only [VD] at kv ⊢
  obtain ⟨c', e, rfl⟩ := kv
  rw [h1] at e; cases e
  refine .inr ⟨c, o, cap, ex, by rw [hl], by rw [hl]; exact hn, fun e => (by cases e), .inr ⟨l', ro, Fz.at_p (.inr rfl), h3, ?_⟩⟩
  have k1 := VDl.take (n * sz) (VDl.drop o h4)
  rw [hc] at k1
  have := VDss.of (us := (l'.drop o).drop (n * sz)) he (VDl.mono x0 _ k1)
  rwa [List.take_append_drop] at this
structure Part (H0 H : HpD) (sz : Nat) (s : D) (el : List (List D)) : Prop where
  sub : Sub H0 H
  len : ∀ e, e ∈ el → e.length = sz
  at_ : (s = .lit .nilslice ∧ el = []) ∨ ∃ b o cap ex cs, s = .slice b o sz el.length cap ex ∧ el.length ≤ cap ∧ H0.next ≤ b ∧ b < H.next ∧ H.blk b = .cells cs false ∧ (cs.drop o).take (el.length * sz) = el.flatten
theorem Part.fin {H0 H : HpD} {s : D} (g : Part H0 H sz s el) : ∃ H2, WeakV s H (.row sz .p el) H2 ∧ Sub H0 H2 := by
  rcases g.at_ with ⟨rfl, rfl⟩ | ⟨b, o, cap, ex, cs, rfl, h0, h1, h2, h3, h4⟩
  · exact ⟨H, .le (by simp [D.le]), g.sub⟩
  · exact ⟨_, WeakV.part1 h3 g.len rfl h4 h0, g.sub.put h1⟩
theorem splice_one {x : D} : ∀ {cs : List D} {i : Nat}, i < cs.length → spliceD cs i [x] = cs.set i x
  | [], _, h => by simp at h
  | c :: cs, 0, _ => by simp [spliceD_zero]
  | c :: cs, i + 1, h => by rw [spliceD_succ, splice_one (by simpa using h)]; rfl
theorem splice_take {x : List D} : ∀ {cs : List D} {i : Nat}, i ≤ cs.length → (spliceD cs i x).take i = cs.take i
  | cs, 0, _ => by simp
  | [], i + 1, h => by simp at h
  | c :: cs, i + 1, h => by rw [spliceD_succ]; simp only [List.take_succ_cons]; rw [splice_take (by simpa using h)]
end Go.Dv
end

section
namespace Go.Dv
open Go.Vm
variable {p : Prog} {ext : Ext} {Q : ResD → Prop} {H0 H : HpD} {sz : Nat} {s : D} {el : List (List D)}
theorem Gr.finN (g : Gr H0 H sz s el) (hu : D.underss H0.next el) : Fin H0 (.row sz .n el) s H := by
  rcases g.at_ with ⟨rfl, rfl⟩ | ⟨b, ex, el0, rfl, h1, h2, h3, h4⟩
  · exact ⟨H, .le (by simp [D.le]), g.sub, by simp [D.under]⟩
  · refine ⟨H.put b .gone, ?_, g.sub.put h1, by simpa [D.under] using hu⟩
    intro G ψ S h v sr kv
    have hel := less_length h4
    obtain ⟨c, hc, h6, h5⟩ := sr.live b (by rw [h3]; rfl)
    rw [h3] at h5
    obtain ⟨l', e1, k⟩ := h5
    obtain ⟨x0, s0⟩ := sr.freeze hc
    refine ⟨ψ, _, x0, s0, ?_⟩
    simp only [VD] at kv
    obtain ⟨c', e, e2⟩ := kv
    rw [hc] at e; cases e
    rw [e2]
    have kk := VDss.of (us := []) (less_sz h4 g.len) (VDl.mono x0 _ k)
    rw [List.append_nil] at kk
    refine VD.le (.row sz .n el0) _ (by simp [D.le, h4]) ?_
    simp only [VD]
    refine .inr ⟨c, 0, el.length, ex, by rw [hel], by rw [hel]; exact Nat.le_refl _, nofun, .inr ⟨l', false, ⟨.inr rfl, fun _ => ⟨sr.low.2 b c hc, rfl⟩, nofun⟩, e1, by simpa using kk⟩⟩
theorem own_fnN {f : Nat} {args : List D} {sz : Nat} {el : List (List D)} (hw : ∀ H, WcD p ext f args H fun d H' => Gr H H' sz d el) (hu : ∀ n, D.underss n el) : FnD p ext f args (.row sz .n el) := by
  intro H
  refine WcD.drop ((hw H).mono ?_)
  intro d H' g
  obtain ⟨H2, w, s, u⟩ := g.finN (hu H.next)
  exact ⟨_, H2, w, s, u, rfl, rfl⟩
theorem Gr.argN (g : Gr H0 H sz s el) (j : Nat) {fr : FrD} {args : List D} (ht : args[j]? = some s) :
    ∃ H', Weak args fr H (args.set j (.row sz .n el)) fr H' ∧ Sub H0 H' ∧ (∀ x, ¬ s.hasB x → H'.blk x = H.blk x) ∧ H'.next = H.next := by
  rcases g.at_ with ⟨rfl, rfl⟩ | ⟨b, ex, el0, rfl, h1, h2, h3, h4⟩
  · refine ⟨H, ?_, g.sub, fun _ _ => rfl, rfl⟩
    intro G ψ S h fv vs sr kf kv
    exact ⟨ψ, S, .refl, sr, kf, kv.setD ht fun v hv => VD.le (.lit .nilslice) _ (by simp [D.le]) hv⟩
  · refine ⟨H.put b .gone, ?_, g.sub.put h1, fun x hx => by rw [put_blk, if_neg]; exact hx, put_next⟩
    intro G ψ S h fv vs sr kf kv
    have hel := less_length h4
    obtain ⟨c, hc, h6, h5⟩ := sr.live b (by rw [h3]; rfl)
    rw [h3] at h5
    obtain ⟨l', e1, k⟩ := h5
    obtain ⟨x0, s0⟩ := sr.freeze hc
    refine ⟨ψ, _, x0, s0, kf.mono x0, (VDl.mono x0 _ kv).setD ht fun v hv => ?_⟩
    simp only [VD] at hv
    obtain ⟨c', e, e2⟩ := hv
    rw [hc] at e; cases e
    rw [e2]
    have kk := VDss.of (us := []) (less_sz h4 g.len) (VDl.mono x0 _ k)
    rw [List.append_nil] at kk
    refine VD.le (.row sz .n el0) _ (by simp [D.le, h4]) ?_
    simp only [VD]
    refine .inr ⟨c, 0, el.length, ex, by rw [hel], by rw [hel]; exact Nat.le_refl _, nofun, .inr ⟨l', false, ⟨.inr rfl, fun _ => ⟨sr.low.2 b c hc, rfl⟩, nofun⟩, e1, by simpa using kk⟩⟩
theorem sem_rowN (g : Gr H0 H sz s el) (j : Nat) {f : Nat} {args : List D} {dst : Option Nat} {l : List MO} {fz lv : List Nat} {K : List KD} {fr : FrD} (ht : args[j]? = some s)
    (hs : ∀ H', Sub H0 H' → (∀ x, ¬ s.hasB x → H'.blk x = H.blk x) → H'.next = H.next → Sem p ext Q (.call f (args.set j (.row sz .n el)) dst l fz lv K .mk fr H')) : Sem p ext Q (.call f args dst l fz lv K .mk fr H) := by
  obtain ⟨H', w, s', k, n⟩ := g.argN j (fr := fr) ht
  exact sem_weak_call w (hs H' s' k n)
theorem Part.finN {H0 H : HpD} {s : D} (g : Part H0 H sz s el) : ∃ H2, WeakV s H (.row sz .n el) H2 ∧ Sub H0 H2 := by
  rcases g.at_ with ⟨rfl, rfl⟩ | ⟨b, o, cap, ex, cs, rfl, h0, h1, h2, h3, h4⟩
  · exact ⟨H, .le (by simp [D.le]), g.sub⟩
  · refine ⟨H.put b .gone, ?_, g.sub.put h1⟩
    intro G ψ S h v sr kv
    obtain ⟨c, hc, h6, h5⟩ := sr.live b (by rw [h3]; rfl)
    rw [h3] at h5
    obtain ⟨l', e1, k⟩ := h5
    obtain ⟨x0, s0⟩ := sr.freeze hc
    refine ⟨ψ, _, x0, s0, ?_⟩
    simp only [VD] at kv
    obtain ⟨c', e, rfl⟩ := kv
    rw [hc] at e; cases e
    have k1 := VDl.take (el.length * sz) (VDl.drop o k)
    rw [h4] at k1
    have := VDss.of (us := (l'.drop o).drop (el.length * sz)) g.len (VDl.mono x0 _ k1)
    rw [List.take_append_drop] at this
    simp only [VD]
    exact .inr ⟨c, o, cap, ex, rfl, h0, nofun, .inr ⟨l', false, ⟨.inr rfl, fun _ => ⟨sr.low.2 b c hc, rfl⟩, nofun⟩, e1, this⟩⟩
theorem sem_unfz {l : List MO} {fz lv : List Nat} {K : List KD} {fr : FrD} (hs : Sem p ext Q (.ops l [] lv K .mk fr H)) : Sem p ext Q (.ops l fz lv K .mk fr H) := hs
mutual
def D.pl : D → Bool
  | .row _ m l => (match m with | .n => false | .o => false | _ => true) && D.plss l
  | .rptr l _ => D.pls l
  | .func _ a c => D.pls a && D.pls c
  | .iface _ d => D.pl d
  | .agg l => D.pls l
  | .tup l => D.pls l
  | .any => true
  | .lit _ => true
  | _ => false
def D.pls : List D → Bool
  | [] => true
  | d :: l => D.pl d && D.pls l
def D.plss : List (List D) → Bool
  | [] => true
  | e :: l => D.pls e && D.plss l
end
section
variable {h : Hp} {ψ ψ2 : Nat → Option Nat} {S S2 : Fz}
mutual
theorem VD.mark (hs : ∀ c, S c → S2 c) : ∀ (d : D) {v : V}, d.pl = true → VD h ψ S d v → VD h ψ2 S2 d v
  | .any, _, _, _ => by simp [VD]
  | .lit w, _, _, k => by simpa [VD] using k
  | .ptr b o, _, hp, _ => by simp [D.pl] at hp
  | .rptr l k0, _, hp, k => by
    simp only [VD, D.pl] at k hp ⊢
    obtain ⟨c, o, cs, ro, hc, rfl, hb, kk⟩ := k
    exact ⟨c, o, cs, ro, hs c hc, rfl, hb, VDp.mark hs l hp kk⟩
  | .slice b o sz len cap ex, _, hp, _ => by simp [D.pl] at hp
  | .row sz m l, _, hp, k => by
    simp only [VD, D.pl, Bool.and_eq_true] at k hp ⊢
    rcases k with k | ⟨b, o, c, ex, rfl, h1, h2, k⟩
    · exact .inl k
    · refine .inr ⟨b, o, c, ex, rfl, h1, h2, ?_⟩
      rcases k with k | ⟨cs, ro, ha, hb, kk⟩
      · exact .inl k
      · refine .inr ⟨cs, ro, ⟨hs b ha.1, fun e => ?_, fun e => ?_⟩, hb, VDss.mark hs sz l hp.2 kk⟩
        · subst e; simp at hp
        · subst e; simp at hp
  | .map b, _, hp, _ => by simp [D.pl] at hp
  | .func f a c, _, hp, k => by
    simp only [VD, D.pl, Bool.and_eq_true] at k hp ⊢
    obtain ⟨a', c', rfl, h1, h2⟩ := k
    exact ⟨a', c', rfl, VDl.mark hs a hp.1 h1, VDl.mark hs c hp.2 h2⟩
  | .iface t d, _, hp, k => by simp only [VD, D.pl] at k hp ⊢; obtain ⟨v', rfl, k⟩ := k; exact ⟨v', rfl, VD.mark hs d hp k⟩
  | .agg l, _, hp, k => by simp only [VD, D.pl] at k hp ⊢; obtain ⟨v', rfl, k⟩ := k; exact ⟨v', rfl, VDl.mark hs l hp k⟩
  | .tup l, _, hp, k => by simp only [VD, D.pl] at k hp ⊢; obtain ⟨v', rfl, k⟩ := k; exact ⟨v', rfl, VDl.mark hs l hp k⟩
theorem VDl.mark (hs : ∀ c, S c → S2 c) : ∀ (l : List D) {vs : List V}, D.pls l = true → VDl h ψ S l vs → VDl h ψ2 S2 l vs
  | [], _, _, k => by simpa [VDl] using k
  | d :: l, _, hp, k => by
    simp only [VDl, D.pls, Bool.and_eq_true] at k hp ⊢
    obtain ⟨v, r, rfl, h1, h2⟩ := k
    exact ⟨v, r, rfl, VD.mark hs d hp.1 h1, VDl.mark hs l hp.2 h2⟩
theorem VDp.mark (hs : ∀ c, S c → S2 c) : ∀ (l : List D) {vs : List V}, D.pls l = true → VDp h ψ S l vs → VDp h ψ2 S2 l vs
  | [], _, _, _ => by simp [VDp]
  | d :: l, _, hp, k => by
    simp only [VDp, D.pls, Bool.and_eq_true] at k hp ⊢
    obtain ⟨v, r, rfl, h1, h2⟩ := k
    exact ⟨v, r, rfl, VD.mark hs d hp.1 h1, VDp.mark hs l hp.2 h2⟩
theorem VDss.mark (hs : ∀ c, S c → S2 c) (sz : Nat) : ∀ (l : List (List D)) {vs : List V}, D.plss l = true → VDss h ψ S sz l vs → VDss h ψ2 S2 sz l vs
  | [], _, _, _ => by simp [VDss]
  | e :: l, _, hp, k => by
    simp only [VDss, D.plss, Bool.and_eq_true] at k hp ⊢
    exact ⟨k.1, VDp.mark hs e hp.1 k.2.1, VDss.mark hs sz l hp.2 k.2.2⟩
end
end
def plF : FrD → Bool
  | [] => true
  | (_, d) :: fr => D.pl d && plF fr
theorem plF_lk : ∀ {fr : FrD}, plF fr = true → ∀ t, (lk fr t).pl = true
  | [], _, _ => rfl
  | (u, d) :: fr, h, t => by
    simp only [plF, Bool.and_eq_true] at h
    rw [lk_cons]
    split
    · exact h.1
    · exact plF_lk h.2 t
def H000 : HpD := ⟨0, fun _ => .gone⟩
theorem SR.mark {G : Nat → Option (Blk → Prop)} {ψ : Nat → Option Nat} {S : Fz} {H : HpD} {h : Hp} (s : SR G ψ S H h) : SR G (fun _ => none) ⟨S.S, h.next⟩ H000 h :=
  ⟨fun _ _ _ e => (by cases e), fun _ _ e => (by cases e), s.frz, fun b hb => (by cases hb), s.gl, Nat.le_refl _, fun _ _ e => (by cases e)⟩
def bare (H : HpD) : HpD := ⟨H.next, fun _ => .gone⟩
theorem bare_gone {H : HpD} {b : Nat} : ((bare H).blk b).isGone = true := rfl
theorem SR.bare {G : Nat → Option (Blk → Prop)} {ψ : Nat → Option Nat} {S : Fz} {H : HpD} {h : Hp} (s : SR G ψ S H h) : SR G ψ S (bare H) h :=
  ⟨s.inj, s.dom, s.frz, fun b hb => (by rw [bare_gone] at hb; cases hb), s.gl, s.low⟩
theorem Weak.bare {a : List D} {fr : FrD} : Weak a fr H a fr (bare H) := fun _ ψ S _ _ _ s k kv => ⟨ψ, S, .refl, s.bare, k, kv⟩
structure KeepN (n : Nat) (h h' : Hp) : Prop where
  next : h.next ≤ h'.next
  blk : ∀ b, b < n → h'.blk b = h.blk b
def wrO : List MO → List Nat
  | [] => []
  | o :: l => (match o.dst with | some t => [t] | none => []) ++ wrO l
def wrD : List DO → List Nat
  | [] => []
  | o :: l => (match o.o.dst with | some t => [t] | none => []) ++ wrD l
def wrs : MCode → List Nat
  | .skip => []
  | .region l => wrO l
  | .dregion l => wrD l
  | .seq a b => wrs a ++ wrs b
  | .cond _ a b => wrs a ++ wrs b
  | .block _ c => wrs c
  | .loop c => wrs c
  | .exit _ => []
  | .ret => []
def frOf : Res → Option Fr
  | .fail => none
  | .ok f _ => some f
  | .exit _ f _ => some f
  | .ret f _ => some f
theorem ev_putO_ne {fr : Fr} {d : Option Nat} {v : V} {t : Nat} (h : t ∉ (match d with | some t => [t] | none => [])) : ev (putO fr d v) (.tmp t) = ev fr (.tmp t) := by
  cases d with
  | none => rfl
  | some u => rw [ev_put, if_neg]; simpa using h
theorem runOps_keep {env : Env} {C : Nat → List V → Hp → Option (V × Hp)} {t : Nat} : ∀ {l : List MO} {fr fr' : Fr} {h h' : Hp}, runOps env C l fr h = some (fr', h') → t ∉ wrO l → ev fr' (.tmp t) = ev fr (.tmp t)
  | [], _, _, _, _, e, _ => by simp only [runOps, Option.some.injEq, Prod.mk.injEq] at e; rw [e.1]
  | o :: l, fr, fr', h, h', e, ht => by
    simp only [wrO, List.mem_append, not_or] at ht
    simp only [runOps] at e
    split at e
    · rw [runOps_keep e ht.2, ev_putO_ne ht.1]
    · cases e
    · split at e
      · rw [runOps_keep e ht.2, ev_putO_ne ht.1]
      · cases e
theorem runD_keep {env : Env} {C : Nat → List V → Hp → Option (V × Hp)} {t : Nat} : ∀ {l : List DO} {i : Nat} {fr fr' : Fr} {h h' : Hp} {st : List (Nat × Hp)} {rds : List Rd}, runD env C l i fr h st rds = some (fr', h') → t ∉ wrD l → ev fr' (.tmp t) = ev fr (.tmp t)
  | [], _, _, _, _, _, st, rds, e, _ => by
    simp only [runD] at e
    cases ha : allStill st rds <;> rw [ha] at e
    · cases e
    · cases e; rfl
  | o :: l, i, fr, fr', h, h', st, rds, e, ht => by
    simp only [wrD, List.mem_append, not_or] at ht
    simp only [runD] at e
    split at e
    · rw [runD_keep e ht.2, ev_putO_ne ht.1]
    · cases e
    · split at e
      · rw [runD_keep e ht.2, ev_putO_ne ht.1]
      · cases e
theorem exec_keep {t : Nat} : ∀ {n : Nat} {c : MCode} {fr fr' : Fr} {h : Hp}, frOf (exec p ext n c fr h) = some fr' → t ∉ wrs c → ev fr' (.tmp t) = ev fr (.tmp t)
  | 0, _, _, _, _, e, _ => by simp [exec, frOf] at e
  | n + 1, c, fr, fr', h, e, ht => by
    cases c with
    | skip => simp only [exec, frOf, Option.some.injEq] at e; rw [e]
    | region l =>
      simp only [exec] at e
      split at e
      · rename_i f' h' e1
        simp only [frOf, Option.some.injEq] at e; subst e
        exact runOps_keep e1 ht
      · simp [frOf] at e
    | dregion l =>
      simp only [exec] at e
      split at e
      · rename_i f' h' e1
        simp only [frOf, Option.some.injEq] at e; subst e
        exact runD_keep e1 ht
      · simp [frOf] at e
    | seq a b =>
      simp only [wrs, List.mem_append, not_or] at ht
      simp only [exec] at e
      split at e
      · rename_i f' h' e1
        rw [exec_keep e ht.2]
        exact exec_keep (n := n) (c := a) (h := h) (by rw [e1]; rfl) ht.1
      · exact exec_keep e ht.1
    | cond x a b =>
      simp only [wrs, List.mem_append, not_or] at ht
      simp only [exec] at e
      split at e
      · exact exec_keep e ht.1
      · exact exec_keep e ht.2
      · simp [frOf] at e
    | block id c =>
      simp only [wrs] at ht
      simp only [exec] at e
      split at e
      · rename_i id' f' h' e1
        refine exec_keep (n := n) (c := c) (h := h) ?_ ht
        rw [e1]
        cases hb : Nat.beq id' id <;> rw [hb] at e <;> exact e
      · exact exec_keep e ht
    | loop c =>
      simp only [exec] at e
      split at e
      · rename_i f' h' e1
        rw [exec_keep (c := .loop c) e ht]
        exact exec_keep (n := n) (c := c) (h := h) (by rw [e1]; rfl) ht
      · exact exec_keep e ht
    | exit id => simp only [exec, frOf, Option.some.injEq] at e; rw [e]
    | ret => simp only [exec, frOf, Option.some.injEq] at e; rw [e]
theorem ws_keep {c : MCode} {fv : Fr} {h : Hp} {J : Fr → Hp → Prop} (hw : WS p ext c [] fv h (okR J)) : WS p ext c [] fv h (okR fun fv' h' => J fv' h' ∧ ∀ t, t ∉ wrs c → ev fv' (.tmp t) = ev fv (.tmp t)) := by
  obtain ⟨n, a, b⟩ := (hw : WP _ _ _ _ _ _)
  refine ⟨n, a, ?_⟩
  have b : okR J (exec p ext n c fv h) := b
  show okR _ (exec p ext n c fv h)
  cases e : exec p ext n c fv h with
  | ok f' h' => rw [e] at b; exact ⟨b, fun t ht => exec_keep (by rw [e]; rfl) ht⟩
  | fail => rw [e] at b; exact b.elim
  | exit => rw [e] at b; exact b.elim
  | ret => rw [e] at b; exact b.elim
structure Base (G : Nat → Option (Blk → Prop)) (W : List Nat) (fr0 : FrD) (ψ0 : Nat → Option Nat) (S0 : Fz) (H0 : HpD) (h0 : Hp) (fv0 : Fr) (S : Fz) (h : Hp) (fv : Fr) : Prop where
  s0 : SR G ψ0 S0 H0 h0
  k0 : FrR h0 ψ0 S0 fr0 fv0
  frz : ∀ c, S0 c → S c ∧ h.blk c = h0.blk c
  thr : S.n = h0.next
  fr : ∀ t, t ∉ W → ev fv (.tmp t) = ev fv0 (.tmp t)
def SemB (p : Prog) (ext : Ext) (Q : ResD → Prop) (H0 : HpD) (fr0 : FrD) (W : List Nat) (c : KC) (K : List KD) (fr : FrD) (H : HpD) : Prop := c.ok = true → okK K = true → ∀ ψ0 S0 h0 fv0 ψ S h fv (P : Res → Prop),
  Base p.gl W fr0 ψ0 S0 H0 h0 fv0 S h fv → SR p.gl ψ S H h → FrR h ψ S fr fv → (∀ r, Post p.gl ψ0 S0 h0 Q r → P r) → WS p ext c.erase (eraseK K) fv h P
theorem semB_open {c : KC} {K : List KD} {fr : FrD} (hp : plF fr = true) (hs : SemB p ext Q H fr [] c K fr H000) : Sem p ext Q (.code c K .mk fr H) := by
  intro hc hK ψ S h fv P s kf hP
  exact hs hc hK ψ S h fv _ ⟨S.S, h.next⟩ h fv P ⟨s, kf, fun _ k => ⟨k, rfl⟩, rfl, fun _ _ => rfl⟩ s.mark (fun t => VD.mark (S := S) (S2 := ⟨S.S, h.next⟩) (fun _ k => k) _ (plF_lk hp t) (kf t)) hP
theorem semB_step {fr0 : FrD} {W : List Nat} {a b : KC} {K : List KD} {fr : FrD} (J : FrD → HpD → Prop) (h1 : Sem p ext (okQ J) (.code a [] .mk fr H)) (h2 : ∀ fr' H', J fr' H' → SemB p ext Q H0 fr0 (wrs a.erase ++ W) b K fr' H') : SemB p ext Q H0 fr0 W (.seq a b) K fr H := by
  intro hc hK ψ0 S0 h0 fv0 ψ S h fv P B s kf hP
  simp only [KC.ok, Bool.and_eq_true] at hc
  refine WS.seq.2 (ws_cut (fun fv' h' => (∃ ψ' S' fr' H', Ex h ψ S h' ψ' S' ∧ SR p.gl ψ' S' H' h' ∧ FrR h' ψ' S' fr' fv' ∧ J fr' H') ∧ ∀ t, t ∉ wrs a.erase → ev fv' (.tmp t) = ev fv (.tmp t)) (ws_keep ?_) ?_)
  · refine h1 hc.1 rfl ψ S h fv _ s kf ?_
    rintro r ⟨r', k1, k2⟩
    cases r with
    | ok fv' h' => cases r' with
      | ok fr' H' => obtain ⟨ψ', S', x, s', kf'⟩ := k1; exact ⟨ψ', S', fr', H', x, s', kf', k2⟩
      | exit => exact k1.elim
      | ret => exact k1.elim
    | fail => cases r' <;> exact k1.elim
    | exit => cases r' <;> first | exact k1.elim | exact k2.elim
    | ret => cases r' <;> first | exact k1.elim | exact k2.elim
  · rintro fv' h' ⟨⟨ψ', S', fr', H', x, s', kf', j⟩, hk⟩
    refine RK.seq_ok.2 (h2 fr' H' j hc.2 hK ψ0 S0 h0 fv0 ψ' S' h' fv' P ⟨B.s0, B.k0, fun c hc => ?_, x.thr.trans B.thr, fun t ht => ?_⟩ s' kf' hP)
    · obtain ⟨e1, e2⟩ := B.frz c hc
      exact ⟨(x.frz c e1).1, (x.frz c e1).2.trans e2⟩
    · simp only [List.mem_append, not_or] at ht
      rw [hk t ht.1, B.fr t ht.2]
def FrB (fr0 : FrD) (W : List Nat) : FrD → Prop
  | [] => True
  | (t, d) :: r => W.elem t = false ∧ D.le (lk fr0 t) d ∧ FrB fr0 W r
theorem FrB.lk {fr0 : FrD} {W : List Nat} : ∀ {fr : FrD}, FrB fr0 W fr → ∀ t, (t ∉ W ∧ D.le (Dv.lk fr0 t) (Dv.lk fr t)) ∨ Dv.lk fr t = .any
  | [], _, _ => .inr rfl
  | (u, d) :: r, h, t => by
    rw [lk_cons]
    split
    · rename_i e; subst e
      exact .inl ⟨fun hm => by have := h.1; rw [List.elem_eq_mem, decide_eq_false_iff_not] at this; exact this hm, h.2.1⟩
    · exact FrB.lk h.2.2 t
theorem Base.close {G : Nat → Option (Blk → Prop)} {W W' : List Nat} {fr0 fr2 : FrD} {ψ0 ψ : Nat → Option Nat} {S0 S : Fz} {H0 H : HpD} {h0 h h' : Hp} {fv0 fv fv' : Fr} (B : Base G W fr0 ψ0 S0 H0 h0 fv0 S h fv) (s : SR G ψ S H h) (kp : KeepN S.n h h')
    (hk : ∀ t, t ∉ W' → ev fv' (.tmp t) = ev fv (.tmp t)) (hf : FrB fr0 (W' ++ W) fr2) :
    Ex h0 ψ0 S0 h' ψ0 S0 ∧ SR G ψ0 S0 (bare H0) h' ∧ FrR h' ψ0 S0 fr2 fv' := by
  have hn := B.thr
  have hb : ∀ c, S0 c → h'.blk c = h0.blk c := fun c hc => by rw [kp.blk c (by rw [hn]; exact B.s0.frz c hc), (B.frz c hc).2]
  have hle : h0.next ≤ h'.next := Nat.le_trans (by rw [← hn]; exact s.low.1) kp.next
  have x : Ex h0 ψ0 S0 h' ψ0 S0 := ⟨fun _ _ e => e, fun c hc => ⟨hc, hb c hc⟩, rfl⟩
  refine ⟨x, ⟨B.s0.inj, fun b c e => ⟨(B.s0.dom b c e).1, Nat.lt_of_lt_of_le (B.s0.dom b c e).2 hle⟩, fun c hc => Nat.lt_of_lt_of_le (B.s0.frz c hc) hle,
    fun b hb => (by rw [bare_gone] at hb; cases hb), fun c y hy => ⟨(B.s0.gl c y hy).1, by rw [hb c (B.s0.gl c y hy).1]; exact (B.s0.gl c y hy).2⟩, Nat.le_trans B.s0.low.1 hle, B.s0.low.2⟩, fun t => ?_⟩
  rcases hf.lk t with ⟨ht, hl⟩ | he
  · simp only [List.mem_append, not_or] at ht
    rw [hk t ht.1, B.fr t ht.2]
    exact VD.mono x _ (VD.le _ _ hl (B.k0 t))
  · rw [he]; simp [VD]
theorem semB_close_seq {fr0 : FrD} {W : List Nat} {a b : KC} {K : List KD} {fr : FrD} (fr2 : FrD) (h1 : ∀ ψ S h fv, SR p.gl ψ S H h → FrR h ψ S fr fv → WS p ext a.erase [] fv h (okR fun _ h' => KeepN S.n h h'))
    (hf : FrB fr0 (wrs a.erase ++ W) fr2) (h2 : Sem p ext Q (.code b K .mk fr2 (bare H0))) : SemB p ext Q H0 fr0 W (.seq a b) K fr H := by
  intro hc hK ψ0 S0 h0 fv0 ψ S h fv P B s kf hP
  simp only [KC.ok, Bool.and_eq_true] at hc
  refine WS.seq.2 (ws_cut _ (ws_keep (h1 ψ S h fv s kf)) ?_)
  rintro fv' h' ⟨kp, hk⟩
  obtain ⟨x, s', kf'⟩ := B.close s kp hk hf
  exact RK.seq_ok.2 (h2 hc.2 hK ψ0 S0 h' fv' P s' kf' fun r hr => hP r (hr.up x))
end Go.Dv
end

section
namespace Go.Lib
open Go.Vm Go.Dv
def byN (b : List By) : D := .row 1 .n (byE b)
def Vl.cN (v : Vl) : List D := [.lit (.bool v.null), .lit (.int .i64 v.kind), .lit (.int .i64 v.n), byN v.bytes]
def rowEN (r : Row) : List (List D) := r.map Vl.cN
def rowDN (r : Row) : D := .row 4 .n (rowEN r)
def rowsEN (l : List Row) : List (List D) := l.map fun r => [rowDN r]
def rowsDN (l : List Row) : D := .row 1 .n (rowsEN l)
theorem byN_under {n : Nat} {b : List By} : (byN b).under n := by
  simp only [byN, D.under]; exact underss_map (fun _ => by simp) _
theorem vlN_unders {n : Nat} {v : Vl} : D.unders n v.cN := by simp [Vl.cN, byN_under]
theorem rowN_under {n : Nat} {r : Row} : (rowDN r).under n := by
  simp only [rowDN, D.under]; exact underss_map (fun _ => vlN_unders) _
theorem rowsN_under {n : Nat} {l : List Row} : (rowsDN l).under n := by
  simp only [rowsDN, D.under]; exact underss_map (fun _ => by simp [rowN_under]) _
theorem rowN_underss {n : Nat} {r : Row} : D.underss n (rowEN r) := underss_map (fun _ => vlN_unders) _
theorem rowsN_underss {n : Nat} {l : List Row} : D.underss n (rowsEN l) := underss_map (fun _ => by simp [rowN_under]) _
theorem byN_flat {b : List By} : flatD (byN b) = true := rfl
theorem rowN_flat {r : Row} : flatD (rowDN r) = true := rfl
theorem rowsN_flat {l : List Row} : flatD (rowsDN l) = true := rfl
theorem vlN_len {v : Vl} : v.cN.length = 4 := rfl
theorem vlN_flats {v : Vl} : flatsD v.cN = true := rfl
theorem vlN_0 {v : Vl} : v.cN[0]? = some (.lit (.bool v.null)) := rfl
theorem vlN_1 {v : Vl} : v.cN[1]? = some (.lit (.int .i64 v.kind)) := rfl
theorem vlN_2 {v : Vl} : v.cN[2]? = some (.lit (.int .i64 v.n)) := rfl
theorem vlN_3 {v : Vl} : v.cN[3]? = some (byN v.bytes) := rfl
theorem vlN_take {v : Vl} : v.cN.take 4 = v.cN := rfl
theorem vlN_drop {v : Vl} : v.cN.drop 4 = [] := rfl
theorem rowEN_len {r : Row} : (rowEN r).length = r.length := by simp [rowEN]
theorem rowsEN_len {l : List Row} : (rowsEN l).length = l.length := by simp [rowsEN]
theorem lenb_byN {b : List By} : lenbD (byN b) = some (.lit (.int .i64 (b.length : Int))) := by simp [byN, by_len]
theorem lenb_rowN {r : Row} : lenbD (rowDN r) = some (.lit (.int .i64 (r.length : Int))) := by simp [rowDN, rowEN_len]
theorem lenb_rowsN {l : List Row} : lenbD (rowsDN l) = some (.lit (.int .i64 (l.length : Int))) := by simp [rowsDN, rowsEN_len]
theorem cellsD_byN {b : List By} : cellsD (byN b) = some [byN b] := rfl
theorem cellsD_rowDN {r : Row} : cellsD (rowDN r) = some [rowDN r] := rfl
theorem cellsD_rowsDN {l : List Row} : cellsD (rowsDN l) = some [rowsDN l] := rfl
theorem byN_le {b : List By} : D.le (byN b) (byD b) := by simp [byN, byD, D.le, D.less_refl]
theorem vlN_les {v : Vl} : D.les v.cN v.c := by simp [Vl.cN, Vl.c, D.les, D.le, byN_le]
theorem rowN_less : ∀ {r : Row}, D.less (rowEN r) (rowE r)
  | [] => by simp [rowEN, rowE]
  | v :: r => by simp only [rowEN, rowE, List.map_cons, D.less]; exact ⟨vlN_les, rowN_less⟩
theorem rowN_le {r : Row} : D.le (rowDN r) (rowD r) := by simp [rowDN, rowD, D.le, rowN_less]
theorem rowsN_less : ∀ {l : List Row}, D.less (rowsEN l) (rowsE l)
  | [] => by simp [rowsEN, rowsE]
  | r :: l => by simp only [rowsEN, rowsE, List.map_cons, D.less, D.les]; exact ⟨⟨rowN_le, trivial⟩, rowsN_less⟩
theorem rowsN_le {l : List Row} : D.le (rowsDN l) (rowsD l) := by simp [rowsDN, rowsD, D.le, rowsN_less]
theorem rowN_four {r : Row} : ∀ e, e ∈ rowEN r → e.length = 4 := by simp [rowEN]; exact fun _ _ => rfl
theorem rowsN_one {l : List Row} : ∀ e, e ∈ rowsEN l → e.length = 1 := by simp [rowsEN]
theorem at_rowN {r : Row} {n : Nat} : atO 4 (rowDN r) (some n) = elemD (r[n]?.map Vl.cN) := by simp [rowDN, rowEN]
theorem at_rowsN {l : List Row} {n : Nat} : atO 1 (rowsDN l) (some n) = elemD (l[n]?.map fun r => [rowDN r]) := by simp [rowsDN, rowsEN]
theorem rowEN_snoc {r : Row} {i : Nat} {x : Vl} (hx : r[i]? = some x) : rowEN (r.take i) ++ [x.cN] = rowEN (r.take (i + 1)) := by
  rw [List.take_add_one, hx]; simp [rowEN]
theorem rowsEN_snoc {l : List Row} {i : Nat} {x : Row} (hx : l[i]? = some x) : rowsEN (l.take i) ++ [[rowDN x]] = rowsEN (l.take (i + 1)) := by
  rw [List.take_add_one, hx]; simp [rowsEN]
theorem rowsN_flats {l : List Row} : ∀ e, e ∈ rowsEN l → flatsD e = true := by simp [rowsEN]; exact fun _ _ => rfl
theorem zvN_le : D.le (.agg [.lit (.bool false), .lit (.int .i64 0), .lit (.int .i64 0), .lit .nilslice]) (.agg zv.cN) := by
  simp [Vl.cN, zv, byN, byE, D.le]
theorem vlN_set3 {v : Vl} : spliceD v.c 3 [byN v.bytes] = v.cN := rfl
attribute [simp] vlN_set3 vlN_0 vlN_1 vlN_2 vlN_3 vlN_take vlN_drop rowEN_len rowsEN_len lenb_byN lenb_rowN lenb_rowsN cellsD_byN cellsD_rowDN cellsD_rowsDN at_rowN at_rowsN
attribute [simp] rowN_underss rowsN_underss byN_under vlN_unders rowN_under rowsN_under byN_flat rowN_flat rowsN_flat vlN_len vlN_flats byN_le vlN_les rowN_le rowsN_le
theorem agN_le {v : Vl} : D.le (.agg v.cN) (.agg v.c) := by simp only [D.le]; exact vlN_les
attribute [simp] agN_le
theorem pls_map {α : Type} {f : α → List D} (h : ∀ x, D.pls (f x) = true) : ∀ l : List α, D.plss (l.map f) = true
  | [] => rfl
  | x :: l => by simp only [List.map_cons, D.plss, h x, pls_map h l, Bool.and_self]
theorem by_pl {b : List By} : (byD b).pl = true := by simp only [byD, D.pl, byE, Bool.true_and]; exact pls_map (fun _ => rfl) _
theorem vl_pls {v : Vl} : D.pls v.c = true := by simp [Vl.c, D.pls, D.pl, by_pl]
theorem row_pl {r : Row} : (rowD r).pl = true := by simp only [rowD, D.pl, rowE, Bool.true_and]; exact pls_map (fun _ => vl_pls) _
theorem rows_pl {l : List Row} : (rowsD l).pl = true := by simp only [rowsD, D.pl, rowsE, Bool.true_and]; exact pls_map (fun _ => by simp [D.pls, row_pl]) _
end Go.Lib
end

section
namespace Go.Lib
open Go.Vm Go.Dv
set_option maxRecDepth 100000
abbrev K32 (F : Nat → Nat) : KC := .seq (.region [⟨(some 4),(.a (.box (.tmp 1))),none⟩,⟨(some 6),(.p (.mov (.val (.nilslice)))),none⟩,⟨(some 7),(.p (.mov (.val (.bool false)))),none⟩] [4] [0,2,4])
 (.seq (.seq (.region [l1 16 4,bi 17 .lss 16 0] [] [0,2,4,17])
 (.cond (.tmp 17) (.seq (.region [mv 19 0,mv 20 2,⟨(some 21),(.e (.call (F 36) [(.val (.nilslice)),(.tmp 19),(.tmp 20)])),none⟩,mv 18 21,et 22 18 0,et 23 18 1,mv 8 22,mv 9 23] [] [8,9])
 (.seq (.seq (.region [mv 24 9,⟨(some 25),(.p (.not (.tmp 24))),none⟩] [] [8,25])
 (.cond (.tmp 25) (.seq (.region [⟨(some 6),(.p (.mov (.val (.nilslice)))),none⟩,⟨(some 7),(.p (.mov (.val (.bool false)))),none⟩] [] [6,7])
 (.ret))
 (.skip)))
 (.seq (.region [mv 26 8,⟨(some 27),(.a (.bslice [.nilslice] 1 1 [(0,1,(.tmp 26))])),none⟩,mv 6 27,⟨(some 7),(.p (.mov (.val (.bool true)))),none⟩] [27] [6,7])
 (.ret))))
 (.skip)))
 (.seq (.region [mv 28 0,⟨(some 29),(.e (.call (F 37) [(.tmp 28)])),none⟩,mv 10 29] [] [2,4,10])
 (.seq (.region [mv 30 10,⟨(some 31),(.p (.mkfunc (F 38) [] [(.tmp 4)])),none⟩,⟨(some 32),(.e (.call (F 26) [(.tmp 30),(.tmp 31)])),none⟩] [] [2,4,10])
 (.seq (.region [⟨(some 11),(.p (.mov (.val (.nilslice)))),none⟩] [] [2,4,10,11])
 (.seq (.block 0 (.loop (.seq (.seq (.region [mv 33 10,lb 34 33,bi 35 .gtr 34 0] [] [2,4,10,11,35])
 (.cond (.tmp 35) (.skip)
 (.exit 0)))
 (.block 1 (.seq (.dregion [⟨mv 36 10,0,4⟩,⟨⟨(some 37),(.p (.iaddr 1 (.tmp 36) (.val (.int .i64 (.ofNat 0))))),none⟩,0,4⟩,⟨l1 38 37,0,4⟩,⟨l1 39 4,0,4⟩,⟨⟨(some 40),(.e (.call (F 3) [(.tmp 38),(.tmp 39)])),none⟩,0,6⟩,⟨⟨(some 12),(.a (.new [.bool false,.int .i64 (.ofNat 0),.int .i64 (.ofNat 0),.nilslice])),none⟩,0,6⟩,⟨⟨none,(.e (.store 4 (.tmp 12) (.tmp 40))),none⟩,5,7⟩] [2,4,10,11,12])
 (.seq (.region [mi 13 1] [] [2,4,10,11,12,13])
 (.seq (.block 2 (.loop (.seq (.seq (.dregion [⟨mv 41 13,0,10⟩,⟨mv 42 10,0,10⟩,⟨lb 43 42,0,10⟩,⟨bt 44 .lss 41 43,0,10⟩,⟨mv 45 44,0,10⟩,⟨⟨(some 46),(.p (.mov (.tmp 10))),(some (45,true))⟩,0,10⟩,⟨⟨(some 47),(.p (.mov (.tmp 13))),(some (45,true))⟩,0,10⟩,⟨⟨(some 48),(.p (.iaddr 1 (.tmp 46) (.tmp 47))),(some (45,true))⟩,0,10⟩,⟨⟨(some 49),(.load1 (.tmp 48)),(some (45,true))⟩,0,10⟩,⟨⟨(some 50),(.load1 (.tmp 4)),(some (45,true))⟩,0,10⟩,⟨⟨(some 51),(.e (.call (F 3) [(.tmp 49),(.tmp 50)])),(some (45,true))⟩,0,12⟩,⟨⟨(some 52),(.loadn 4 (.tmp 12)),(some (45,true))⟩,0,12⟩,⟨⟨(some 53),(.e (.call (F 1) [(.tmp 51),(.tmp 52)])),(some (45,true))⟩,11,15⟩,⟨⟨(some 54),(.p (.bin .eql (.tmp 53) (.val (.int .i64 (.ofNat 0))))),(some (45,true))⟩,13,15⟩,⟨⟨(some 55),(.p (.pick (.tmp 45) (.tmp 54) (.val (.bool false)))),none⟩,13,15⟩] [2,4,10,11,12,13,55])
 (.cond (.tmp 55) (.skip)
 (.exit 2)))
 (.block 3 (.region [mv 56 13,bi 57 .add 56 1,mv 13 57] [] [2,4,10,11,12,13])))))
 (.seq (.dregion [⟨ln 59 4 12,0,6⟩,⟨⟨(some 60),(.a (.bslice [.bool false,.int .i64 (.ofNat 0),.int .i64 (.ofNat 0),.nilslice] 4 1 [(0,4,(.tmp 59))])),none⟩,0,6⟩,⟨mv 61 10,0,6⟩,⟨mv 62 13,0,6⟩,⟨⟨(some 63),(.p (.slc 1 (.tmp 61) none (some (.tmp 62)) none)),none⟩,0,6⟩,⟨mv 64 2,0,6⟩,⟨⟨(some 65),(.e (.call (F 36) [(.tmp 60),(.tmp 63),(.tmp 64)])),none⟩,0,12⟩,⟨mv 58 65,7,12⟩,⟨et 66 58 0,7,12⟩,⟨et 67 58 1,7,12⟩,⟨mv 14 66,7,12⟩,⟨mv 15 67,7,12⟩] [2,4,10,11,13,14,15])
 (.seq (.seq (.region [mv 68 15,⟨(some 69),(.p (.not (.tmp 68))),none⟩] [] [2,4,10,11,13,14,69])
 (.cond (.tmp 69) (.seq (.region [⟨(some 6),(.p (.mov (.val (.nilslice)))),none⟩,⟨(some 7),(.p (.mov (.val (.bool false)))),none⟩] [] [6,7])
 (.ret))
 (.skip)))
 (.seq (.region [mv 70 11,mv 71 14,⟨(some 72),(.a (.bslice [.nilslice] 1 1 [(0,1,(.tmp 71))])),none⟩,⟨(some 73),(.e (.append 1 24 (.tmp 70) (.tmp 72))),none⟩,mv 11 73] [72] [2,4,10,11,13])
 (.region [mv 74 10,mv 75 13,⟨(some 76),(.p (.slc 1 (.tmp 74) (some (.tmp 75)) none none)),none⟩,mv 10 76] [] [2,4,10,11])))))))))))
 (.seq (.region [mv 77 11,⟨(some 78),(.e (.call (F 39) [(.tmp 77)])),none⟩,mv 6 78,⟨(some 7),(.p (.mov (.val (.bool true)))),none⟩] [] [6,7])
 (.ret)))))))
def M32 (F : Nat → Nat) : Fun := ⟨79,3,(K32 F).erase,[.tmp 6,.tmp 7]⟩
theorem ok32 {F : Nat → Nat} : (K32 F).ok = true := rfl
abbrev K33 (F : Nat → Nat) : KC := .seq (.region [⟨(some 2),(.p (.mov (.val (.nilslice)))),none⟩] [] [0])
 (.seq (.region [mv 4 0,⟨(some 5),(.e (.call (F 37) [(.tmp 4)])),none⟩,mv 3 5] [] [3])
 (.seq (.region [mv 6 3,⟨(some 7),(.e (.call (F 26) [(.tmp 6),(.val (.func (F 2) [] []))])),none⟩] [] [3])
 (.seq (.region [mv 8 3,mv 2 8] [] [2])
 (.ret))))
def M33 (F : Nat → Nat) : Fun := ⟨9,1,(K33 F).erase,[.tmp 2]⟩
theorem ok33 {F : Nat → Nat} : (K33 F).ok = true := rfl
abbrev K34 (F : Nat → Nat) : KC := .seq (.region [⟨(some 4),(.p (.mov (.val (.nilslice)))),none⟩] [] [0,1])
 (.seq (.region [⟨(some 5),(.p (.mov (.val (.nilslice)))),none⟩] [] [0,1,5])
 (.seq (.seq (.region [mv 11 0,lb 12 11,mi 13 0] [] [1,5,11,12,13])
 (.block 0 (.loop (.seq (.region [bt 14 .lss 13 12] [] [1,5,11,12,13,14])
 (.seq (.cond (.tmp 14) (.skip)
 (.exit 0))
 (.seq (.block 1 (.seq (.region [ix 15 1 11 13,l1 16 15,mv 7 16] [] [1,5,7,11,12,13])
 (.seq (.region [⟨(some 8),(.p (.mov (.val (.nilslice)))),none⟩] [] [1,5,7,8,11,12,13])
 (.seq (.seq (.region [mv 17 1,lb 18 17,mi 19 0] [] [1,5,7,8,11,12,13,17,18,19])
 (.block 2 (.loop (.seq (.region [bt 20 .lss 19 18] [] [1,5,7,8,11,12,13,17,18,19,20])
 (.seq (.cond (.tmp 20) (.skip)
 (.exit 2))
 (.seq (.block 3 (.seq (.region [ix 21 1 17 19,l1 22 21,mv 10 22] [] [1,5,7,8,10,11,12,13,17,18,19])
 (.region [mv 23 8,mv 24 7,mv 25 10,⟨(some 26),(.e (.call (F 3) [(.tmp 24),(.tmp 25)])),none⟩,⟨(some 27),(.a (.bslice [.bool false,.int .i64 (.ofNat 0),.int .i64 (.ofNat 0),.nilslice] 4 1 [(0,4,(.tmp 26))])),none⟩,⟨(some 28),(.e (.append 4 48 (.tmp 23) (.tmp 27))),none⟩,mv 8 28] [27] [1,5,7,8,11,12,13,17,18,19])))
 (.region [bi 29 .add 19 1,mv 19 29] [] [1,5,7,8,11,12,13,17,18,19])))))))
 (.region [mv 30 5,mv 31 8,⟨(some 32),(.a (.bslice [.nilslice] 1 1 [(0,1,(.tmp 31))])),none⟩,⟨(some 33),(.e (.append 1 24 (.tmp 30) (.tmp 32))),none⟩,mv 5 33] [32] [1,5,11,12,13])))))
 (.region [bi 34 .add 13 1,mv 13 34] [] [1,5,11,12,13])))))))
 (.seq (.region [mv 35 5,⟨(some 36),(.e (.call (F 33) [(.tmp 35)])),none⟩,mv 4 36] [] [4])
 (.ret))))
def M34 (F : Nat → Nat) : Fun := ⟨37,2,(K34 F).erase,[.tmp 4]⟩
theorem ok34 {F : Nat → Nat} : (K34 F).ok = true := rfl
abbrev K35 (F : Nat → Nat) : KC := .seq (.region [⟨(some 4),(.p (.mov (.val (.nilslice)))),none⟩,⟨(some 5),(.p (.mov (.val (.bool false)))),none⟩] [] [0,1])
 (.seq (.region [mv 12 0,⟨(some 13),(.e (.call (F 4) [(.tmp 12)])),none⟩,mv 6 13] [] [1,6])
 (.seq (.seq (.region [mv 14 1,lb 15 14,mi 16 0] [] [6,14,15,16])
 (.block 0 (.loop (.seq (.region [bt 17 .lss 16 15] [] [6,14,15,16,17])
 (.seq (.cond (.tmp 17) (.skip)
 (.exit 0))
 (.seq (.block 1 (.seq (.region [ix 18 6 14 16,ln 19 6 18,⟨(some 8),(.a (.new [.int .i64 (.ofNat 0),.bool false,.bool false,.int .i64 (.ofNat 0),.int .i64 (.ofNat 0),.nilslice])),none⟩,⟨none,(.e (.store 6 (.tmp 8) (.tmp 19))),none⟩] [] [6,8,14,15,16])
 (.seq (.seq (.region [fa 20 0 8,l1 21 20,bi 22 .lss 21 0,mv 23 22,⟨(some 24),(.p (.faddr 0 (.tmp 8))),(some (23,false))⟩,⟨(some 25),(.load1 (.tmp 24)),(some (23,false))⟩,⟨(some 26),(.p (.mov (.tmp 6))),(some (23,false))⟩,⟨(some 27),(.p (.lenb (.tmp 26))),(some (23,false))⟩,⟨(some 28),(.p (.bin .geq (.tmp 25) (.tmp 27))),(some (23,false))⟩,⟨(some 29),(.p (.pick (.tmp 23) (.val (.bool true)) (.tmp 28))),none⟩] [] [6,8,14,15,16,29])
 (.cond (.tmp 29) (.exit 1)
 (.skip)))
 (.seq (.region [mv 30 6,fa 31 0 8,l1 32 31,ix 33 4 30 32,mv 9 33] [] [6,8,9,14,15,16])
 (.block 2 (.seq (.region [fa 35 1 8,l1 36 35,⟨(some 37),(.p (.not (.tmp 36))),none⟩,mv 34 37] [] [6,8,9,14,15,16,34])
 (.cond (.tmp 34) (.region [mv 38 9,fa 39 2 8,ln 40 4 39,⟨(some 41),(.e (.call (F 5) [(.tmp 40)])),none⟩,⟨(some 42),(.p (.nilchk (.tmp 38))),none⟩,⟨none,(.e (.store 4 (.tmp 42) (.tmp 41))),none⟩] [] [6,14,15,16])
 (.seq (.region [mv 44 9,⟨(some 45),(.p (.nilchk (.tmp 44))),none⟩,fa 46 0 45,l1 47 46,⟨(some 48),(.p (.not (.tmp 47))),none⟩,mv 43 48] [] [6,8,9,14,15,16,43])
 (.cond (.tmp 43) (.seq (.dregion [⟨mv 50 9,0,7⟩,⟨⟨(some 51),(.p (.nilchk (.tmp 50))),none⟩,0,7⟩,⟨fa 52 2 51,0,7⟩,⟨l1 53 52,0,7⟩,⟨fa 54 2 8,0,7⟩,⟨fa 55 2 54,0,7⟩,⟨l1 56 55,0,7⟩,⟨⟨(some 57),(.e (.call (F 40) [(.tmp 53),(.tmp 56)])),none⟩,0,13⟩,⟨mv 49 57,8,13⟩,⟨et 58 49 0,8,13⟩,⟨et 59 49 1,8,13⟩,⟨mv 10 58,8,13⟩,⟨mv 11 59,8,13⟩] [6,9,10,11,14,15,16])
 (.seq (.seq (.region [mv 60 11,⟨(some 61),(.p (.not (.tmp 60))),none⟩] [] [6,9,10,14,15,16,61])
 (.cond (.tmp 61) (.seq (.region [⟨(some 4),(.p (.mov (.val (.nilslice)))),none⟩,⟨(some 5),(.p (.mov (.val (.bool false)))),none⟩] [] [4,5])
 (.ret))
 (.skip)))
 (.region [mv 62 9,mv 63 10,⟨(some 64),(.p (.nilchk (.tmp 62))),none⟩,fa 65 2 64,⟨none,(.e (.store 1 (.tmp 65) (.tmp 63))),none⟩] [] [6,14,15,16])))
 (.skip))))))))))
 (.region [bi 66 .add 16 1,mv 16 66] [] [6,14,15,16])))))))
 (.seq (.region [mv 67 6,mv 4 67,⟨(some 5),(.p (.mov (.val (.bool true)))),none⟩] [] [4,5])
 (.ret))))
def M35 (F : Nat → Nat) : Fun := ⟨68,2,(K35 F).erase,[.tmp 4,.tmp 5]⟩
theorem ok35 {F : Nat → Nat} : (K35 F).ok = true := rfl
abbrev K36 (F : Nat → Nat) : KC := .seq (.region [⟨(some 6),(.p (.mov (.val (.nilslice)))),none⟩,⟨(some 7),(.p (.mov (.val (.bool false)))),none⟩] [] [0,1,2])
 (.seq (.region [mv 13 0,mv 8 13] [] [1,2,8])
 (.seq (.seq (.region [mv 14 2,lb 15 14,mi 16 0] [] [1,8,14,15,16])
 (.block 0 (.loop (.seq (.region [bt 17 .lss 16 15] [] [1,8,14,15,16,17])
 (.seq (.cond (.tmp 17) (.skip)
 (.exit 0))
 (.seq (.block 1 (.seq (.region [ix 18 2 14 16,ln 19 2 18,⟨(some 10),(.a (.new [.int .i64 (.ofNat 0),.int .i64 (.ofNat 0)])),none⟩,⟨none,(.e (.store 2 (.tmp 10) (.tmp 19))),none⟩] [] [1,8,10,14,15,16])
 (.seq (.region [mv 21 1,ln 22 2 10,⟨(some 23),(.e (.call (F 41) [(.tmp 21),(.tmp 22)])),none⟩,mv 20 23,et 24 20 0,et 25 20 1,⟨(some 11),(.a (.new [.bool false,.int .i64 (.ofNat 0),.int .i64 (.ofNat 0),.nilslice])),none⟩,⟨none,(.e (.store 4 (.tmp 11) (.tmp 24))),none⟩,mv 12 25] [] [1,8,11,12,14,15,16])
 (.seq (.seq (.region [mv 26 12,⟨(some 27),(.p (.not (.tmp 26))),none⟩] [] [1,8,11,14,15,16,27])
 (.cond (.tmp 27) (.seq (.region [⟨(some 6),(.p (.mov (.val (.nilslice)))),none⟩,⟨(some 7),(.p (.mov (.val (.bool false)))),none⟩] [] [6,7])
 (.ret))
 (.skip)))
 (.region [mv 28 8,ln 29 4 11,⟨(some 30),(.a (.bslice [.bool false,.int .i64 (.ofNat 0),.int .i64 (.ofNat 0),.nilslice] 4 1 [(0,4,(.tmp 29))])),none⟩,⟨(some 31),(.e (.append 4 48 (.tmp 28) (.tmp 30))),none⟩,mv 8 31] [30] [1,8,14,15,16])))))
 (.region [bi 32 .add 16 1,mv 16 32] [] [1,8,14,15,16])))))))
 (.seq (.region [mv 33 8,⟨(some 34),(.e (.call (F 13) [(.tmp 33)])),none⟩,mv 6 34,⟨(some 7),(.p (.mov (.val (.bool true)))),none⟩] [] [6,7])
 (.ret))))
def M36 (F : Nat → Nat) : Fun := ⟨35,3,(K36 F).erase,[.tmp 6,.tmp 7]⟩
theorem ok36 {F : Nat → Nat} : (K36 F).ok = true := rfl
abbrev K37 (F : Nat → Nat) : KC := .seq (.region [⟨(some 2),(.p (.mov (.val (.nilslice)))),none⟩] [] [0])
 (.seq (.region [⟨(some 3),(.p (.mov (.val (.nilslice)))),none⟩] [] [0,3])
 (.seq (.seq (.region [mv 6 0,lb 7 6,mi 8 0] [] [3,6,7,8])
 (.block 0 (.loop (.seq (.region [bt 9 .lss 8 7] [] [3,6,7,8,9])
 (.seq (.cond (.tmp 9) (.skip)
 (.exit 0))
 (.seq (.block 1 (.seq (.region [ix 10 1 6 8,l1 11 10,mv 5 11] [] [3,5,6,7,8])
 (.region [mv 12 3,mv 13 5,⟨(some 14),(.e (.call (F 4) [(.tmp 13)])),none⟩,⟨(some 15),(.a (.bslice [.nilslice] 1 1 [(0,1,(.tmp 14))])),none⟩,⟨(some 16),(.e (.append 1 24 (.tmp 12) (.tmp 15))),none⟩,mv 3 16] [15] [3,6,7,8])))
 (.region [bi 17 .add 8 1,mv 8 17] [] [3,6,7,8])))))))
 (.seq (.region [mv 18 3,⟨(some 19),(.e (.call (F 39) [(.tmp 18)])),none⟩,mv 2 19] [] [2])
 (.ret))))
def M37 (F : Nat → Nat) : Fun := ⟨20,1,(K37 F).erase,[.tmp 2]⟩
theorem ok37 {F : Nat → Nat} : (K37 F).ok = true := rfl
abbrev K38 (F : Nat → Nat) : KC := .seq (.region [mi 5 0] [] [0,1,2])
 (.seq (.dregion [⟨mv 6 0,0,2⟩,⟨l1 7 2,0,2⟩,⟨⟨(some 8),(.e (.call (F 3) [(.tmp 6),(.tmp 7)])),none⟩,0,5⟩,⟨mv 9 1,0,5⟩,⟨l1 10 2,0,5⟩,⟨⟨(some 11),(.e (.call (F 3) [(.tmp 9),(.tmp 10)])),none⟩,3,6⟩,⟨⟨(some 12),(.e (.call (F 1) [(.tmp 8),(.tmp 11)])),none⟩,6,8⟩,⟨mv 5 12,7,8⟩] [5])
 (.ret))
def M38 (F : Nat → Nat) : Fun := ⟨13,3,(K38 F).erase,[.tmp 5]⟩
theorem ok38 {F : Nat → Nat} : (K38 F).ok = true := rfl
abbrev K39 (_F : Nat → Nat) : KC := .seq (.region [⟨(some 2),(.p (.mov (.val (.nilslice)))),none⟩] [] [0])
 (.seq (.region [mv 3 0,mv 4 0,lb 5 4,mv 6 0,lb 7 6,⟨(some 8),(.p (.slc 1 (.tmp 3) none (some (.tmp 5)) (some (.tmp 7)))),none⟩,mv 2 8] [] [2])
 (.ret))
def M39 (F : Nat → Nat) : Fun := ⟨9,1,(K39 F).erase,[.tmp 2]⟩
theorem ok39 {F : Nat → Nat} : (K39 F).ok = true := rfl
abbrev K40 (F : Nat → Nat) : KC := .seq (.region [mi 4 0,⟨(some 5),(.p (.mov (.val (.bool false)))),none⟩] [] [0,1])
 (.seq (.region [⟨(some 6),(.a (.new [.int .i64 (.ofNat 0),.int .u64 (.ofNat 0)])),none⟩] [] [0,1,6])
 (.seq (.region [mv 7 0,⟨(some 8),(.e (.call (F 42) [(.tmp 6),(.tmp 7)])),none⟩] [] [1,6])
 (.seq (.region [mv 9 1,⟨(some 10),(.e (.call (F 42) [(.tmp 6),(.tmp 9)])),none⟩] [] [6])
 (.seq (.dregion [⟨fa 11 1 6,0,12⟩,⟨l1 12 11,0,12⟩,⟨⟨(some 13),(.p (.conv (.int .i64) (.tmp 12))),none⟩,0,12⟩,⟨fa 14 0 6,0,12⟩,⟨l1 15 14,0,12⟩,⟨fa 16 1 6,0,12⟩,⟨l1 17 16,0,12⟩,⟨⟨(some 18),(.p (.conv (.int .i64) (.tmp 17))),none⟩,0,12⟩,⟨⟨(some 19),(.p (.bin .shr (.tmp 18) (.val (.int .u64 (.ofNat 63))))),none⟩,0,12⟩,⟨bt 20 .eql 15 19,0,12⟩,⟨mv 4 13,0,12⟩,⟨mv 5 20,0,12⟩] [4,5])
 (.ret)))))
def M40 (F : Nat → Nat) : Fun := ⟨21,2,(K40 F).erase,[.tmp 4,.tmp 5]⟩
theorem ok40 {F : Nat → Nat} : (K40 F).ok = true := rfl
abbrev K41 (F : Nat → Nat) : KC := .seq (.region [⟨(some 3),(.a (.box (.tmp 1))),none⟩,⟨(some 4),(.a (.new [.bool false,.int .i64 (.ofNat 0),.int .i64 (.ofNat 0),.nilslice])),none⟩,⟨(some 5),(.p (.mov (.val (.bool false)))),none⟩] [3] [0,3,4])
 (.seq (.seq (.region [fa 6 0 3,l1 7 6] [] [0,3,4,7])
 (.block 0 (.seq (.region [bi 9 .eql 7 1,mv 8 9] [] [0,3,4,7,8])
 (.cond (.tmp 8) (.seq (.region [mv 10 0,lb 11 10,⟨(some 12),(.p (.build [.bool false,.int .i64 (.ofNat 0),.int .i64 (.ofNat 0),.nilslice] [(1,1,(.val (.int .i64 (.ofNat 1)))),(2,1,(.tmp 11))])),none⟩,⟨none,(.e (.store 4 (.tmp 4) (.tmp 12))),none⟩,⟨(some 5),(.p (.mov (.val (.bool true)))),none⟩] [] [4,5])
 (.ret))
 (.seq (.region [bi 14 .eql 7 2,mv 13 14] [] [0,3,4,7,13])
 (.cond (.tmp 13) (.seq (.region [mv 15 0,fa 16 1 3,l1 17 16,⟨(some 18),(.e (.call (F 43) [(.tmp 15),(.tmp 17)])),none⟩,et 19 18 0,et 20 18 1,⟨none,(.e (.store 4 (.tmp 4) (.tmp 19))),none⟩,mv 5 20] [] [4,5])
 (.ret))
 (.seq (.region [bi 22 .eql 7 3,mv 21 22] [] [0,3,4,21])
 (.cond (.tmp 21) (.seq (.region [mv 23 0,fa 24 1 3,l1 25 24,⟨(some 26),(.e (.call (F 44) [(.tmp 23),(.tmp 25),(.val (.int .i64 (.negSucc 0)))])),none⟩,⟨none,(.e (.store 4 (.tmp 4) (.tmp 26))),none⟩,⟨(some 5),(.p (.mov (.val (.bool true)))),none⟩] [] [4,5])
 (.ret))
 (.skip)))))))))
 (.seq (.region [mv 27 0,fa 28 1 3,l1 29 28,⟨(some 30),(.e (.call (F 44) [(.tmp 27),(.tmp 29),(.val (.int .i64 (.ofNat 1)))])),none⟩,⟨none,(.e (.store 4 (.tmp 4) (.tmp 30))),none⟩,⟨(some 5),(.p (.mov (.val (.bool true)))),none⟩] [] [4,5])
 (.ret)))
def M41 (F : Nat → Nat) : Fun := ⟨31,2,(K41 F).erase,[.celln 4 4,.tmp 5]⟩
theorem ok41 {F : Nat → Nat} : (K41 F).ok = true := rfl
abbrev K42 (F : Nat → Nat) : KC := .seq (.region [mv 7 0,⟨(some 8),(.p (.nilchk (.tmp 7))),none⟩,fa 9 1 8,l1 10 9,mv 11 1,⟨(some 12),(.p (.conv (.int .u64) (.tmp 11))),none⟩,⟨(some 13),(.e (.extern (F 45) [(.tmp 10),(.tmp 12),(.val (.int .u64 (.ofNat 0)))])),none⟩,mv 6 13,et 14 6 0,et 15 6 1,mv 4 14,mv 5 15] [] [0,1,4,5])
 (.seq (.region [mv 16 0,mv 17 4,⟨(some 18),(.p (.nilchk (.tmp 16))),none⟩,fa 19 1 18,⟨none,(.e (.store 1 (.tmp 19) (.tmp 17))),none⟩] [] [0,1,5])
 (.region [mv 20 0,⟨(some 21),(.p (.nilchk (.tmp 20))),none⟩,fa 22 0 21,l1 23 22,mv 24 1,⟨(some 25),(.p (.bin .shr (.tmp 24) (.val (.int .u64 (.ofNat 63))))),none⟩,mv 26 5,⟨(some 27),(.p (.conv (.int .i64) (.tmp 26))),none⟩,bt 28 .add 25 27,bt 29 .add 23 28,⟨(some 30),(.p (.nilchk (.tmp 20))),none⟩,fa 31 0 30,⟨none,(.e (.store 1 (.tmp 31) (.tmp 29))),none⟩] [] []))
def M42 (F : Nat → Nat) : Fun := ⟨32,2,(K42 F).erase,[]⟩
theorem ok42 {F : Nat → Nat} : (K42 F).ok = true := rfl
abbrev K43 (F : Nat → Nat) : KC := .seq (.region [⟨(some 4),(.a (.new [.bool false,.int .i64 (.ofNat 0),.int .i64 (.ofNat 0),.nilslice])),none⟩,⟨(some 5),(.p (.mov (.val (.bool false)))),none⟩] [] [0,1,4])
 (.seq (.region [⟨(some 6),(.a (.new [.int .i64 (.ofNat 0),.int .u64 (.ofNat 0)])),none⟩] [] [0,1,4,6])
 (.seq (.seq (.region [mv 10 0,lb 11 10,mi 12 0] [] [1,4,6,10,11,12])
 (.block 0 (.loop (.seq (.region [bt 13 .lss 12 11] [] [1,4,6,10,11,12,13])
 (.seq (.cond (.tmp 13) (.skip)
 (.exit 0))
 (.seq (.block 1 (.seq (.region [ix 14 1 10 12,l1 15 14,mv 8 15] [] [1,4,6,8,10,11,12])
 (.seq (.region [mv 16 8,mv 17 1,⟨(some 18),(.e (.call (F 3) [(.tmp 16),(.tmp 17)])),none⟩,⟨(some 9),(.a (.new [.bool false,.int .i64 (.ofNat 0),.int .i64 (.ofNat 0),.nilslice])),none⟩,⟨none,(.e (.store 4 (.tmp 9) (.tmp 18))),none⟩] [] [1,4,6,9,10,11,12])
 (.seq (.region [fa 19 0 9,l1 20 19,⟨(some 21),(.p (.not (.tmp 20))),none⟩] [] [1,4,6,9,10,11,12,21])
 (.cond (.tmp 21) (.region [fa 22 2 9,l1 23 22,⟨(some 24),(.e (.call (F 42) [(.tmp 6),(.tmp 23)])),none⟩] [] [1,4,6,10,11,12])
 (.skip))))))
 (.region [bi 25 .add 12 1,mv 12 25] [] [1,4,6,10,11,12])))))))
 (.seq (.seq (.region [fa 26 0 6,l1 27 26,fa 28 1 6,l1 29 28,⟨(some 30),(.p (.conv (.int .i64) (.tmp 29))),none⟩,⟨(some 31),(.p (.bin .shr (.tmp 30) (.val (.int .u64 (.ofNat 63))))),none⟩,bt 32 .neq 27 31] [] [4,6,32])
 (.cond (.tmp 32) (.seq (.region [⟨(some 33),(.p (.build [.bool false,.int .i64 (.ofNat 0),.int .i64 (.ofNat 0),.nilslice] [])),none⟩,⟨none,(.e (.store 4 (.tmp 4) (.tmp 33))),none⟩,⟨(some 5),(.p (.mov (.val (.bool false)))),none⟩] [] [4,5])
 (.ret))
 (.skip)))
 (.seq (.region [fa 34 1 6,l1 35 34,⟨(some 36),(.p (.conv (.int .i64) (.tmp 35))),none⟩,⟨(some 37),(.p (.build [.bool false,.int .i64 (.ofNat 0),.int .i64 (.ofNat 0),.nilslice] [(1,1,(.val (.int .i64 (.ofNat 1)))),(2,1,(.tmp 36))])),none⟩,⟨none,(.e (.store 4 (.tmp 4) (.tmp 37))),none⟩,⟨(some 5),(.p (.mov (.val (.bool true)))),none⟩] [] [4,5])
 (.ret)))))
def M43 (F : Nat → Nat) : Fun := ⟨38,2,(K43 F).erase,[.celln 4 4,.tmp 5]⟩
theorem ok43 {F : Nat → Nat} : (K43 F).ok = true := rfl
abbrev K44 (F : Nat → Nat) : KC := .seq (.region [⟨(some 6),(.a (.new [.bool false,.int .i64 (.ofNat 0),.int .i64 (.ofNat 0),.nilslice])),none⟩] [] [0,1,2,6])
 (.seq (.region [⟨(some 11),(.p (.build [.bool false,.int .i64 (.ofNat 0),.int .i64 (.ofNat 0),.nilslice] [(0,1,(.val (.bool true)))])),none⟩,⟨(some 7),(.a (.new [.bool false,.int .i64 (.ofNat 0),.int .i64 (.ofNat 0),.nilslice])),none⟩,⟨none,(.e (.store 4 (.tmp 7) (.tmp 11))),none⟩] [] [0,1,2,6,7])
 (.seq (.seq (.region [mv 12 0,lb 13 12,mi 14 0] [] [1,2,6,7,12,13,14])
 (.block 0 (.loop (.seq (.region [bt 15 .lss 14 13] [] [1,2,6,7,12,13,14,15])
 (.seq (.cond (.tmp 15) (.skip)
 (.exit 0))
 (.seq (.block 1 (.seq (.region [ix 16 1 12 14,l1 17 16,mv 9 17] [] [1,2,6,7,9,12,13,14])
 (.seq (.region [mv 18 9,mv 19 1,⟨(some 20),(.e (.call (F 3) [(.tmp 18),(.tmp 19)])),none⟩,⟨(some 10),(.a (.new [.bool false,.int .i64 (.ofNat 0),.int .i64 (.ofNat 0),.nilslice])),none⟩,⟨none,(.e (.store 4 (.tmp 10) (.tmp 20))),none⟩] [] [1,2,6,7,10,12,13,14])
 (.block 2 (.seq (.region [fa 22 0 10,l1 23 22,mv 21 23] [] [1,2,6,7,10,12,13,14,21])
 (.cond (.tmp 21) (.region [fa 24 1 10,l1 25 24,fa 26 1 7,⟨none,(.e (.store 1 (.tmp 26) (.tmp 25))),none⟩] [] [1,2,6,7,12,13,14])
 (.seq (.region [fa 28 0 7,l1 29 28,mv 30 29,⟨(some 31),(.loadn 4 (.tmp 10)),(some (30,false))⟩,⟨(some 32),(.loadn 4 (.tmp 7)),(some (30,false))⟩,⟨(some 33),(.e (.call (F 1) [(.tmp 31),(.tmp 32)])),(some (30,false))⟩,⟨(some 34),(.p (.mov (.tmp 2))),(some (30,false))⟩,⟨(some 35),(.p (.bin .mul (.tmp 33) (.tmp 34))),(some (30,false))⟩,⟨(some 36),(.p (.bin .gtr (.tmp 35) (.val (.int .i64 (.ofNat 0))))),(some (30,false))⟩,⟨(some 37),(.p (.pick (.tmp 30) (.val (.bool true)) (.tmp 36))),none⟩,mv 27 37] [] [1,2,6,7,10,12,13,14,27])
 (.cond (.tmp 27) (.region [ln 38 4 10,⟨none,(.e (.store 4 (.tmp 7) (.tmp 38))),none⟩] [] [1,2,6,7,12,13,14])
 (.skip)))))))))
 (.region [bi 39 .add 14 1,mv 14 39] [] [1,2,6,7,12,13,14])))))))
 (.seq (.region [ln 40 4 7,⟨none,(.e (.store 4 (.tmp 6) (.tmp 40))),none⟩] [] [6])
 (.ret))))
def M44 (F : Nat → Nat) : Fun := ⟨41,3,(K44 F).erase,[.celln 4 6]⟩
theorem ok44 {F : Nat → Nat} : (K44 F).ok = true := rfl
end Go.Lib
end

section
namespace Go.Lib
open Go.Vm Go.Dv
set_option maxRecDepth 100000
abbrev K26 (F : Nat → Nat) : KC := .region [mv 4 0,mv 5 0,lb 6 5,mv 7 1,⟨(some 8),(.e (.call (F 27) [(.tmp 4),(.tmp 6),(.tmp 7)])),none⟩] [] []
def M26 (F : Nat → Nat) : Fun := ⟨9,2,(K26 F).erase,[]⟩
theorem ok26 {F : Nat → Nat} : (K26 F).ok = true := rfl
abbrev K27 (F : Nat → Nat) : KC := .seq (.region [mi 6 20] [] [0,1,2,6])
 (.seq (.region [mv 10 6,mi 7 0,mv 8 10] [] [0,1,2,6,7,8])
 (.seq (.block 0 (.loop (.seq (.seq (.region [mv 11 8,mv 12 1,bt 13 .leq 11 12] [] [0,1,2,6,7,8,13])
 (.cond (.tmp 13) (.skip)
 (.exit 0)))
 (.block 1 (.seq (.region [mv 14 0,mv 15 7,mv 16 8,mv 17 2,⟨(some 18),(.e (.call (F 28) [(.tmp 14),(.tmp 15),(.tmp 16),(.tmp 17)])),none⟩] [] [0,1,2,6,8])
 (.seq (.region [mv 19 8,mv 7 19] [] [0,1,2,6,7,8])
 (.region [mv 20 8,mv 21 6,bt 22 .add 20 21,mv 8 22] [] [0,1,2,6,7,8])))))))
 (.seq (.region [mv 23 0,mv 24 7,mv 25 1,mv 26 2,⟨(some 27),(.e (.call (F 28) [(.tmp 23),(.tmp 24),(.tmp 25),(.tmp 26)])),none⟩] [] [0,1,2,6])
 (.block 2 (.loop (.seq (.seq (.region [mv 28 6,mv 29 1,bt 30 .lss 28 29] [] [0,1,2,6,30])
 (.cond (.tmp 30) (.skip)
 (.exit 2)))
 (.block 3 (.seq (.region [mv 31 6,⟨(some 32),(.p (.bin .mul (.val (.int .i64 (.ofNat 2))) (.tmp 31))),none⟩,mi 7 0,mv 8 32] [] [0,1,2,6,7,8])
 (.seq (.block 4 (.loop (.seq (.seq (.region [mv 33 8,mv 34 1,bt 35 .leq 33 34] [] [0,1,2,6,7,8,35])
 (.cond (.tmp 35) (.skip)
 (.exit 4)))
 (.block 5 (.seq (.region [mv 36 0,mv 37 7,mv 38 7,mv 39 6,bt 40 .add 38 39,mv 41 8,mv 42 2,⟨(some 43),(.e (.call (F 29) [(.tmp 36),(.tmp 37),(.tmp 40),(.tmp 41),(.tmp 42)])),none⟩] [] [0,1,2,6,8])
 (.seq (.region [mv 44 8,mv 7 44] [] [0,1,2,6,7,8])
 (.region [mv 45 8,mv 46 6,⟨(some 47),(.p (.bin .mul (.val (.int .i64 (.ofNat 2))) (.tmp 46))),none⟩,bt 48 .add 45 47,mv 8 48] [] [0,1,2,6,7,8])))))))
 (.seq (.seq (.region [mv 49 7,mv 50 6,bt 51 .add 49 50,mv 9 51] [] [0,1,2,6,7,9])
 (.seq (.region [mv 52 9,mv 53 1,bt 54 .lss 52 53] [] [0,1,2,6,7,9,54])
 (.cond (.tmp 54) (.region [mv 55 0,mv 56 7,mv 57 9,mv 58 1,mv 59 2,⟨(some 60),(.e (.call (F 29) [(.tmp 55),(.tmp 56),(.tmp 57),(.tmp 58),(.tmp 59)])),none⟩] [] [0,1,2,6])
 (.skip))))
 (.region [mv 61 6,bi 62 .mul 61 2,mv 6 62] [] [0,1,2,6])))))))))))
def M27 (F : Nat → Nat) : Fun := ⟨63,3,(K27 F).erase,[]⟩
theorem ok27 {F : Nat → Nat} : (K27 F).ok = true := rfl
abbrev K28 (_F : Nat → Nat) : KC := .seq (.region [mv 10 1,bi 11 .add 10 1,mv 8 11] [] [0,1,2,3,8])
 (.block 0 (.loop (.seq (.seq (.region [mv 12 8,mv 13 2,bt 14 .lss 12 13] [] [0,1,2,3,8,14])
 (.cond (.tmp 14) (.skip)
 (.exit 0)))
 (.seq (.block 1 (.seq (.region [mv 17 8,mv 9 17] [] [0,1,2,3,8,9])
 (.block 2 (.loop (.seq (.seq (.dregion [⟨mv 18 9,0,14⟩,⟨mv 19 1,0,14⟩,⟨bt 20 .gtr 18 19,0,14⟩,⟨mv 21 20,0,14⟩,⟨⟨(some 22),(.p (.mov (.tmp 3))),(some (21,true))⟩,0,14⟩,⟨⟨(some 23),(.p (.mov (.tmp 0))),(some (21,true))⟩,0,14⟩,⟨⟨(some 24),(.p (.mov (.tmp 9))),(some (21,true))⟩,0,14⟩,⟨⟨(some 25),(.p (.iaddr 1 (.tmp 23) (.tmp 24))),(some (21,true))⟩,0,14⟩,⟨⟨(some 26),(.load1 (.tmp 25)),(some (21,true))⟩,0,14⟩,⟨⟨(some 27),(.p (.mov (.tmp 0))),(some (21,true))⟩,0,14⟩,⟨⟨(some 28),(.p (.mov (.tmp 9))),(some (21,true))⟩,0,14⟩,⟨⟨(some 29),(.p (.bin .sub (.tmp 28) (.val (.int .i64 (.ofNat 1))))),(some (21,true))⟩,0,14⟩,⟨⟨(some 30),(.p (.iaddr 1 (.tmp 27) (.tmp 29))),(some (21,true))⟩,0,14⟩,⟨⟨(some 31),(.load1 (.tmp 30)),(some (21,true))⟩,0,14⟩,⟨⟨(some 32),(.e (.callv (.tmp 22) [(.tmp 26),(.tmp 31)])),(some (21,true))⟩,0,17⟩,⟨⟨(some 33),(.p (.bin .lss (.tmp 32) (.val (.int .i64 (.ofNat 0))))),(some (21,true))⟩,15,17⟩,⟨⟨(some 34),(.p (.pick (.tmp 21) (.tmp 33) (.val (.bool false)))),none⟩,15,17⟩] [0,1,2,3,8,9,34])
 (.cond (.tmp 34) (.skip)
 (.exit 2)))
 (.seq (.block 3 (.dregion [⟨mv 37 0,0,12⟩,⟨mv 38 9,0,12⟩,⟨mv 42 0,0,12⟩,⟨mv 43 9,0,12⟩,⟨bi 44 .sub 43 1,0,12⟩,⟨ix 45 1 42 44,0,12⟩,⟨l1 46 45,0,12⟩,⟨mv 47 0,0,12⟩,⟨mv 48 9,0,12⟩,⟨ix 49 1 47 48,0,12⟩,⟨l1 50 49,0,12⟩,⟨ix 51 1 37 38,0,12⟩,⟨⟨none,(.e (.store 1 (.tmp 51) (.tmp 46))),none⟩,0,17⟩,⟨mv 39 0,0,17⟩,⟨mv 40 9,0,17⟩,⟨bi 41 .sub 40 1,0,17⟩,⟨ix 52 1 39 41,13,17⟩,⟨⟨none,(.e (.store 1 (.tmp 52) (.tmp 50))),none⟩,13,18⟩] [0,1,2,3,8,9]))
 (.region [mv 35 9,bi 36 .sub 35 1,mv 9 36] [] [0,1,2,3,8,9])))))))
 (.region [mv 15 8,bi 16 .add 15 1,mv 8 16] [] [0,1,2,3,8])))))
def M28 (F : Nat → Nat) : Fun := ⟨53,4,(K28 F).erase,[]⟩
theorem ok28 {F : Nat → Nat} : (K28 F).ok = true := rfl
abbrev K29 (F : Nat → Nat) : KC := .seq (.seq (.region [mv 25 2,mv 26 1,bt 27 .sub 25 26,bi 28 .eql 27 1] [] [0,1,2,3,4,28])
 (.cond (.tmp 28) (.seq (.region [mv 29 2,mv 10 29] [] [0,1,3,4,10])
 (.seq (.region [mv 30 3,mv 11 30] [] [0,1,4,10,11])
 (.seq (.block 0 (.loop (.seq (.seq (.region [mv 31 10,mv 32 11,bt 33 .lss 31 32] [] [0,1,4,10,11,33])
 (.cond (.tmp 33) (.skip)
 (.exit 0)))
 (.block 1 (.seq (.region [mv 34 10,mv 35 11,bt 36 .add 34 35,⟨(some 37),(.p (.conv (.int .u64) (.tmp 36))),none⟩,⟨(some 38),(.p (.bin .shr (.tmp 37) (.val (.int .u64 (.ofNat 1))))),none⟩,⟨(some 39),(.p (.conv (.int .i64) (.tmp 38))),none⟩,mv 12 39] [] [0,1,4,10,11,12])
 (.seq (.dregion [⟨mv 40 4,0,9⟩,⟨mv 41 0,0,9⟩,⟨mv 42 12,0,9⟩,⟨ix 43 1 41 42,0,9⟩,⟨l1 44 43,0,9⟩,⟨mv 45 0,0,9⟩,⟨mv 46 1,0,9⟩,⟨ix 47 1 45 46,0,9⟩,⟨l1 48 47,0,9⟩,⟨⟨(some 49),(.e (.callv (.tmp 40) [(.tmp 44),(.tmp 48)])),none⟩,0,11⟩,⟨bi 50 .lss 49 0,10,11⟩] [0,1,4,10,11,12,50])
 (.cond (.tmp 50) (.region [mv 51 12,bi 52 .add 51 1,mv 10 52] [] [0,1,4,10,11])
 (.region [mv 53 12,mv 11 53] [] [0,1,4,10,11]))))))))
 (.seq (.seq (.region [mv 54 1,mv 13 54] [] [0,10,13])
 (.block 2 (.loop (.seq (.seq (.region [mv 55 13,mv 56 10,bi 57 .sub 56 1,bt 58 .lss 55 57] [] [0,10,13,58])
 (.cond (.tmp 58) (.skip)
 (.exit 2)))
 (.seq (.block 3 (.dregion [⟨mv 61 0,0,12⟩,⟨mv 62 13,0,12⟩,⟨mv 66 0,0,12⟩,⟨mv 67 13,0,12⟩,⟨bi 68 .add 67 1,0,12⟩,⟨ix 69 1 66 68,0,12⟩,⟨l1 70 69,0,12⟩,⟨mv 71 0,0,12⟩,⟨mv 72 13,0,12⟩,⟨ix 73 1 71 72,0,12⟩,⟨l1 74 73,0,12⟩,⟨ix 75 1 61 62,0,12⟩,⟨⟨none,(.e (.store 1 (.tmp 75) (.tmp 70))),none⟩,0,17⟩,⟨mv 63 0,0,17⟩,⟨mv 64 13,0,17⟩,⟨bi 65 .add 64 1,0,17⟩,⟨ix 76 1 63 65,13,17⟩,⟨⟨none,(.e (.store 1 (.tmp 76) (.tmp 74))),none⟩,13,18⟩] [0,10,13]))
 (.region [mv 59 13,bi 60 .add 59 1,mv 13 60] [] [0,10,13]))))))
 (.ret)))))
 (.skip)))
 (.seq (.seq (.region [mv 77 3,mv 78 2,bt 79 .sub 77 78,bi 80 .eql 79 1] [] [0,1,2,3,4,80])
 (.cond (.tmp 80) (.seq (.region [mv 81 1,mv 14 81] [] [0,2,4,14])
 (.seq (.region [mv 82 2,mv 15 82] [] [0,2,4,14,15])
 (.seq (.block 4 (.loop (.seq (.seq (.region [mv 83 14,mv 84 15,bt 85 .lss 83 84] [] [0,2,4,14,15,85])
 (.cond (.tmp 85) (.skip)
 (.exit 4)))
 (.block 5 (.seq (.region [mv 86 14,mv 87 15,bt 88 .add 86 87,⟨(some 89),(.p (.conv (.int .u64) (.tmp 88))),none⟩,⟨(some 90),(.p (.bin .shr (.tmp 89) (.val (.int .u64 (.ofNat 1))))),none⟩,⟨(some 91),(.p (.conv (.int .i64) (.tmp 90))),none⟩,mv 16 91] [] [0,2,4,14,15,16])
 (.seq (.dregion [⟨mv 92 4,0,9⟩,⟨mv 93 0,0,9⟩,⟨mv 94 2,0,9⟩,⟨ix 95 1 93 94,0,9⟩,⟨l1 96 95,0,9⟩,⟨mv 97 0,0,9⟩,⟨mv 98 16,0,9⟩,⟨ix 99 1 97 98,0,9⟩,⟨l1 100 99,0,9⟩,⟨⟨(some 101),(.e (.callv (.tmp 92) [(.tmp 96),(.tmp 100)])),none⟩,0,12⟩,⟨bi 102 .lss 101 0,10,12⟩,⟨⟨(some 103),(.p (.not (.tmp 102))),none⟩,10,12⟩] [0,2,4,14,15,16,103])
 (.cond (.tmp 103) (.region [mv 104 16,bi 105 .add 104 1,mv 14 105] [] [0,2,4,14,15])
 (.region [mv 106 16,mv 15 106] [] [0,2,4,14,15]))))))))
 (.seq (.seq (.region [mv 107 2,mv 17 107] [] [0,14,17])
 (.block 6 (.loop (.seq (.seq (.region [mv 108 17,mv 109 14,bt 110 .gtr 108 109] [] [0,14,17,110])
 (.cond (.tmp 110) (.skip)
 (.exit 6)))
 (.seq (.block 7 (.dregion [⟨mv 113 0,0,12⟩,⟨mv 114 17,0,12⟩,⟨mv 118 0,0,12⟩,⟨mv 119 17,0,12⟩,⟨bi 120 .sub 119 1,0,12⟩,⟨ix 121 1 118 120,0,12⟩,⟨l1 122 121,0,12⟩,⟨mv 123 0,0,12⟩,⟨mv 124 17,0,12⟩,⟨ix 125 1 123 124,0,12⟩,⟨l1 126 125,0,12⟩,⟨ix 127 1 113 114,0,12⟩,⟨⟨none,(.e (.store 1 (.tmp 127) (.tmp 122))),none⟩,0,17⟩,⟨mv 115 0,0,17⟩,⟨mv 116 17,0,17⟩,⟨bi 117 .sub 116 1,0,17⟩,⟨ix 128 1 115 117,13,17⟩,⟨⟨none,(.e (.store 1 (.tmp 128) (.tmp 126))),none⟩,13,18⟩] [0,14,17]))
 (.region [mv 111 17,bi 112 .sub 111 1,mv 17 112] [] [0,14,17]))))))
 (.ret)))))
 (.skip)))
 (.seq (.region [mv 129 1,mv 130 3,bt 131 .add 129 130,⟨(some 132),(.p (.conv (.int .u64) (.tmp 131))),none⟩,⟨(some 133),(.p (.bin .shr (.tmp 132) (.val (.int .u64 (.ofNat 1))))),none⟩,⟨(some 134),(.p (.conv (.int .i64) (.tmp 133))),none⟩,mv 18 134] [] [0,1,2,3,4,18])
 (.seq (.region [mv 135 18,mv 136 2,bt 137 .add 135 136,mv 19 137] [] [0,1,2,3,4,18,19])
 (.seq (.region [mi 20 0,mi 21 0] [] [0,1,2,3,4,18,19])
 (.seq (.seq (.region [mv 138 2,mv 139 18,bt 140 .gtr 138 139] [] [0,1,2,3,4,18,19,140])
 (.cond (.tmp 140) (.seq (.region [mv 141 19,mv 142 3,bt 143 .sub 141 142,mv 20 143] [] [0,1,2,3,4,18,19,20])
 (.region [mv 144 18,mv 21 144] [] [0,1,2,3,4,18,19,20,21]))
 (.seq (.region [mv 145 1,mv 20 145] [] [0,1,2,3,4,18,19,20])
 (.region [mv 146 2,mv 21 146] [] [0,1,2,3,4,18,19,20,21]))))
 (.seq (.region [mv 147 19,bi 148 .sub 147 1,mv 22 148] [] [0,1,2,3,4,18,19,20,21,22])
 (.seq (.block 8 (.loop (.seq (.seq (.region [mv 149 20,mv 150 21,bt 151 .lss 149 150] [] [0,1,2,3,4,18,19,20,21,22,151])
 (.cond (.tmp 151) (.skip)
 (.exit 8)))
 (.block 9 (.seq (.region [mv 152 20,mv 153 21,bt 154 .add 152 153,⟨(some 155),(.p (.conv (.int .u64) (.tmp 154))),none⟩,⟨(some 156),(.p (.bin .shr (.tmp 155) (.val (.int .u64 (.ofNat 1))))),none⟩,⟨(some 157),(.p (.conv (.int .i64) (.tmp 156))),none⟩,mv 23 157] [] [0,1,2,3,4,18,19,20,21,22,23])
 (.seq (.dregion [⟨mv 158 4,0,11⟩,⟨mv 159 0,0,11⟩,⟨mv 160 22,0,11⟩,⟨mv 161 23,0,11⟩,⟨bt 162 .sub 160 161,0,11⟩,⟨ix 163 1 159 162,0,11⟩,⟨l1 164 163,0,11⟩,⟨mv 165 0,0,11⟩,⟨mv 166 23,0,11⟩,⟨ix 167 1 165 166,0,11⟩,⟨l1 168 167,0,11⟩,⟨⟨(some 169),(.e (.callv (.tmp 158) [(.tmp 164),(.tmp 168)])),none⟩,0,14⟩,⟨bi 170 .lss 169 0,12,14⟩,⟨⟨(some 171),(.p (.not (.tmp 170))),none⟩,12,14⟩] [0,1,2,3,4,18,19,20,21,22,23,171])
 (.cond (.tmp 171) (.region [mv 172 23,bi 173 .add 172 1,mv 20 173] [] [0,1,2,3,4,18,19,20,21,22])
 (.region [mv 174 23,mv 21 174] [] [0,1,2,3,4,18,19,20,21,22]))))))))
 (.seq (.region [mv 175 19,mv 176 20,bt 177 .sub 175 176,mv 24 177] [] [0,1,2,3,4,18,20,24])
 (.seq (.seq (.region [mv 178 20,mv 179 2,bt 180 .lss 178 179,mv 181 180,⟨(some 182),(.p (.mov (.tmp 2))),(some (181,true))⟩,⟨(some 183),(.p (.mov (.tmp 24))),(some (181,true))⟩,⟨(some 184),(.p (.bin .lss (.tmp 182) (.tmp 183))),(some (181,true))⟩,⟨(some 185),(.p (.pick (.tmp 181) (.tmp 184) (.val (.bool false)))),none⟩] [] [0,1,2,3,4,18,20,24,185])
 (.cond (.tmp 185) (.region [mv 186 0,mv 187 20,mv 188 2,mv 189 24,mv 190 4,⟨(some 191),(.e (.call (F 30) [(.tmp 186),(.tmp 187),(.tmp 188),(.tmp 189),(.tmp 190)])),none⟩] [] [0,1,3,4,18,20,24])
 (.skip)))
 (.seq (.seq (.region [mv 192 1,mv 193 20,bt 194 .lss 192 193,mv 195 194,⟨(some 196),(.p (.mov (.tmp 20))),(some (195,true))⟩,⟨(some 197),(.p (.mov (.tmp 18))),(some (195,true))⟩,⟨(some 198),(.p (.bin .lss (.tmp 196) (.tmp 197))),(some (195,true))⟩,⟨(some 199),(.p (.pick (.tmp 195) (.tmp 198) (.val (.bool false)))),none⟩] [] [0,1,3,4,18,20,24,199])
 (.cond (.tmp 199) (.region [mv 200 0,mv 201 1,mv 202 20,mv 203 18,mv 204 4,⟨(some 205),(.e (.call (F 29) [(.tmp 200),(.tmp 201),(.tmp 202),(.tmp 203),(.tmp 204)])),none⟩] [] [0,3,4,18,24])
 (.skip)))
 (.seq (.region [mv 206 18,mv 207 24,bt 208 .lss 206 207,mv 209 208,⟨(some 210),(.p (.mov (.tmp 24))),(some (209,true))⟩,⟨(some 211),(.p (.mov (.tmp 3))),(some (209,true))⟩,⟨(some 212),(.p (.bin .lss (.tmp 210) (.tmp 211))),(some (209,true))⟩,⟨(some 213),(.p (.pick (.tmp 209) (.tmp 212) (.val (.bool false)))),none⟩] [] [0,3,4,18,24,213])
 (.cond (.tmp 213) (.region [mv 214 0,mv 215 18,mv 216 24,mv 217 3,mv 218 4,⟨(some 219),(.e (.call (F 29) [(.tmp 214),(.tmp 215),(.tmp 216),(.tmp 217),(.tmp 218)])),none⟩] [] [])
 (.skip)))))))))))))
def M29 (F : Nat → Nat) : Fun := ⟨220,5,(K29 F).erase,[]⟩
theorem ok29 {F : Nat → Nat} : (K29 F).ok = true := rfl
abbrev K30 (F : Nat → Nat) : KC := .seq (.region [mv 12 2,mv 13 1,bt 14 .sub 12 13,mv 10 14] [] [0,2,3,4,10])
 (.seq (.region [mv 15 3,mv 16 2,bt 17 .sub 15 16,mv 11 17] [] [0,2,4,10,11])
 (.seq (.block 0 (.loop (.seq (.seq (.region [mv 18 10,mv 19 11,bt 20 .neq 18 19] [] [0,2,4,10,11,20])
 (.cond (.tmp 20) (.skip)
 (.exit 0)))
 (.block 1 (.seq (.region [mv 21 10,mv 22 11,bt 23 .gtr 21 22] [] [0,2,4,10,11,23])
 (.cond (.tmp 23) (.seq (.region [mv 24 0,mv 25 2,mv 26 10,bt 27 .sub 25 26,mv 28 2,mv 29 11,mv 30 4,⟨(some 31),(.e (.call (F 31) [(.tmp 24),(.tmp 27),(.tmp 28),(.tmp 29),(.tmp 30)])),none⟩] [] [0,2,4,10,11])
 (.region [mv 32 10,mv 33 11,bt 34 .sub 32 33,mv 10 34] [] [0,2,4,10,11]))
 (.seq (.region [mv 35 0,mv 36 2,mv 37 10,bt 38 .sub 36 37,mv 39 2,mv 40 11,bt 41 .add 39 40,mv 42 10,bt 43 .sub 41 42,mv 44 10,mv 45 4,⟨(some 46),(.e (.call (F 31) [(.tmp 35),(.tmp 38),(.tmp 43),(.tmp 44),(.tmp 45)])),none⟩] [] [0,2,4,10,11])
 (.region [mv 47 11,mv 48 10,bt 49 .sub 47 48,mv 11 49] [] [0,2,4,10,11]))))))))
 (.region [mv 50 0,mv 51 2,mv 52 10,bt 53 .sub 51 52,mv 54 2,mv 55 10,mv 56 4,⟨(some 57),(.e (.call (F 31) [(.tmp 50),(.tmp 53),(.tmp 54),(.tmp 55),(.tmp 56)])),none⟩] [] [])))
def M30 (F : Nat → Nat) : Fun := ⟨58,5,(K30 F).erase,[]⟩
theorem ok30 {F : Nat → Nat} : (K30 F).ok = true := rfl
abbrev K31 (_F : Nat → Nat) : KC := .seq (.region [mi 10 0] [] [0,1,2,3,10])
 (.block 0 (.loop (.seq (.seq (.region [mv 11 10,mv 12 3,bt 13 .lss 11 12] [] [0,1,2,3,10,13])
 (.cond (.tmp 13) (.skip)
 (.exit 0)))
 (.seq (.block 1 (.dregion [⟨mv 16 0,0,17⟩,⟨mv 17 1,0,17⟩,⟨mv 18 10,0,17⟩,⟨bt 19 .add 17 18,0,17⟩,⟨mv 24 0,0,17⟩,⟨mv 25 2,0,17⟩,⟨mv 26 10,0,17⟩,⟨bt 27 .add 25 26,0,17⟩,⟨ix 28 1 24 27,0,17⟩,⟨l1 29 28,0,17⟩,⟨mv 30 0,0,17⟩,⟨mv 31 1,0,17⟩,⟨mv 32 10,0,17⟩,⟨bt 33 .add 31 32,0,17⟩,⟨ix 34 1 30 33,0,17⟩,⟨l1 35 34,0,17⟩,⟨ix 36 1 16 19,0,17⟩,⟨⟨none,(.e (.store 1 (.tmp 36) (.tmp 29))),none⟩,0,23⟩,⟨mv 20 0,0,23⟩,⟨mv 21 2,0,23⟩,⟨mv 22 10,0,23⟩,⟨bt 23 .add 21 22,0,23⟩,⟨ix 37 1 20 23,18,23⟩,⟨⟨none,(.e (.store 1 (.tmp 37) (.tmp 35))),none⟩,18,24⟩] [0,1,2,3,10]))
 (.region [mv 14 10,bi 15 .add 14 1,mv 10 15] [] [0,1,2,3,10])))))
def M31 (F : Nat → Nat) : Fun := ⟨38,5,(K31 F).erase,[]⟩
theorem ok31 {F : Nat → Nat} : (K31 F).ok = true := rfl
end Go.Lib
end

section
namespace Go.Srt
variable {α : Type}
def swp (L : List α) (i j : Nat) : List α := match L[i]?, L[j]? with
  | some x, some y => (L.set i y).set j x
  | _, _ => L
theorem swp_length {L : List α} {i j : Nat} : (swp L i j).length = L.length := by
  unfold swp; split <;> simp
theorem swp_perm {L : List α} {i j : Nat} : (swp L i j).Perm L := by
  unfold swp
  split
  · rename_i x y hx hy
    obtain ⟨h1, rfl⟩ := List.getElem?_eq_some_iff.1 hx
    obtain ⟨h2, rfl⟩ := List.getElem?_eq_some_iff.1 hy
    exact List.set_set_perm h1 h2
  · exact .refl _
theorem swp_get {L : List α} {i j : Nat} (hi : i < L.length) (hj : j < L.length) (k : Nat) : (swp L i j)[k]? = if k = j then L[i]? else if k = i then L[j]? else L[k]? := by
  unfold swp
  rw [List.getElem?_eq_getElem hi, List.getElem?_eq_getElem hj]
  simp only
  rw [List.getElem?_set, List.getElem?_set]
  by_cases h1 : k = j
  · subst h1; simp [hj]
  · rw [if_neg (Ne.symm h1), if_neg h1]
    by_cases h2 : k = i
    · subst h2; simp [hi]
    · rw [if_neg (Ne.symm h2), if_neg h2]
def swpR (L : List α) (a b : Nat) : Nat → List α
  | 0 => L
  | m + 1 => swp (swpR L a b m) (a + m) (b + m)
theorem swpR_length {L : List α} {a b : Nat} : ∀ {m : Nat}, (swpR L a b m).length = L.length
  | 0 => rfl
  | m + 1 => by rw [swpR, swp_length, swpR_length]
theorem swpR_perm {L : List α} {a b : Nat} : ∀ {m : Nat}, (swpR L a b m).Perm L
  | 0 => .refl _
  | m + 1 => by rw [swpR]; exact swp_perm.trans swpR_perm
theorem swpR_get {L : List α} {a b : Nat} : ∀ {m : Nat}, a + m ≤ b → b + m ≤ L.length → ∀ k, (swpR L a b m)[k]? = if a ≤ k ∧ k < a + m then L[b + (k - a)]? else if b ≤ k ∧ k < b + m then L[a + (k - b)]? else L[k]?
  | 0, _, _, k => by rw [swpR, if_neg (by omega), if_neg (by omega)]
  | m + 1, h1, h2, k => by
    have ih := fun k => swpR_get (L := L) (a := a) (b := b) (m := m) (by omega) (by omega) k
    rw [swpR, swp_get (by rw [swpR_length]; omega) (by rw [swpR_length]; omega)]
    simp only [ih]
    repeat' split
    all_goals first | rfl | omega | (congr 1; omega)
theorem swp_eq {L : List α} {i j : Nat} {x y : α} (hx : L[i]? = some x) (hy : L[j]? = some y) : (L.set i y).set j x = swp L i j := by
  unfold swp; rw [hx, hy]
def RotR (L L' : List α) (a m b : Nat) : Prop := ∀ k, L'[k]? = if a ≤ k ∧ k < a + (b - m) then L[m + (k - a)]? else if a + (b - m) ≤ k ∧ k < b then L[k - (b - m)]? else L[k]?
theorem rot_more {L L2 : List α} {i j m : Nat} (hi : i ≤ m) (hj : j < i) (hl : m + j ≤ L.length) (h : RotR (swpR L (m - i) m j) L2 (m - i + j) m (m + j)) : RotR L L2 (m - i) m (m + j) := by
  intro k
  have hk := h k
  simp only [swpR_get (L := L) (a := m - i) (b := m) (m := j) (by omega) (by omega)] at hk
  rw [hk]
  repeat' split
  all_goals first | rfl | omega | (congr 1; omega)
theorem rot_less {L L2 : List α} {i j m : Nat} (hi : i ≤ m) (hj : i < j) (hl : m + j ≤ L.length) (h : RotR (swpR L (m - i) (m + j - i) i) L2 (m - i) m (m + (j - i))) : RotR L L2 (m - i) m (m + j) := by
  intro k
  have hk := h k
  simp only [swpR_get (L := L) (a := m - i) (b := m + j - i) (m := i) (by omega) (by omega)] at hk
  rw [hk]
  repeat' split
  all_goals first | rfl | omega | (congr 1; omega)
theorem rot_same {L : List α} {i m : Nat} (hi : i ≤ m) (hl : m + i ≤ L.length) : RotR L (swpR L (m - i) m i) (m - i) m (m + i) := by
  intro k
  rw [swpR_get (by omega) (by omega)]
  repeat' split
  all_goals first | rfl | omega | (congr 1; omega)
def Srt (cmp : α → α → Int) (L : List α) (a b : Nat) : Prop := ∀ p q x y, a ≤ p → p < q → q < b → L[p]? = some x → L[q]? = some y → ¬ cmp y x < 0
structure Mix (L L' : List α) (a b : Nat) : Prop where
  perm : L'.Perm L
  out : ∀ k, k < a ∨ b ≤ k → L'[k]? = L[k]?
theorem Mix.refl {L : List α} {a b : Nat} : Mix L L a b := ⟨.refl _, fun _ _ => rfl⟩
theorem Mix.trans {L L1 L2 : List α} {a b : Nat} (x : Mix L L1 a b) (y : Mix L1 L2 a b) : Mix L L2 a b := ⟨y.perm.trans x.perm, fun k hk => (y.out k hk).trans (x.out k hk)⟩
theorem Mix.swp {L : List α} {a b i j : Nat} (hi : a ≤ i ∧ i < b) (hj : a ≤ j ∧ j < b) (hb : b ≤ L.length) : Mix L (swp L i j) a b :=
  ⟨swp_perm, fun k hk => by rw [swp_get (by omega) (by omega), if_neg (by omega), if_neg (by omega)]⟩
theorem Srt.mono {cmp : α → α → Int} {L : List α} {a b a' b' : Nat} (h : Srt cmp L a b) (ha : a ≤ a') (hb : b' ≤ b) : Srt cmp L a' b' :=
  fun p q x y h1 h2 h3 => h p q x y (by omega) h2 (by omega)
def Parted (cmp : α → α → Int) (L : List α) (a m b : Nat) : Prop := ∀ p q x y, a ≤ p → p < m → m ≤ q → q < b → L[p]? = some x → L[q]? = some y → ¬ cmp y x < 0
theorem Srt.join {cmp : α → α → Int} {L : List α} {a m b : Nat} (h1 : Srt cmp L a m) (h2 : Srt cmp L m b) (h3 : Parted cmp L a m b) : Srt cmp L a b := fun p q x y k1 k2 k3 k4 k5 => by
  rcases Nat.lt_or_ge q m with c | c
  · exact h1 p q x y k1 k2 c k4 k5
  · rcases Nat.lt_or_ge p m with d | d
    · exact h3 p q x y k1 d c k3 k4 k5
    · exact h2 p q x y d k2 k3 k4 k5
theorem parts (M : List α) {a b : Nat} (h : a ≤ b) : M = M.take a ++ ((M.take b).drop a ++ M.drop b) := by
  rw [← List.append_assoc]
  have : M.take a ++ (M.take b).drop a = M.take b := by
    have := List.take_append_drop a (M.take b)
    rwa [List.take_take, Nat.min_eq_left h] at this
  rw [this, List.take_append_drop]
theorem Mix.src {L L' : List α} {a b k : Nat} {v : α} (hm : Mix L L' a b) (h1 : a ≤ k) (h2 : k < b) (hv : L'[k]? = some v) : ∃ k', a ≤ k' ∧ k' < b ∧ L[k']? = some v := by
  have ht : L'.take a = L.take a := List.ext_getElem? fun i => by
    rw [List.getElem?_take, List.getElem?_take]
    split
    · exact hm.out i (by omega)
    · rfl
  have hd : L'.drop b = L.drop b := List.ext_getElem? fun i => by
    rw [List.getElem?_drop, List.getElem?_drop]
    exact hm.out _ (by omega)
  have hp := hm.perm
  rw [parts L' (show a ≤ b by omega), parts L (show a ≤ b by omega), ht, hd] at hp
  have hp := (List.perm_append_right_iff _).1 ((List.perm_append_left_iff _).1 hp)
  have hmem : v ∈ (L'.take b).drop a := by
    refine List.mem_of_getElem? (i := k - a) ?_
    rw [List.getElem?_drop, List.getElem?_take, if_pos (by omega), show a + (k - a) = k by omega]
    exact hv
  obtain ⟨i, hi⟩ := List.getElem?_of_mem (hp.mem_iff.1 hmem)
  rw [List.getElem?_drop, List.getElem?_take] at hi
  split at hi
  · exact ⟨a + i, by omega, by omega, hi⟩
  · cases hi
theorem Parted.mix {cmp : α → α → Int} {L L' : List α} {a m b a' b' : Nat} (h : Parted cmp L a m b) (hm : Mix L L' a' b') (hw : (a ≤ a' ∧ b' ≤ m) ∨ (m ≤ a' ∧ b' ≤ b)) : Parted cmp L' a m b := by
  have src : ∀ k v, L'[k]? = some v → a' ≤ k → k < b' → ∃ k', a' ≤ k' ∧ k' < b' ∧ L[k']? = some v := fun k v hv h1 h2 => hm.src h1 h2 hv
  intro p q x y k1 k2 k3 k4 k5 k6
  have hp : ∃ p', a ≤ p' ∧ p' < m ∧ L[p']? = some x := by
    by_cases c : a' ≤ p ∧ p < b'
    · obtain ⟨p', e1, e2, e3⟩ := src p x k5 c.1 c.2
      rcases hw with hw | hw
      · exact ⟨p', by omega, by omega, e3⟩
      · omega
    · exact ⟨p, k1, k2, by rw [← hm.out p (by omega)]; exact k5⟩
  have hq : ∃ q', m ≤ q' ∧ q' < b ∧ L[q']? = some y := by
    by_cases c : a' ≤ q ∧ q < b'
    · obtain ⟨q', e1, e2, e3⟩ := src q y k6 c.1 c.2
      rcases hw with hw | hw
      · omega
      · exact ⟨q', by omega, by omega, e3⟩
    · exact ⟨q, k3, k4, by rw [← hm.out q (by omega)]; exact k6⟩
  obtain ⟨p', a1, a2, a3⟩ := hp
  obtain ⟨q', b1, b2, b3⟩ := hq
  exact h p' q' x y a1 a2 b1 b2 a3 b3
end Go.Srt
end
