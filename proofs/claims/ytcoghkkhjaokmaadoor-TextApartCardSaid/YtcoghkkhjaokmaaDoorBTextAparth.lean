/-
  Texts that the claim's last one rests on, joined.
-/
import Derived.Test.YtcoghkkhjaokmaaDoorBTextApartg
import Derived.Test.YtcoghkkhjaokmaaDoorBTextApartf

section
set_option maxRecDepth 10000
namespace Go.Lib
open Go.Vm Go.Dv
variable {p : Prog} {ext : Ext} {F : Nat → Nat}
def strE (l : List (List Nat)) : List (List D) := l.map fun s => [.lit (.str s)]
def strsD (l : List (List Nat)) : D := .row 1 .p (strE l)
theorem str_under {n : Nat} {l : List (List Nat)} : (strsD l).under n := by
  simp only [strsD, D.under]; exact underss_map (fun _ => by simp) _
theorem str_len {l : List (List Nat)} : (strE l).length = l.length := by simp [strE]
theorem lenb_strs {l : List (List Nat)} : lenbD (strsD l) = some (.lit (.int .i64 (l.length : Int))) := by simp [strsD, str_len]
theorem at_strs {l : List (List Nat)} {n : Nat} : atO 1 (strsD l) (some n) = elemD (l[n]?.map fun s => [.lit (.str s)]) := by simp [strsD, strE]
theorem strE_append {a b : List (List Nat)} : strE (a ++ b) = strE a ++ strE b := by simp [strE]
attribute [simp] str_under lenb_strs at_strs
theorem toVs_strs : ∀ l : List (List Nat), toVs (strE l).flatten = some (l.map V.str)
  | [] => rfl
  | s :: l => by
    have := toVs_strs l
    simp only [strE] at this
    simp [strE, toVs, toV, this]
theorem strsOf_map : ∀ l : List (List Nat), strsOf (l.map V.str) = some l
  | [] => rfl
  | s :: l => by simp [strsOf, strsOf_map l]
theorem strsV_ok {h : Hp} {ψ : Nat → Option Nat} {S : Nat → Prop} {l : List (List Nat)} {v : V} (k : VD h ψ S (strsD l) v) : strsV h v = some l := by
  simp only [strsD, VD] at k
  rcases k with ⟨rfl, hb⟩ | ⟨c, o, cp, ex, rfl, h1, h2, k⟩
  · cases l with
    | nil => rfl
    | cons x b => simp [strE] at hb
  · rcases k with ⟨hm, _⟩ | ⟨cs, ro, hs, hb, hp⟩
    · cases hm
    · obtain ⟨us, e1, k1⟩ := VDss.cells hp
      rw [Nat.mul_one] at e1
      have := toVs_ok _ (toVs_strs l) k1
      subst this
      have hr : h.read c o (strE l).length = some (l.map V.str) := by unfold Hp.read; rw [hb]; exact e1
      simp only [strsV, hr, nbeq_d, decide_true, cond_true]
      exact strsOf_map l
theorem join_ext {f : Nat} {g : SG} (hx : ∀ args h, ext f args h = strV g .join args h) {l : List (List Nat)} {sep : List Nat} (h1 : (joinN l sep).length ≤ 4294967280) (h2 : l.length ≤ 4294967280) :
    FnD p ext f [strsD l, .lit (.str sep)] (.lit (.str (joinN l sep))) := by
  intro H ψ S h vs s k
  simp only [VDl] at k
  obtain ⟨v, r, rfl, k1, w, r2, rfl, k2, rfl⟩ := k
  simp only [VD] at k2
  obtain ⟨rfl, _⟩ := k2
  refine wpc_ext (v := .str (joinN l sep)) (h' := h) ?_ ⟨ψ, S, _, H, .refl, s, ?_, rfl, rfl⟩
  · rw [hx]
    simp only [strV, strsV_ok k1]
    rw [nble.2 h1, nble.2 h2]
    rfl
  · simp [VD, atomV]
def PowGl (p : Prog) (g : SG) : Prop := p.gl g.pow = some fun y => powCells y = true
theorem fmt_ext {f : Nat} {g : SG} (hx : ∀ args h, ext f args h = strV g .fmt args h) (hg : PowGl p g) {n : Int} (hn : wr .i64 n = n) :
    FnD p ext f [.lit (.int .i64 n), .lit (.int .i64 (.ofNat 10))] (.lit (.str (itoaN n))) := by
  intro H ψ S h vs s k
  simp only [VDl] at k
  obtain ⟨v, r, rfl, k1, w, r2, rfl, k2, rfl⟩ := k
  simp only [VD] at k1 k2
  obtain ⟨rfl, _⟩ := k1
  obtain ⟨rfl, _⟩ := k2
  have hp := (s.gl g.pow _ hg).2
  refine wpc_ext (v := .str (itoaN n)) (h' := h) ?_ ⟨ψ, S, _, H, .refl, s, ?_, rfl, rfl⟩
  · rw [hx]
    simp only [strV, hp, hn, cond_true]
    rw [show Nat.beq 10 10 = true from rfl, show ieq n n = true from ieq_iff.2 rfl]
    rfl
  · simp [VD, atomV]
theorem sadd {tab : Tab} {a b : List Nat} : binV tab .add (.str a) (.str b) = cond (Nat.ble (a.length + b.length) 1152921504606846976) (some (.str (a ++ b))) none := rfl
theorem sadd_of {tab : Tab} {a b : List Nat} (h : a.length + b.length ≤ 1152921504606846976) : binV tab .add (.str a) (.str b) = some (.str (a ++ b)) := by rw [sadd, nble.2 h]; rfl
theorem neqs_dec : ∀ {a b : List Nat}, neqs a b = decide (a = b)
  | [], [] => by simp [neqs]
  | [], _ :: _ => by simp [neqs]
  | _ :: _, [] => by simp [neqs]
  | a :: x, b :: y => by
    simp only [neqs, nbeq_d, neqs_dec (a := x) (b := y), List.cons.injEq]
    by_cases h : a = b <;> simp [h]
end Go.Lib
end

section
set_option maxRecDepth 10000
namespace Go.Dv
open Go.Vm
variable {p : Prog} {ext : Ext} {Q : ResD → Prop} {H0 H : HpD} {sz : Nat} {s : D} {el : List (List D)}
theorem les_append : ∀ {a a' b b' : List D}, D.les a a' → D.les b b' → D.les (a ++ b) (a' ++ b')
  | [], [], _, _, _, h => h
  | d :: a, d' :: a', _, _, k, h => by
    simp only [D.les, List.cons_append] at k ⊢
    exact ⟨k.1, les_append k.2 h⟩
  | [], _ :: _, _, _, k, _ => by simp [D.les] at k
  | _ :: _, [], _, _, k, _ => by simp [D.les] at k
theorem les_flat : ∀ {l l' : List (List D)}, D.less l l' → D.les l.flatten l'.flatten
  | [], [], _ => by simp
  | e :: l, e' :: l', k => by
    simp only [D.less] at k
    simp only [List.flatten_cons]
    exact les_append k.1 (les_flat k.2)
  | [], _ :: _, k => by simp [D.less] at k
  | _ :: _, [], k => by simp [D.less] at k
theorem SR.tell {G : Nat → Option (Blk → Prop)} {ψ : Nat → Option Nat} {S : Nat → Prop} {h : Hp} {b : Nat} {cs cs' : List D} {ro : Bool} (s : SR G ψ S H h) (hb : H.blk b = .cells cs ro) (hl : D.les cs cs') : SR G ψ S (H.put b (.cells cs' ro)) h :=
  ⟨s.inj, s.dom, s.frz, fun b' hg => by
    rw [put_blk] at hg ⊢
    by_cases e : b' = b
    · subst e
      obtain ⟨c, h1, h2, h3⟩ := s.live b' (by rw [hb]; rfl)
      rw [hb] at h3
      obtain ⟨l', e1, k⟩ := h3
      refine ⟨c, h1, h2, ?_⟩
      rw [if_pos rfl]
      exact ⟨l', e1, VDl.le _ _ hl k⟩
    · rw [if_neg e] at hg ⊢
      exact s.live b' hg, s.gl⟩
theorem Weak.tell {a : List D} {fr : FrD} {b : Nat} {cs cs' : List D} {ro : Bool} (hb : H.blk b = .cells cs ro) (hl : D.les cs cs') : Weak a fr H a fr (H.put b (.cells cs' ro)) :=
  fun _ ψ S _ _ _ s k kv => ⟨ψ, S, .refl, s.tell hb hl, k, kv⟩
structure GrX (H0 H : HpD) (sz : Nat) (s : D) (el : List (List D)) : Prop where
  gr : Gr H0 H sz s el
  at_ : (s = .lit .nilslice ∧ el = []) ∨ ∃ b ex, s = .slice b 0 sz el.length el.length ex ∧ H0.next ≤ b ∧ b < H.next ∧ H.blk b = .cells el.flatten false
theorem Gr.exact (g : Gr H0 H sz s el) : ∃ H', (∀ a fr, Weak a fr H a fr H') ∧ GrX H0 H' sz s el ∧ (∀ x, ¬ s.hasB x → H'.blk x = H.blk x) ∧ H'.next = H.next := by
  rcases g.at_ with ⟨rfl, rfl⟩ | ⟨b, ex, el0, rfl, h1, h2, h3, h4⟩
  · exact ⟨H, fun _ _ => .refl, ⟨g, .inl ⟨rfl, rfl⟩⟩, fun _ _ => rfl, rfl⟩
  · refine ⟨H.put b (.cells el.flatten false), fun _ _ => Weak.tell h3 (les_flat h4), ⟨⟨g.sub.put h1, g.len, .inr ⟨b, ex, el, rfl, h1, h2, by simp, D.less_refl _⟩⟩, .inr ⟨b, ex, rfl, h1, h2, by simp⟩⟩, fun x hx => ?_, rfl⟩
    rw [put_blk, if_neg]
    rintro rfl
    exact hx rfl
theorem Weak.box {a : List D} {fr : FrD} {b t : Nat} {cs : List D} {ro : Bool} (hb : H.blk b = .cells cs ro) (ht : lk fr t = .ptr b 0) : Weak a fr H a ((t, .rptr cs 0) :: fr) (H.put b .gone) := by
  intro G ψ S h fv vs sr kf kv
  obtain ⟨c, hc, h2, h3⟩ := sr.live b (by rw [hb]; rfl)
  rw [hb] at h3
  obtain ⟨l', e1, k⟩ := h3
  obtain ⟨x0, s0⟩ := sr.freeze hc
  refine ⟨ψ, _, x0, s0, ?_, VDl.mono x0 _ kv⟩
  intro u
  rw [lk_cons]
  split
  · rename_i e; subst e
    have := kf t
    rw [ht] at this
    simp only [VD] at this ⊢
    obtain ⟨c', e, e2⟩ := this
    rw [hc] at e; cases e
    exact ⟨c, 0, l', ro, .inr rfl, by rw [e2], e1, by have := VDp.of (us := []) (VDl.mono x0 _ k); simpa using this⟩
  · exact kf.mono x0 u
theorem sem_box {b : Nat} {cs : List D} {ro : Bool} (t : Nat) {c : KC} {K : List KD} {fr : FrD} (hb : H.blk b = .cells cs ro) (ht : lk fr t = .ptr b 0)
    (hs : Sem p ext Q (.code c K .mk ((t, .rptr cs 0) :: fr) (H.put b .gone))) : Sem p ext Q (.code c K .mk fr H) := sem_weak (Weak.box hb ht) hs
end Go.Dv
end

section
namespace Go.Dv
open Go.Vm
variable {p : Prog} {ext : Ext} {Q : ResD → Prop} {H0 H : HpD} {sz : Nat} {s : D} {el : List (List D)}
def FrLe (fr : FrD) : FrD → Prop
  | [] => True
  | (t, d) :: r => D.le (lk fr t) d ∧ FrLe fr r
theorem frLe_nil {fr : FrD} : FrLe fr [] = True := rfl
theorem frLe_cons {fr r : FrD} {t : Nat} {d : D} : FrLe fr ((t, d) :: r) = (D.le (lk fr t) d ∧ FrLe fr r) := rfl
theorem FrLe.lk {fr : FrD} : ∀ {fr' : FrD}, FrLe fr fr' → ∀ u, D.le (lk fr u) (lk fr' u)
  | [], _, u => by simp [Dv.lk, D.le]
  | (t, d) :: r, h, u => by
    rw [lk_cons]
    split
    · rename_i e; subst e; exact h.1
    · exact FrLe.lk h.2 u
theorem Weak.as {a : List D} {fr fr' : FrD} (h : FrLe fr fr') : Weak a fr H a fr' H :=
  fun _ ψ S _ _ _ s k kv => ⟨ψ, S, .refl, s, fun t => VD.le _ _ (h.lk t) (k t), kv⟩
theorem get1_0 {d : D} : [d][0]? = some d := rfl
theorem get2_0 {d e : D} : [d, e][0]? = some d := rfl
theorem get2_1 {d e : D} : [d, e][1]? = some e := rfl
attribute [simp] frLe_nil frLe_cons get1_0 get2_0 get2_1
theorem sem_as_ok (fr' : FrD) {fr : FrD} {K : List KD} (h : FrLe fr fr') (hs : Sem p ext Q (.res (.ok fr' H) K .mk)) : Sem p ext Q (.res (.ok fr H) K .mk) := sem_weak_ok (Weak.as h) hs
theorem splice_left {x : List D} : ∀ (a m : List D) (k : Nat), spliceD (a ++ m) (a.length + k) x = a ++ spliceD m k x
  | [], m, k => by simp
  | d :: a, m, k => by
    rw [List.cons_append, List.length_cons, show a.length + 1 + k = (a.length + k) + 1 from by omega, spliceD_succ, splice_left a m k]; rfl
theorem splice_whole {x : List D} (hx : x.length = sz) : ∀ {el : List (List D)} {i : Nat} {e : List D}, (∀ e, e ∈ el → e.length = sz) → el[i]? = some e → spliceD el.flatten (i * sz) x = (el.set i x).flatten
  | [], _, _, _, he => by simp at he
  | a :: l, 0, e, hs, he => by
    have ha := hs a (List.mem_cons_self ..)
    simp [spliceD_zero, hx, ← ha]
  | a :: l, i + 1, e, hs, he => by
    have ha := hs a (List.mem_cons_self ..)
    have ih := splice_whole hx (el := l) (i := i) (e := e) (fun y hy => hs y (List.mem_cons_of_mem _ hy)) (by simpa using he)
    simp only [List.flatten_cons, List.set_cons_succ]
    rw [show (i + 1) * sz = a.length + i * sz from by rw [ha, Nat.succ_mul]; omega, splice_left, ih]
theorem sem_exact {c : KC} {K : List KD} {fr : FrD} (g : Gr H0 H sz s el) (hs : ∀ H', GrX H0 H' sz s el → (∀ x, ¬ s.hasB x → H'.blk x = H.blk x) → H'.next = H.next → Sem p ext Q (.code c K .mk fr H')) : Sem p ext Q (.code c K .mk fr H) := by
  obtain ⟨H', w, g', k, n⟩ := g.exact
  exact sem_weak (w _ _) (hs H' g' k n)
theorem GrX.keep {H1 : HpD} (g : GrX H0 H sz s el) (hs : Sub H H1) (hk : ∀ x, s.hasB x → H1.blk x = H.blk x) : GrX H0 H1 sz s el := by
  refine ⟨g.gr.mono hs, ?_⟩
  rcases g.at_ with h | ⟨b, ex, rfl, h1, h2, h3⟩
  · exact .inl h
  · exact .inr ⟨b, ex, rfl, h1, by have := hs.next; omega, by rw [hk b rfl, h3]⟩
theorem GrX.whole {e x : List D} {i b : Nat} {ex : Bool} (g : GrX H0 H sz (.slice b 0 sz el.length el.length ex) el) (he : el[i]? = some e) (hx : x.length = sz) (h1 : H0.next ≤ b) (h2 : b < H.next) : GrX H0 (H.put b (.cells (spliceD el.flatten (i * sz) x) false)) sz (.slice b 0 sz el.length el.length ex) (el.set i x) := by
  rw [splice_whole hx g.gr.len he]
  refine ⟨⟨g.gr.sub.put h1, fun y hy => ?_, .inr ⟨b, ex, el.set i x, by simp, h1, h2, by simp, D.less_refl _⟩⟩, .inr ⟨b, ex, by simp, h1, h2, by simp⟩⟩
  rcases List.mem_or_eq_of_mem_set hy with hy | rfl
  · exact g.gr.len y hy
  · exact hx
theorem GrX.cell {e : List D} {x : D} {i j b : Nat} {ex : Bool} (g : GrX H0 H sz (.slice b 0 sz el.length el.length ex) el) (he : el[i]? = some e) (hj : j < sz) (h1 : H0.next ≤ b) (h2 : b < H.next) : GrX H0 (H.put b (.cells (spliceD el.flatten (i * sz + j) [x]) false)) sz (.slice b 0 sz el.length el.length ex) (el.set i (e.set j x)) := by
  rw [spliceD_flatten g.gr.len he hj]
  refine ⟨⟨g.gr.sub.put h1, fun y hy => ?_, .inr ⟨b, ex, el.set i (e.set j x), by simp, h1, h2, by simp, D.less_refl _⟩⟩, .inr ⟨b, ex, by simp, h1, h2, by simp⟩⟩
  rcases List.mem_or_eq_of_mem_set hy with hy | rfl
  · exact g.gr.len y hy
  · rw [List.length_set]; exact g.gr.len e (List.mem_of_getElem? he)
theorem SR.tellV {G : Nat → Option (Blk → Prop)} {ψ : Nat → Option Nat} {S : Nat → Prop} {h : Hp} {b : Nat} {cs cs' : List D} {ro : Bool} (s : SR G ψ S H h) (hb : H.blk b = .cells cs ro) (hl : ∀ l', VDl h ψ S cs l' → VDl h ψ S cs' l') : SR G ψ S (H.put b (.cells cs' ro)) h :=
  ⟨s.inj, s.dom, s.frz, fun b' hg => by
    rw [put_blk] at hg ⊢
    by_cases e : b' = b
    · subst e
      obtain ⟨c, h1, h2, h3⟩ := s.live b' (by rw [hb]; rfl)
      rw [hb] at h3
      obtain ⟨l', e1, k⟩ := h3
      refine ⟨c, h1, h2, ?_⟩
      rw [if_pos rfl]
      exact ⟨l', e1, hl l' k⟩
    · rw [if_neg e] at hg ⊢
      exact s.live b' hg, s.gl⟩
theorem Gr.incell (g : Gr H0 H sz s el) {b2 j : Nat} {cs : List D} {ro : Bool} (hb2 : H.blk b2 = .cells cs ro) (hj : cs[j]? = some s) (hne : ¬ s.hasB b2) :
    ∃ H', (∀ a fr, Weak a fr H a fr H') ∧ H'.blk b2 = .cells (cs.set j (.row sz .p el)) ro ∧ (∀ x, x ≠ b2 → ¬ s.hasB x → H'.blk x = H.blk x) ∧ H'.next = H.next ∧ ∀ H1, Sub H1 H → H1.next ≤ H0.next → H1.next ≤ b2 → Sub H1 H' := by
  rcases g.at_ with ⟨rfl, rfl⟩ | ⟨b, ex, el0, rfl, h1, h2, h3, h4⟩
  · refine ⟨H.put b2 (.cells (cs.set j (.row sz .p [])) ro), fun a fr => ?_, by simp, fun x hx _ => by rw [put_blk, if_neg hx], by simp, fun H1 hs _ h2 => hs.put h2⟩
    intro G ψ S h fv vs sr kf kv
    exact ⟨ψ, S, .refl, sr.tellV hb2 fun l' k => k.setD hj fun v hv => VD.le (.lit .nilslice) _ (by simp [D.le]) hv, kf, kv⟩
  · have hb : b2 ≠ b := fun e => hne (by simp only [D.hasB]; omega)
    refine ⟨(H.put b .gone).put b2 (.cells (cs.set j (.row sz .p el)) ro), fun a fr => ?_, by simp, fun x hx hx2 => ?_, by simp, fun H1 hs h0 h2 => (hs.put (by omega)).put h2⟩
    · intro G ψ S h fv vs sr kf kv
      have hel := less_length h4
      obtain ⟨c, hc, hr⟩ := frz_row sr h3 (less_sz h4 g.len)
      obtain ⟨x0, s0⟩ := sr.freeze hc
      refine ⟨ψ, _, x0, s0.tellV (cs := cs) (by rw [put_blk, if_neg hb]; exact hb2) fun l' k => k.setD hj fun v hv => ?_, kf.mono x0, VDl.mono x0 _ kv⟩
      simp only [VD] at hv
      obtain ⟨c', e, e2⟩ := hv
      rw [hc] at e; cases e
      rw [e2]
      rw [← hel]
      refine VD.le _ _ ?_ (hr _ _ (Nat.le_refl _))
      simp [D.le, h4]
    · rw [put_blk, if_neg hx, put_blk, if_neg]
      exact fun e => hx2 (by simp only [D.hasB]; omega)
theorem Gr.last {t : D} {H1 : HpD} {pre : List (List D)} (g : Gr H0 H 1 t (pre ++ [[s]])) (gs : Gr H1 H sz s el) (h01 : H0.next ≤ H1.next) (hne : ∀ x, t.hasB x → ¬ s.hasB x) :
    ∃ H', (∀ a fr, Weak a fr H a fr H') ∧ Gr H0 H' 1 t (pre ++ [[.row sz .p el]]) ∧ (∀ x, ¬ t.hasB x → ¬ s.hasB x → H'.blk x = H.blk x) ∧ H'.next = H.next := by
  obtain ⟨H2, w, g2, k2, n2⟩ := g.exact
  rcases g2.at_ with ⟨_, he⟩ | ⟨b, ex, rfl, h1, h2, h3⟩
  · simp at he
  · have hpre : pre.flatten.length = pre.length := by
      rw [flatten_len (sz := 1) fun e he => g.len e (List.mem_append_left _ he)]; omega
    have hsb : ¬ s.hasB b := hne b (by simp [D.hasB])
    have gs2 : Gr H2 H2 sz s el ∨ ∃ b' ex' el0, s = .slice b' 0 sz el.length el.length ex' ∧ H1.next ≤ b' ∧ b' < H2.next ∧ H2.blk b' = .cells el0.flatten false ∧ D.less el0 el := by
      rcases gs.at_ with ⟨h, h'⟩ | ⟨b', ex', el0, rfl, h1', h2', h3', h4'⟩
      · exact .inl ⟨.refl, gs.len, .inl ⟨h, h'⟩⟩
      · refine .inr ⟨b', ex', el0, rfl, h1', by omega, ?_, h4'⟩
        have hb : ¬ b' = b := fun e => hsb (by simp only [D.hasB]; omega)
        rw [k2 b' (by simp only [D.hasB]; exact hb)]; exact h3'
    have gs3 : ∃ H3, Gr H3 H2 sz s el ∧ H3.next = min H1.next H2.next ∧ ∀ x, H3.blk x = H2.blk x := by
      rcases gs2 with g | ⟨b', ex', el0, rfl, h1', h2', h3', h4'⟩
      · rcases g.at_ with h | ⟨b', ex', el0, rfl, h1', h2', _, _⟩
        · exact ⟨⟨min H1.next H2.next, H2.blk⟩, ⟨⟨by simp; omega, fun _ _ => rfl⟩, g.len, .inl h⟩, rfl, fun _ => rfl⟩
        · omega
      · exact ⟨⟨min H1.next H2.next, H2.blk⟩, ⟨⟨by simp; omega, fun _ _ => rfl⟩, gs.len, .inr ⟨b', ex', el0, rfl, by simp; omega, h2', h3', h4'⟩⟩, rfl, fun _ => rfl⟩
    obtain ⟨H3, g3, n3, _⟩ := gs3
    have hcell : (pre ++ [[s]]).flatten[pre.length]? = some s := by
      rw [List.flatten_append, List.getElem?_append_right (by omega), hpre]; simp
    have hset : (pre ++ [[s]]).flatten.set pre.length (D.row sz .p el) = (pre ++ [[D.row sz .p el]]).flatten := by
      rw [List.flatten_append, List.flatten_append, List.set_append, if_neg (by omega), hpre]; simp
    obtain ⟨H4, w4, c4, k4, n4, sub4⟩ := g3.incell h3 hcell hsb
    rw [hset] at c4
    have hn0 := g.sub.next
    have h3n : H0.next ≤ H3.next := by rw [n3]; omega
    refine ⟨H4, fun a fr => (w a fr).trans (w4 a fr), ⟨sub4 H0 g2.gr.sub h3n h1, fun e he => ?_, .inr ⟨b, ex, pre ++ [[.row sz .p el]], by simp, h1, by omega, c4, D.less_refl _⟩⟩, fun x hx hx2 => ?_, by omega⟩
    · rcases List.mem_append.1 he with he | he
      · exact g.len e (List.mem_append_left _ he)
      · simp at he; subst he; rfl
    · rw [k4 x (fun e => hx (by simp only [D.hasB]; omega)) hx2, k2 x hx]
theorem Gr.far (g : Gr H0 H sz s el) {x : Nat} (h : s.hasB x) : H0.next ≤ x ∧ x < H.next := by
  rcases g.at_ with ⟨rfl, _⟩ | ⟨b, ex, el0, rfl, h1, h2, _⟩
  · simp [D.hasB] at h
  · simp only [D.hasB] at h; subst h; exact ⟨h1, h2⟩
theorem Gr.rest {H3 : HpD} (g : Gr H0 H sz s el) (hn : H.next ≤ H3.next) (hk : ∀ x, s.hasB x → H3.blk x = H.blk x) : Gr ⟨H0.next, H3.blk⟩ H3 sz s el := by
  refine ⟨⟨Nat.le_trans g.sub.next hn, fun _ _ => rfl⟩, g.len, ?_⟩
  rcases g.at_ with h | ⟨b, ex, el0, rfl, h1, h2, h3, h4⟩
  · exact .inl h
  · exact .inr ⟨b, ex, el0, rfl, h1, by omega, by rw [hk b (by simp only [D.hasB])]; exact h3, h4⟩
theorem Gr.base {H1 : HpD} (g : Gr H1 H sz s el) (h : Sub H0 H1) : Gr H0 H sz s el := by
  refine ⟨h.trans g.sub, g.len, ?_⟩
  rcases g.at_ with h2 | ⟨b, ex, el0, rfl, h1, h2, h3, h4⟩
  · exact .inl h2
  · exact .inr ⟨b, ex, el0, rfl, Nat.le_trans h.next h1, h2, h3, h4⟩
theorem WeakV.part1 {b o n cap : Nat} {ex ro : Bool} {cs : List D} (hb : H.blk b = .cells cs ro) (he : ∀ e, e ∈ el → e.length = sz) (hl : el.length = n) (hc : (cs.drop o).take (n * sz) = el.flatten) (hn : n ≤ cap) :
    WeakV (.slice b o sz n cap ex) H (.row sz .p el) (H.put b .gone) := by
  intro G ψ S h v sr kv
  obtain ⟨c, h1, h2, l', h3, h4⟩ : ∃ c, ψ b = some c ∧ ¬ S c ∧ ∃ l', h.blk c = .cells l' ro ∧ VDl h ψ S cs l' := by
    obtain ⟨c, h1, h2, h3⟩ := sr.live b (by rw [hb]; rfl)
    rw [hb] at h3
    exact ⟨c, h1, h2, h3⟩
  obtain ⟨x0, s0⟩ := sr.freeze h1
  refine ⟨ψ, _, x0, s0, ?_⟩
  simp only [VD] at kv ⊢
  obtain ⟨c', e, rfl⟩ := kv
  rw [h1] at e; cases e
  refine .inr ⟨c, o, cap, ex, by rw [hl], by rw [hl]; exact hn, fun e => (by cases e), .inr ⟨l', ro, .inr rfl, h3, ?_⟩⟩
  have k1 := VDl.take (n * sz) (VDl.drop o h4)
  rw [hc] at k1
  have := VDss.of (us := (l'.drop o).drop (n * sz)) he (VDl.mono x0 _ k1)
  rwa [List.take_append_drop] at this
structure Part (H0 H : HpD) (sz : Nat) (s : D) (el : List (List D)) : Prop where
  sub : Sub H0 H
  len : ∀ e, e ∈ el → e.length = sz
  at_ : (s = .lit .nilslice ∧ el = []) ∨ ∃ b o cap ex cs, s = .slice b o sz el.length cap ex ∧ el.length ≤ cap ∧ H0.next ≤ b ∧ b < H.next ∧ H.blk b = .cells cs false ∧ (cs.drop o).take (el.length * sz) = el.flatten
theorem Part.fin {H0 H : HpD} {s : D} (g : Part H0 H sz s el) : ∃ H2, WeakV s H (.row sz .p el) H2 ∧ Sub H0 H2 := by
  rcases g.at_ with ⟨rfl, rfl⟩ | ⟨b, o, cap, ex, cs, rfl, h0, h1, h2, h3, h4⟩
  · exact ⟨H, .le (by simp [D.le]), g.sub⟩
  · exact ⟨_, WeakV.part1 h3 g.len rfl h4 h0, g.sub.put h1⟩
end Go.Dv
end

section
set_option maxRecDepth 10000
namespace Go.Lib
open Go.Vm Go.Dv
variable {p : Prog} {ext : Ext} {F : Nat → Nat}
attribute [-simp] bin_and
def hexD : List Nat := [48,49,50,51,52,53,54,55,56,57,97,98,99,100,101,102]
def hexN (b : By) : List Nat := [hexD.getD (b.val / 16) 0, hexD.getD (b.val % 16) 0]
def valN (v : Vl) : List Nat := if v.null = true then [110,117,108,108] else if v.kind = 1 then itoaN v.n else 120 :: (v.bytes.map hexN).flatten
structure HVal (p : Prog) (ext : Ext) (F : Nat → Nat) (g : SG) : Prop where
  h213 : Has p ext F 213 M213
  x209 : ∀ args h, ext (F 209) args h = strV g .fmt args h
  pow : PowGl p g
def hexE (l : List Nat) : List (List D) := l.map fun c => [.lit (.int .u8 ((c : Nat) : Int))]
theorem hexE_append {a b : List Nat} : hexE (a ++ b) = hexE a ++ hexE b := by simp [hexE]
theorem hexE_len {a : List Nat} : (hexE a).length = a.length := by simp [hexE]
def hexHi (c : Nat) : V := .int .u8 ((hexD.getD (c / 16) 0 : Nat) : Int)
def hexLo (c : Nat) : V := .int .u8 ((hexD.getD (c % 16) 0 : Nat) : Int)
def asU8 : Option V → Int
  | some (.int .u8 n) => n
  | _ => -1
theorem asU8_of {o : Option V} {n : Nat} (h : asU8 o = (n : Int)) : o = some (.int .u8 (n : Int)) := by
  unfold asU8 at h
  split at h
  · rw [h]
  · omega
theorem hex_hi_all : ∀ b : By, asU8 (idxsV (.str [48,49,50,51,52,53,54,55,56,57,97,98,99,100,101,102]) (.int .u8 (shrI .u8 ((b.val : Nat) : Int) 4))) = ((hexD.getD (b.val / 16) 0 : Nat) : Int) := by decide +kernel
theorem hex_lo_all : ∀ b : By, asU8 (idxsV (.str [48,49,50,51,52,53,54,55,56,57,97,98,99,100,101,102]) (.int .u8 ((b.val % 16 : Nat) : Int))) = ((hexD.getD (b.val % 16) 0 : Nat) : Int) := by decide +kernel
theorem hex_and_all : ∀ b : By, wr .u8 (toU .u8 ((b.val : Nat) : Int) &&& toU .u8 15 : Nat) = ((b.val % 16 : Nat) : Int) := by decide +kernel
theorem hex_hi {b : By} : idxsV (.str [48,49,50,51,52,53,54,55,56,57,97,98,99,100,101,102]) (.int .u8 (shrI .u8 ((b.val : Nat) : Int) 4)) = some (hexHi b.val) := asU8_of (hex_hi_all b)
theorem hex_lo {b : By} : idxsV (.str [48,49,50,51,52,53,54,55,56,57,97,98,99,100,101,102]) (.int .u8 ((b.val : Int) % 16)) = some (hexLo b.val) := by
  rw [show ((b.val : Int) % 16) = ((b.val % 16 : Nat) : Int) by omega]; exact asU8_of (hex_lo_all b)
theorem hex_and {tab : Tab} {b : By} : binV tab .and (.int .u8 ((b.val : Nat) : Int)) (.int .u8 15) = some (.int .u8 ((b.val : Int) % 16)) := by
  rw [show ((b.val : Int) % 16) = ((b.val % 16 : Nat) : Int) by omega, ← hex_and_all b]; simp [binV]; rfl
theorem toVs_hex : ∀ l : List Nat, toVs (hexE l).flatten = some (l.map fun c => V.int .u8 ((c : Nat) : Int))
  | [] => rfl
  | s :: l => by
    have := toVs_hex l
    simp only [hexE] at this
    simp [hexE, toVs, toV, this]
theorem bytesOf_map : ∀ l : List Nat, (∀ c, c ∈ l → c < 256) → eV.bytesOf (l.map fun c => V.int .u8 ((c : Nat) : Int)) = some l
  | [], _ => rfl
  | c :: l, h => by
    have h1 := bytesOf_map l (fun x hx => h x (List.mem_cons_of_mem _ hx))
    have h2 : Nat.blt c 256 = true := by have := h c List.mem_cons_self; simp [Nat.blt]; omega
    show eV.bytesOf (V.int .u8 (.ofNat c) :: _) = _
    unfold eV.bytesOf
    rw [h2, h1]; rfl
theorem text_hex {H0 H : HpD} {s : D} {l : List Nat} (g : GrX H0 H 1 s (hexE l)) (hl : ∀ c, c ∈ l → c < 256) : textD H s = some (.lit (.str l), H) := by
  rcases g.at_ with ⟨rfl, h⟩ | ⟨b, ex, rfl, h1, h2, h3⟩
  · have : l = [] := by simpa [hexE] using h
    subst this; rfl
  · have hr : readD H b 0 (hexE l).length = some (hexE l).flatten := by
      have : (hexE l).flatten.length = (hexE l).length := by
        rw [flatten_len (sz := 1) (by simp [hexE]), Nat.mul_one]
      rw [readD_eq, h3]
      simp only [Nat.zero_add, this, Nat.le_refl, if_true, List.drop_zero]
      rw [List.take_of_length_le (Nat.le_of_eq this)]
    simp only [textD, hr, strD, toVs_hex, bytesOf_map l hl]
    rfl
theorem hexN_small {b : By} : ∀ c, c ∈ hexN b → c < 256 := by
  have : ∀ b : By, ∀ c, c ∈ hexN b → c < 256 := by decide +kernel
  exact this b
theorem appendD_two {H : HpD} {s x y : D} {by_ b : Nat} {ex : Bool} (hb : H.blk b = .cells [x, y] false) : appendD 1 by_ H s (.slice b 0 1 2 2 ex) = appendD 1 by_ H s (.row 1 .p [[x], [y]]) := by
  simp only [appendD, lenD, List.length_cons, List.length_nil]
  have h1 : srcD H 1 (0 + 1 + 1) (.slice b 0 1 2 2 ex) = some [x, y] := by
    simp only [srcD]
    rw [readD_eq, hb]
    simp
  have h2 : srcD H 1 (0 + 1 + 1) (.row 1 .p [[x], [y]]) = some [x, y] := by
    simp only [srcD]
    simp
  rw [h1, h2]
theorem hexs_len : ∀ {l : List By}, ((l.map hexN).flatten).length = 2 * l.length
  | [] => rfl
  | b :: l => by
    have := hexs_len (l := l)
    simp only [List.map_cons, List.flatten_cons, List.length_append, this, List.length_cons]
    have : (hexN b).length = 2 := rfl
    omega
theorem hexs_small {l : List By} : ∀ c, c ∈ 120 :: (l.map hexN).flatten → c < 256 := by
  intro c hc
  rcases List.mem_cons.1 hc with rfl | hc
  · decide
  · obtain ⟨x, hx, hc⟩ := List.mem_flatten.1 hc
    obtain ⟨b, _, rfl⟩ := List.mem_map.1 hx
    exact hexN_small _ hc
def ValI (H0 : HpD) (v : Vl) (k : Nat) (fr : FrD) (H : HpD) : Prop :=
  ∃ (i : Nat) (s : D), k = v.bytes.length - i ∧ i ≤ v.bytes.length ∧ fr = [(3, s), (18, byD v.bytes), (19, .lit (.int .i64 (v.bytes.length : Int))), (20, .lit (.int .i64 (i : Int)))] ∧ Gr H0 H 1 s (hexE (120 :: ((v.bytes.take i).map hexN).flatten))
theorem text_val {g : SG} (L : HVal p ext F g) {v : Vl} (hn : wr .i64 v.n = v.n) : FnD p ext (F 213) [.agg v.c] (.lit (.str (valN v))) := by
  refine fn_of L.h213 (M := M213) rfl ok213 rfl fun H => sem_run 9000 _ ?_
  simp [Vl.c]
  by_cases h1 : v.null = true
  · simp [h1]
    refine sem_ret ?_
    simp [M213]
    rw [show valN v = [110, 117, 108, 108] by simp [valN, h1]]
    exact .same (by simp)
  · simp [h1]
    by_cases h2 : v.kind = 1
    · simp [h2]
      refine sem_fn (fmt_ext L.x209 L.pow hn) (by first | exact D.les_refl _ | simp) (sem_run 9000 _ ?_)
      simp
      refine sem_ret ?_
      simp [M213]
      rw [show valN v = itoaN v.n by simp [valN, h1, h2]]
      exact .same (by simp)
    · simp [h2]
      refine sem_loop (ValI H v) ?_ (k := v.bytes.length) ⟨0, _, by simp, by simp, rfl, ?_⟩
      · rintro k fr H' ⟨i, s, rfl, hi, rfl, gr⟩
        refine sem_exact gr fun H1 g1 _ _ => ?_
        refine sem_run 9000 _ ?_
        simp
        by_cases c : i < v.bytes.length
        · have hx : v.bytes[i]? = some v.bytes[i] := by simp
          simp [c, hex_and, hex_hi, hex_lo, hexHi, hexLo]
          rw [appendD_two (x := .lit (.int .u8 ((hexD.getD (v.bytes[i].val / 16) 0 : Nat) : Int))) (y := .lit (.int .u8 ((hexD.getD (v.bytes[i].val % 16) 0 : Nat) : Int))) (by simp)]
          have hsm := v.small
          have hle : (hexE (120 :: ((v.bytes.take i).map hexN).flatten)).length = 2 * i + 1 := by
            rw [hexE_len, List.length_cons, hexs_len, List.length_take]; omega
          refine sem_app (g1.gr.mono (Sub.refl.new)) (by simp) (by simp) (roomyD (by rw [hle]; simp; omega) (by rw [hle]; simp; omega)) fun s1 H2 g2 k1 n1 => ?_
          simp
          refine sem_ok ?_
          have hw : wr .i64 ((i : Int) + 1) = ((i + 1 : Nat) : Int) := by rw [wr_of] <;> omega
          refine ⟨_, by omega, i + 1, s1, rfl, by omega, by rw [hw], ?_⟩
          have e : hexE (120 :: ((v.bytes.take (i + 1)).map hexN).flatten) = hexE (120 :: ((v.bytes.take i).map hexN).flatten) ++ [[.lit (.int .u8 ((hexD.getD (v.bytes[i].val / 16) 0 : Nat) : Int))], [.lit (.int .u8 ((hexD.getD (v.bytes[i].val % 16) 0 : Nat) : Int))]] := by
            rw [List.take_succ_eq_append_getElem c, List.map_append, List.flatten_append, ← List.cons_append, hexE_append]; rfl
          rw [e]; exact g2
        · simp [c]
          refine sem_exit (sem_run 9000 _ ?_)
          have : i = v.bytes.length := by omega
          subst this
          rw [List.take_length] at g1
          simp [text_hex g1 hexs_small]
          refine sem_ret ?_
          simp [M213]
          rw [show valN v = 120 :: (v.bytes.map hexN).flatten by simp [valN, h1, h2]]
          exact .le g1.gr.sub (D.le_refl _) (by simp)
      · exact Gr.lit Sub.refl (by simp [hexE]) (by simp [hexE]) (by simp [hexE])
end Go.Lib
end

section
namespace Go.Lib
open Go.Vm Go.Dv
set_option maxRecDepth 100000
abbrev K65 (F : Nat → Nat) : KC := .seq (.region [⟨(some 2),(.a (.box (.tmp 0))),none⟩,mi 4 0] [2] [1,2])
 (.seq (.seq (.region [fa 6 0 2,l1 7 6] [] [1,2,7])
 (.block 0 (.seq (.region [bi 9 .eql 7 1,mv 8 9] [] [1,2,7,8])
 (.cond (.tmp 8) (.seq (.region [mi 4 1] [] [4])
 (.ret))
 (.seq (.region [bi 11 .eql 7 2,mv 10 11] [] [1,2,7,10])
 (.cond (.tmp 10) (.seq (.region [mv 12 1,fa 13 1 2,l1 14 13,⟨(some 15),(.e (.call (F 3) [(.tmp 12),(.tmp 14)])),none⟩,⟨(some 5),(.a (.new [.bool false,.int .i64 (.ofNat 0),.int .i64 (.ofNat 0),.nilslice])),none⟩,⟨none,(.e (.store 4 (.tmp 5) (.tmp 15))),none⟩] [] [2,5])
 (.seq (.seq (.region [fa 16 0 5,l1 17 16] [] [2,5,17])
 (.cond (.tmp 17) (.seq (.region [mi 4 3] [] [4])
 (.ret))
 (.skip)))
 (.seq (.dregion [⟨ln 20 4 5,0,3⟩,⟨fa 21 3 2,0,3⟩,⟨ln 22 4 21,0,3⟩,⟨⟨(some 23),(.e (.call (F 1) [(.tmp 20),(.tmp 22)])),none⟩,0,6⟩,⟨fa 18 2 2,0,6⟩,⟨l1 19 18,0,6⟩,⟨⟨(some 24),(.e (.call (F 66) [(.tmp 19),(.tmp 23)])),none⟩,4,7⟩,⟨⟨(some 25),(.e (.call (F 67) [(.tmp 24)])),none⟩,7,9⟩,⟨mv 4 25,8,9⟩] [4])
 (.ret))))
 (.seq (.region [bi 27 .eql 7 3,mv 26 27] [] [1,2,7,26])
 (.cond (.tmp 26) (.seq (.region [mv 28 1,fa 29 1 2,l1 30 29,⟨(some 31),(.e (.call (F 3) [(.tmp 28),(.tmp 30)])),none⟩,⟨(some 32),(.p (.field1 0 (.tmp 31))),none⟩,⟨(some 33),(.e (.call (F 67) [(.tmp 32)])),none⟩,mv 4 33] [] [4])
 (.ret))
 (.seq (.region [bi 35 .eql 7 4,mv 34 35] [] [1,2,7,34])
 (.cond (.tmp 34) (.seq (.region [ln 36 8 2,mv 37 1,⟨(some 38),(.e (.call (F 68) [(.tmp 36),(.tmp 37),(.val (.int .i64 (.ofNat 2))),(.val (.int .i64 (.ofNat 1)))])),none⟩,mv 4 38] [] [4])
 (.ret))
 (.seq (.region [bi 40 .eql 7 5,mv 39 40] [] [1,2,7,39])
 (.cond (.tmp 39) (.seq (.region [ln 41 8 2,mv 42 1,⟨(some 43),(.e (.call (F 68) [(.tmp 41),(.tmp 42),(.val (.int .i64 (.ofNat 1))),(.val (.int .i64 (.ofNat 2)))])),none⟩,mv 4 43] [] [4])
 (.ret))
 (.seq (.region [bi 45 .eql 7 6,mv 44 45] [] [1,2,44])
 (.cond (.tmp 44) (.seq (.region [fa 46 7 2,l1 47 46,lb 48 47,bi 49 .gtr 48 0] [] [1,2,49])
 (.cond (.tmp 49) (.seq (.region [fa 50 7 2,l1 51 50,⟨(some 52),(.p (.iaddr 8 (.tmp 51) (.val (.int .i64 (.ofNat 0))))),none⟩,ln 53 8 52,mv 54 1,⟨(some 55),(.e (.call (F 65) [(.tmp 53),(.tmp 54)])),none⟩,⟨(some 56),(.e (.call (F 69) [(.tmp 55)])),none⟩,mv 4 56] [] [4])
 (.ret))
 (.skip)))
 (.skip)))))))))))))))
 (.seq (.region [mi 4 3] [] [4])
 (.ret)))
def M65 (F : Nat → Nat) : Fun := ⟨57,2,(K65 F).erase,[.tmp 4]⟩
abbrev K66 (_F : Nat → Nat) : KC := .seq (.region [⟨(some 4),(.p (.mov (.val (.bool false)))),none⟩] [] [0,1])
 (.seq (.seq (.region [mv 5 0] [] [1,5])
 (.block 0 (.seq (.region [bi 7 .eql 5 1,mv 6 7] [] [1,5,6])
 (.cond (.tmp 6) (.seq (.region [mv 8 1,bi 9 .eql 8 0,mv 4 9] [] [4])
 (.ret))
 (.seq (.region [bi 11 .eql 5 2,mv 10 11] [] [1,5,10])
 (.cond (.tmp 10) (.seq (.region [mv 12 1,bi 13 .neq 12 0,mv 4 13] [] [4])
 (.ret))
 (.seq (.region [bi 15 .eql 5 3,mv 14 15] [] [1,5,14])
 (.cond (.tmp 14) (.seq (.region [mv 16 1,bi 17 .lss 16 0,mv 4 17] [] [4])
 (.ret))
 (.seq (.region [bi 19 .eql 5 4,mv 18 19] [] [1,5,18])
 (.cond (.tmp 18) (.seq (.region [mv 20 1,bi 21 .leq 20 0,mv 4 21] [] [4])
 (.ret))
 (.seq (.region [bi 23 .eql 5 5,mv 22 23] [] [1,5,22])
 (.cond (.tmp 22) (.seq (.region [mv 24 1,bi 25 .gtr 24 0,mv 4 25] [] [4])
 (.ret))
 (.seq (.region [bi 27 .eql 5 6,mv 26 27] [] [1,26])
 (.cond (.tmp 26) (.seq (.region [mv 28 1,bi 29 .geq 28 0,mv 4 29] [] [4])
 (.ret))
 (.skip)))))))))))))))
 (.seq (.region [⟨(some 4),(.p (.mov (.val (.bool false)))),none⟩] [] [4])
 (.ret)))
def M66 (F : Nat → Nat) : Fun := ⟨30,2,(K66 F).erase,[.tmp 4]⟩
abbrev K67 (_F : Nat → Nat) : KC := .seq (.region [mi 2 0] [] [0])
 (.seq (.seq (.region [mv 3 0] [] [3])
 (.cond (.tmp 3) (.seq (.region [mi 2 1] [] [2])
 (.ret))
 (.skip)))
 (.seq (.region [mi 2 2] [] [2])
 (.ret)))
def M67 (F : Nat → Nat) : Fun := ⟨4,1,(K67 F).erase,[.tmp 2]⟩
abbrev K68 (F : Nat → Nat) : KC := .seq (.region [⟨(some 4),(.a (.box (.tmp 0))),none⟩,mi 8 0] [4] [1,2,3,4])
 (.seq (.region [mv 13 3,mv 9 13] [] [1,2,4,9])
 (.seq (.seq (.region [fa 14 7 4,l1 15 14,lb 16 15,mi 17 0] [] [1,2,9,15,16,17])
 (.block 0 (.loop (.seq (.region [bt 18 .lss 17 16] [] [1,2,9,15,16,17,18])
 (.seq (.cond (.tmp 18) (.skip)
 (.exit 0))
 (.seq (.block 1 (.seq (.region [ix 19 8 15 17,ln 20 8 19,⟨(some 11),(.a (.new [.int .i64 (.ofNat 0),.int .i64 (.ofNat 0),.int .i64 (.ofNat 0),.bool false,.int .i64 (.ofNat 0),.int .i64 (.ofNat 0),.nilslice,.nilslice])),none⟩,⟨none,(.e (.store 8 (.tmp 11) (.tmp 20))),none⟩] [] [1,2,9,11,15,16,17])
 (.seq (.region [ln 21 8 11,mv 22 1,⟨(some 23),(.e (.call (F 65) [(.tmp 21),(.tmp 22)])),none⟩,mv 12 23] [] [1,2,9,12,15,16,17])
 (.seq (.region [mv 24 12] [] [1,2,9,15,16,17,24])
 (.block 2 (.seq (.region [mv 26 2,bt 27 .eql 24 26,mv 25 27] [] [1,2,9,15,16,17,24,25])
 (.cond (.tmp 25) (.seq (.region [mv 28 2,mv 8 28] [] [8])
 (.ret))
 (.seq (.region [bi 30 .eql 24 3,mv 29 30] [] [1,2,9,15,16,17,29])
 (.cond (.tmp 29) (.region [mi 9 3] [] [1,2,9,15,16,17])
 (.skip))))))))))
 (.region [bi 31 .add 17 1,mv 17 31] [] [1,2,9,15,16,17])))))))
 (.seq (.region [mv 32 9,mv 8 32] [] [8])
 (.ret))))
def M68 (F : Nat → Nat) : Fun := ⟨33,4,(K68 F).erase,[.tmp 8]⟩
abbrev K69 (_F : Nat → Nat) : KC := .seq (.region [mi 2 0] [] [0])
 (.seq (.seq (.region [mv 3 0] [] [3])
 (.block 0 (.seq (.region [bi 5 .eql 3 1,mv 4 5] [] [3,4])
 (.cond (.tmp 4) (.seq (.region [mi 2 2] [] [2])
 (.ret))
 (.seq (.region [bi 7 .eql 3 2,mv 6 7] [] [6])
 (.cond (.tmp 6) (.seq (.region [mi 2 1] [] [2])
 (.ret))
 (.skip)))))))
 (.seq (.region [mi 2 3] [] [2])
 (.ret)))
def M69 (F : Nat → Nat) : Fun := ⟨8,1,(K69 F).erase,[.tmp 2]⟩
end Go.Lib
end

section
namespace Go.Lib
open Go.Vm Go.Dv
set_option maxRecDepth 100000
end Go.Lib
end

section
namespace Go.Lib
open Go.Vm Go.Dv
set_option maxRecDepth 100000
abbrev K53 (F : Nat → Nat) : KC := .seq (.region [⟨(some 2),(.p (.mov (.val (.nilslice)))),none⟩] [] [0])
 (.seq (.region [⟨(some 3),(.p (.mov (.val (.nilslice)))),none⟩] [] [0,3])
 (.seq (.seq (.region [mi 4 0] [] [0,3,4])
 (.block 0 (.loop (.seq (.seq (.region [mv 6 4,mv 7 0,lb 8 7,bt 9 .lss 6 8] [] [0,3,4,9])
 (.cond (.tmp 9) (.skip)
 (.exit 0)))
 (.seq (.block 1 (.seq (.region [mv 12 3,lb 13 12,mv 5 13] [] [0,3,4,5])
 (.seq (.block 2 (.loop (.seq (.seq (.dregion [⟨mv 14 5,0,12⟩,⟨bi 15 .gtr 14 0,0,12⟩,⟨mv 16 15,0,12⟩,⟨⟨(some 17),(.p (.mov (.tmp 3))),(some (16,true))⟩,0,12⟩,⟨⟨(some 18),(.p (.mov (.tmp 5))),(some (16,true))⟩,0,12⟩,⟨⟨(some 19),(.p (.bin .sub (.tmp 18) (.val (.int .i64 (.ofNat 1))))),(some (16,true))⟩,0,12⟩,⟨⟨(some 20),(.p (.iaddr 1 (.tmp 17) (.tmp 19))),(some (16,true))⟩,0,12⟩,⟨⟨(some 21),(.load1 (.tmp 20)),(some (16,true))⟩,0,12⟩,⟨⟨(some 22),(.p (.mov (.tmp 0))),(some (16,true))⟩,0,12⟩,⟨⟨(some 23),(.p (.mov (.tmp 4))),(some (16,true))⟩,0,12⟩,⟨⟨(some 24),(.p (.iaddr 1 (.tmp 22) (.tmp 23))),(some (16,true))⟩,0,12⟩,⟨⟨(some 25),(.load1 (.tmp 24)),(some (16,true))⟩,0,12⟩,⟨⟨(some 26),(.e (.call (F 47) [(.tmp 21),(.tmp 25)])),(some (16,true))⟩,0,15⟩,⟨⟨(some 27),(.p (.bin .gtr (.tmp 26) (.val (.int .i64 (.ofNat 0))))),(some (16,true))⟩,13,15⟩,⟨⟨(some 28),(.p (.pick (.tmp 16) (.tmp 27) (.val (.bool false)))),none⟩,13,15⟩] [0,3,4,5,28])
 (.cond (.tmp 28) (.skip)
 (.exit 2)))
 (.block 3 (.region [mv 29 5,bi 30 .sub 29 1,mv 5 30] [] [0,3,4,5])))))
 (.dregion [⟨⟨(some 31),(.a (.bslice [] 1 0 [])),none⟩,0,4⟩,⟨mv 32 3,0,4⟩,⟨mv 33 5,0,4⟩,⟨⟨(some 34),(.p (.slc 1 (.tmp 32) none (some (.tmp 33)) none)),none⟩,0,4⟩,⟨⟨(some 35),(.e (.append 1 24 (.tmp 31) (.tmp 34))),none⟩,0,10⟩,⟨mv 36 0,0,10⟩,⟨mv 37 4,0,10⟩,⟨ix 38 1 36 37,0,10⟩,⟨l1 39 38,0,10⟩,⟨⟨(some 40),(.a (.bslice [.nilslice] 1 1 [(0,1,(.tmp 39))])),none⟩,0,10⟩,⟨⟨(some 41),(.e (.append 1 24 (.tmp 35) (.tmp 40))),none⟩,5,14⟩,⟨mv 42 3,0,14⟩,⟨mv 43 5,0,14⟩,⟨⟨(some 44),(.p (.slc 1 (.tmp 42) (some (.tmp 43)) none none)),none⟩,0,14⟩,⟨⟨(some 45),(.e (.append 1 24 (.tmp 41) (.tmp 44))),none⟩,11,16⟩,⟨mv 3 45,15,16⟩] [0,3,4]))))
 (.region [mv 10 4,bi 11 .add 10 1,mv 4 11] [] [0,3,4]))))))
 (.seq (.region [mv 46 3,mv 2 46] [] [2])
 (.ret))))
def M53 (F : Nat → Nat) : Fun := ⟨47,1,(K53 F).erase,[.tmp 2]⟩
abbrev K54 (F : Nat → Nat) : KC := .seq (.region [⟨(some 4),(.p (.mov (.val (.nilslice)))),none⟩] [] [0,1])
 (.seq (.region [⟨(some 5),(.p (.mov (.val (.nilslice)))),none⟩] [] [0,1,5])
 (.seq (.seq (.region [mi 6 0] [] [0,1,5,6])
 (.block 0 (.loop (.seq (.seq (.region [mv 9 6,mv 10 0,lb 11 10,bt 12 .lss 9 11] [] [0,1,5,6,12])
 (.cond (.tmp 12) (.skip)
 (.exit 0)))
 (.seq (.block 1 (.seq (.region [⟨(some 7),(.p (.mov (.val (.nilslice)))),none⟩] [] [0,1,5,6,7])
 (.seq (.seq (.region [mi 8 0] [] [0,1,5,6,7,8])
 (.block 2 (.loop (.seq (.seq (.region [mv 15 8,mv 16 1,lb 17 16,bt 18 .lss 15 17] [] [0,1,5,6,7,8,18])
 (.cond (.tmp 18) (.skip)
 (.exit 2)))
 (.seq (.block 3 (.dregion [⟨mv 21 7,0,12⟩,⟨mv 22 0,0,12⟩,⟨mv 23 6,0,12⟩,⟨ix 24 1 22 23,0,12⟩,⟨l1 25 24,0,12⟩,⟨mv 26 1,0,12⟩,⟨mv 27 8,0,12⟩,⟨ix 28 1 26 27,0,12⟩,⟨l1 29 28,0,12⟩,⟨ix 30 4 25 29,0,12⟩,⟨ln 31 4 30,0,12⟩,⟨⟨(some 32),(.a (.bslice [.bool false,.int .i64 (.ofNat 0),.int .i64 (.ofNat 0),.nilslice] 4 1 [(0,4,(.tmp 31))])),none⟩,0,12⟩,⟨⟨(some 33),(.e (.append 4 48 (.tmp 21) (.tmp 32))),none⟩,0,14⟩,⟨mv 7 33,13,14⟩] [0,1,5,6,7,8]))
 (.region [mv 19 8,bi 20 .add 19 1,mv 8 20] [] [0,1,5,6,7,8]))))))
 (.region [mv 34 5,mv 35 7,⟨(some 36),(.a (.bslice [.nilslice] 1 1 [(0,1,(.tmp 35))])),none⟩,⟨(some 37),(.e (.append 1 24 (.tmp 34) (.tmp 36))),none⟩,mv 5 37] [36] [0,1,5,6]))))
 (.region [mv 13 6,bi 14 .add 13 1,mv 6 14] [] [0,1,5,6]))))))
 (.seq (.region [mv 38 5,⟨(some 39),(.e (.call (F 53) [(.tmp 38)])),none⟩,mv 4 39] [] [4])
 (.ret))))
def M54 (F : Nat → Nat) : Fun := ⟨40,2,(K54 F).erase,[.tmp 4]⟩
abbrev K55 (F : Nat → Nat) : KC := .seq (.region [⟨(some 6),(.p (.mov (.val (.nilslice)))),none⟩,⟨(some 7),(.p (.mov (.val (.bool false)))),none⟩] [] [0,1,2])
 (.seq (.seq (.region [mv 16 1,bi 17 .lss 16 0] [] [0,1,2,17])
 (.cond (.tmp 17) (.seq (.region [mv 19 0,mv 20 2,⟨(some 21),(.e (.call (F 57) [(.tmp 19),(.tmp 20)])),none⟩,mv 18 21,et 22 18 0,et 23 18 1,mv 8 22,mv 9 23] [] [8,9])
 (.seq (.seq (.region [mv 24 9,⟨(some 25),(.p (.not (.tmp 24))),none⟩] [] [8,25])
 (.cond (.tmp 25) (.seq (.region [⟨(some 6),(.p (.mov (.val (.nilslice)))),none⟩,⟨(some 7),(.p (.mov (.val (.bool false)))),none⟩] [] [6,7])
 (.ret))
 (.skip)))
 (.seq (.region [mv 26 8,⟨(some 27),(.a (.bslice [.nilslice] 1 1 [(0,1,(.tmp 26))])),none⟩,mv 6 27,⟨(some 7),(.p (.mov (.val (.bool true)))),none⟩] [27] [6,7])
 (.ret))))
 (.skip)))
 (.seq (.region [⟨(some 10),(.p (.mov (.val (.nilslice)))),none⟩] [] [0,1,2,10])
 (.seq (.region [mv 28 0,mv 29 1,⟨(some 30),(.e (.call (F 58) [(.tmp 28),(.tmp 29)])),none⟩,⟨(some 31),(.e (.call (F 53) [(.tmp 30)])),none⟩,mv 0 31] [] [0,2,10])
 (.seq (.seq (.region [mi 11 0] [] [0,2,10,11])
 (.block 0 (.loop (.seq (.seq (.region [mv 32 11,mv 33 0,lb 34 33,bt 35 .lss 32 34] [] [0,2,10,11,35])
 (.cond (.tmp 35) (.skip)
 (.exit 0)))
 (.block 1 (.seq (.region [mv 36 11,mv 12 36] [] [0,2,10,11,12])
 (.seq (.region [⟨(some 13),(.p (.mov (.val (.nilslice)))),none⟩] [] [0,2,10,11,12,13])
 (.seq (.block 2 (.loop (.seq (.seq (.dregion [⟨mv 37 12,0,17⟩,⟨mv 38 0,0,17⟩,⟨lb 39 38,0,17⟩,⟨bt 40 .lss 37 39,0,17⟩,⟨mv 41 40,0,17⟩,⟨⟨(some 42),(.p (.mov (.tmp 0))),(some (41,true))⟩,0,17⟩,⟨⟨(some 43),(.p (.mov (.tmp 12))),(some (41,true))⟩,0,17⟩,⟨⟨(some 44),(.p (.iaddr 1 (.tmp 42) (.tmp 43))),(some (41,true))⟩,0,17⟩,⟨⟨(some 45),(.load1 (.tmp 44)),(some (41,true))⟩,0,17⟩,⟨⟨(some 46),(.p (.iaddr 4 (.tmp 45) (.val (.int .i64 (.ofNat 0))))),(some (41,true))⟩,0,17⟩,⟨⟨(some 47),(.loadn 4 (.tmp 46)),(some (41,true))⟩,0,17⟩,⟨⟨(some 48),(.p (.mov (.tmp 0))),(some (41,true))⟩,0,17⟩,⟨⟨(some 49),(.p (.mov (.tmp 11))),(some (41,true))⟩,0,17⟩,⟨⟨(some 50),(.p (.iaddr 1 (.tmp 48) (.tmp 49))),(some (41,true))⟩,0,17⟩,⟨⟨(some 51),(.load1 (.tmp 50)),(some (41,true))⟩,0,17⟩,⟨⟨(some 52),(.p (.iaddr 4 (.tmp 51) (.val (.int .i64 (.ofNat 0))))),(some (41,true))⟩,0,17⟩,⟨⟨(some 53),(.loadn 4 (.tmp 52)),(some (41,true))⟩,0,17⟩,⟨⟨(some 54),(.e (.call (F 50) [(.tmp 47),(.tmp 53)])),(some (41,true))⟩,0,19⟩,⟨⟨(some 55),(.p (.pick (.tmp 41) (.tmp 54) (.val (.bool false)))),none⟩,18,19⟩] [0,2,10,11,12,13,55])
 (.cond (.tmp 55) (.skip)
 (.exit 2)))
 (.block 3 (.seq (.region [mv 56 13,mv 57 0,mv 58 12,ix 59 1 57 58,l1 60 59,⟨(some 61),(.p (.slc 4 (.tmp 60) (some (.val (.int .i64 (.ofNat 1)))) none none)),none⟩,⟨(some 62),(.a (.bslice [.nilslice] 1 1 [(0,1,(.tmp 61))])),none⟩,⟨(some 63),(.e (.append 1 24 (.tmp 56) (.tmp 62))),none⟩,mv 13 63] [62] [0,2,10,11,12,13])
 (.region [mv 64 12,bi 65 .add 64 1,mv 12 65] [] [0,2,10,11,12,13]))))))
 (.seq (.region [mv 67 13,mv 68 2,⟨(some 69),(.e (.call (F 57) [(.tmp 67),(.tmp 68)])),none⟩,mv 66 69,et 70 66 0,et 71 66 1,mv 14 70,mv 15 71] [] [0,2,10,11,12,14,15])
 (.seq (.seq (.region [mv 72 15,⟨(some 73),(.p (.not (.tmp 72))),none⟩] [] [0,2,10,11,12,14,73])
 (.cond (.tmp 73) (.seq (.region [⟨(some 6),(.p (.mov (.val (.nilslice)))),none⟩,⟨(some 7),(.p (.mov (.val (.bool false)))),none⟩] [] [6,7])
 (.ret))
 (.skip)))
 (.seq (.region [mv 74 10,mv 75 0,mv 76 11,ix 77 1 75 76,l1 78 77,⟨(some 79),(.p (.iaddr 4 (.tmp 78) (.val (.int .i64 (.ofNat 0))))),none⟩,ln 80 4 79,⟨(some 81),(.a (.bslice [.bool false,.int .i64 (.ofNat 0),.int .i64 (.ofNat 0),.nilslice] 4 1 [(0,4,(.tmp 80))])),none⟩,mv 82 14,⟨(some 83),(.e (.append 4 48 (.tmp 81) (.tmp 82))),none⟩,⟨(some 84),(.a (.bslice [.nilslice] 1 1 [(0,1,(.tmp 83))])),none⟩,⟨(some 85),(.e (.append 1 24 (.tmp 74) (.tmp 84))),none⟩,mv 10 85] [84] [0,2,10,12])
 (.region [mv 86 12,mv 11 86] [] [0,2,10,11]))))))))))))
 (.seq (.region [mv 87 10,mv 6 87,⟨(some 7),(.p (.mov (.val (.bool true)))),none⟩] [] [6,7])
 (.ret))))))
def M55 (F : Nat → Nat) : Fun := ⟨88,3,(K55 F).erase,[.tmp 6,.tmp 7]⟩
abbrev K56 (F : Nat → Nat) : KC := .seq (.region [⟨(some 4),(.p (.mov (.val (.nilslice)))),none⟩,⟨(some 5),(.p (.mov (.val (.bool false)))),none⟩] [] [0,1])
 (.seq (.region [⟨(some 11),(.a (.bslice [] 4 0 [])),none⟩,mv 12 0,⟨(some 13),(.e (.append 4 48 (.tmp 11) (.tmp 12))),none⟩,mv 6 13] [] [1,6])
 (.seq (.seq (.region [mi 7 0] [] [1,6,7])
 (.block 0 (.loop (.seq (.seq (.region [mv 14 7,mv 15 1,lb 16 15,bt 17 .lss 14 16] [] [1,6,7,17])
 (.cond (.tmp 17) (.skip)
 (.exit 0)))
 (.seq (.block 1 (.seq (.region [mv 20 6,mv 21 1,mv 22 7,ix 23 6 21 22,fa 24 0 23,l1 25 24,ix 26 4 20 25,ln 27 4 26,⟨(some 8),(.a (.new [.bool false,.int .i64 (.ofNat 0),.int .i64 (.ofNat 0),.nilslice])),none⟩,⟨none,(.e (.store 4 (.tmp 8) (.tmp 27))),none⟩] [] [1,6,7,8])
 (.block 2 (.seq (.region [mv 29 1,mv 30 7,ix 31 6 29 30,fa 32 1 31,l1 33 32,⟨(some 34),(.p (.not (.tmp 33))),none⟩,mv 28 34] [] [1,6,7,8,28])
 (.cond (.tmp 28) (.dregion [⟨mv 35 6,0,12⟩,⟨mv 36 1,0,12⟩,⟨mv 37 7,0,12⟩,⟨ix 38 6 36 37,0,12⟩,⟨fa 39 0 38,0,12⟩,⟨l1 40 39,0,12⟩,⟨mv 41 1,0,12⟩,⟨mv 42 7,0,12⟩,⟨ix 43 6 41 42,0,12⟩,⟨fa 44 2 43,0,12⟩,⟨ln 45 4 44,0,12⟩,⟨ix 46 4 35 40,0,12⟩,⟨⟨none,(.e (.store 4 (.tmp 46) (.tmp 45))),none⟩,0,13⟩] [1,6,7])
 (.seq (.region [fa 48 0 8,l1 49 48,⟨(some 50),(.p (.not (.tmp 49))),none⟩,mv 47 50] [] [1,6,7,8,47])
 (.cond (.tmp 47) (.seq (.dregion [⟨ln 52 4 8,0,7⟩,⟨mv 53 1,0,7⟩,⟨mv 54 7,0,7⟩,⟨ix 55 6 53 54,0,7⟩,⟨fa 56 2 55,0,7⟩,⟨ln 57 4 56,0,7⟩,⟨⟨(some 58),(.a (.bslice [.bool false,.int .i64 (.ofNat 0),.int .i64 (.ofNat 0),.nilslice,.bool false,.int .i64 (.ofNat 0),.int .i64 (.ofNat 0),.nilslice] 4 2 [(0,4,(.tmp 52)),(4,4,(.tmp 57))])),none⟩,0,7⟩,⟨⟨(some 59),(.e (.call (F 59) [(.tmp 58)])),none⟩,0,13⟩,⟨mv 51 59,8,13⟩,⟨et 60 51 0,8,13⟩,⟨et 61 51 1,8,13⟩,⟨mv 9 60,8,13⟩,⟨mv 10 61,8,13⟩] [1,6,7,8,9,10])
 (.seq (.seq (.region [mv 62 10,⟨(some 63),(.p (.not (.tmp 62))),none⟩] [] [1,6,7,8,9,63])
 (.cond (.tmp 63) (.seq (.region [⟨(some 4),(.p (.mov (.val (.nilslice)))),none⟩,⟨(some 5),(.p (.mov (.val (.bool false)))),none⟩] [] [4,5])
 (.ret))
 (.skip)))
 (.seq (.region [mv 64 9,fa 65 2 8,⟨none,(.e (.store 1 (.tmp 65) (.tmp 64))),none⟩] [] [1,6,7,8])
 (.dregion [⟨mv 66 6,0,8⟩,⟨mv 67 1,0,8⟩,⟨mv 68 7,0,8⟩,⟨ix 69 6 67 68,0,8⟩,⟨fa 70 0 69,0,8⟩,⟨l1 71 70,0,8⟩,⟨ln 72 4 8,0,8⟩,⟨ix 73 4 66 71,0,8⟩,⟨⟨none,(.e (.store 4 (.tmp 73) (.tmp 72))),none⟩,0,9⟩] [1,6,7]))))
 (.skip))))))))
 (.region [mv 18 7,bi 19 .add 18 1,mv 7 19] [] [1,6,7]))))))
 (.seq (.region [mv 74 6,mv 4 74,⟨(some 5),(.p (.mov (.val (.bool true)))),none⟩] [] [4,5])
 (.ret))))
def M56 (F : Nat → Nat) : Fun := ⟨75,2,(K56 F).erase,[.tmp 4,.tmp 5]⟩
abbrev K57 (F : Nat → Nat) : KC := .seq (.region [⟨(some 4),(.p (.mov (.val (.nilslice)))),none⟩,⟨(some 5),(.p (.mov (.val (.bool false)))),none⟩] [] [0,1])
 (.seq (.region [⟨(some 6),(.p (.mov (.val (.nilslice)))),none⟩] [] [0,1,6])
 (.seq (.seq (.region [mi 7 0] [] [0,1,6,7])
 (.block 0 (.loop (.seq (.seq (.region [mv 10 7,mv 11 1,lb 12 11,bt 13 .lss 10 12] [] [0,1,6,7,13])
 (.cond (.tmp 13) (.skip)
 (.exit 0)))
 (.seq (.block 1 (.seq (.region [mv 17 0,mv 18 1,mv 19 7,ix 20 2 18 19,ln 21 2 20,⟨(some 22),(.e (.call (F 60) [(.tmp 17),(.tmp 21)])),none⟩,mv 16 22,et 23 16 0,et 24 16 1,⟨(some 8),(.a (.new [.bool false,.int .i64 (.ofNat 0),.int .i64 (.ofNat 0),.nilslice])),none⟩,⟨none,(.e (.store 4 (.tmp 8) (.tmp 23))),none⟩,mv 9 24] [] [0,1,6,7,8,9])
 (.seq (.seq (.region [mv 25 9,⟨(some 26),(.p (.not (.tmp 25))),none⟩] [] [0,1,6,7,8,26])
 (.cond (.tmp 26) (.seq (.region [⟨(some 4),(.p (.mov (.val (.nilslice)))),none⟩,⟨(some 5),(.p (.mov (.val (.bool false)))),none⟩] [] [4,5])
 (.ret))
 (.skip)))
 (.region [mv 27 6,ln 28 4 8,⟨(some 29),(.a (.bslice [.bool false,.int .i64 (.ofNat 0),.int .i64 (.ofNat 0),.nilslice] 4 1 [(0,4,(.tmp 28))])),none⟩,⟨(some 30),(.e (.append 4 48 (.tmp 27) (.tmp 29))),none⟩,mv 6 30] [29] [0,1,6,7]))))
 (.region [mv 14 7,bi 15 .add 14 1,mv 7 15] [] [0,1,6,7]))))))
 (.seq (.region [mv 31 6,mv 4 31,⟨(some 5),(.p (.mov (.val (.bool true)))),none⟩] [] [4,5])
 (.ret))))
def M57 (F : Nat → Nat) : Fun := ⟨32,2,(K57 F).erase,[.tmp 4,.tmp 5]⟩
abbrev K58 (_F : Nat → Nat) : KC := .seq (.region [⟨(some 4),(.p (.mov (.val (.nilslice)))),none⟩] [] [0,1])
 (.seq (.region [⟨(some 5),(.p (.mov (.val (.nilslice)))),none⟩] [] [0,1,5])
 (.seq (.seq (.region [mi 6 0] [] [0,1,5,6])
 (.block 0 (.loop (.seq (.seq (.region [mv 7 6,mv 8 0,lb 9 8,bt 10 .lss 7 9] [] [0,1,5,6,10])
 (.cond (.tmp 10) (.skip)
 (.exit 0)))
 (.seq (.block 1 (.dregion [⟨mv 14 0,0,12⟩,⟨mv 15 6,0,12⟩,⟨ix 16 1 14 15,0,12⟩,⟨l1 17 16,0,12⟩,⟨mv 18 1,0,12⟩,⟨ix 19 4 17 18,0,12⟩,⟨ln 20 4 19,0,12⟩,⟨⟨(some 21),(.a (.bslice [.bool false,.int .i64 (.ofNat 0),.int .i64 (.ofNat 0),.nilslice] 4 1 [(0,4,(.tmp 20))])),none⟩,0,12⟩,⟨mv 22 0,0,12⟩,⟨mv 23 6,0,12⟩,⟨ix 24 1 22 23,0,12⟩,⟨l1 25 24,0,12⟩,⟨⟨(some 26),(.e (.append 4 48 (.tmp 21) (.tmp 25))),none⟩,0,15⟩,⟨mv 13 5,0,15⟩,⟨⟨(some 27),(.a (.bslice [.nilslice] 1 1 [(0,1,(.tmp 26))])),none⟩,13,15⟩,⟨⟨(some 28),(.e (.append 1 24 (.tmp 13) (.tmp 27))),none⟩,13,17⟩,⟨mv 5 28,16,17⟩] [0,1,5,6]))
 (.region [mv 11 6,bi 12 .add 11 1,mv 6 12] [] [0,1,5,6]))))))
 (.seq (.region [mv 29 5,mv 4 29] [] [4])
 (.ret))))
def M58 (F : Nat → Nat) : Fun := ⟨30,2,(K58 F).erase,[.tmp 4]⟩
abbrev K59 (_F : Nat → Nat) : KC := .seq (.region [mi 2 0,⟨(some 3),(.p (.mov (.val (.bool false)))),none⟩] [] [0])
 (.seq (.region [mi 4 0,⟨(some 5),(.p (.mov (.val (.int .u64 (.ofNat 0))))),none⟩] [] [0,4,5])
 (.seq (.seq (.region [mi 6 0] [] [0,4,5,6])
 (.block 0 (.loop (.seq (.seq (.region [mv 9 6,mv 10 0,lb 11 10,bt 12 .lss 9 11] [] [0,4,5,6,12])
 (.cond (.tmp 12) (.skip)
 (.exit 0)))
 (.seq (.block 1 (.seq (.seq (.region [mv 15 0,mv 16 6,ix 17 4 15 16,fa 18 0 17,l1 19 18] [] [0,4,5,6,19])
 (.cond (.tmp 19) (.exit 1)
 (.skip)))
 (.seq (.region [mv 20 0,mv 21 6,ix 22 4 20 21,fa 23 2 22,l1 24 23,⟨(some 25),(.p (.conv (.int .u64) (.tmp 24))),none⟩,mv 7 25] [] [0,4,5,6,7])
 (.seq (.region [mv 26 5,mv 8 26] [] [0,4,5,6,7,8])
 (.seq (.region [mv 27 5,mv 28 7,bt 29 .add 27 28,mv 5 29] [] [0,4,5,6,8])
 (.seq (.seq (.region [mv 30 5,mv 31 8,bt 32 .lss 30 31] [] [0,4,5,6,32])
 (.cond (.tmp 32) (.region [mv 33 4,bi 34 .add 33 1,mv 4 34] [] [0,4,5,6])
 (.skip)))
 (.seq (.region [mv 35 0,mv 36 6,ix 37 4 35 36,fa 38 2 37,l1 39 38,bi 40 .lss 39 0] [] [0,4,5,6,40])
 (.cond (.tmp 40) (.region [mv 41 4,bi 42 .sub 41 1,mv 4 42] [] [0,4,5,6])
 (.skip)))))))))
 (.region [mv 13 6,bi 14 .add 13 1,mv 6 14] [] [0,4,5,6]))))))
 (.seq (.region [mv 43 5,⟨(some 44),(.p (.conv (.int .i64) (.tmp 43))),none⟩,mv 45 4,bi 46 .eql 45 0,mv 47 46,⟨(some 48),(.p (.mov (.tmp 5))),(some (47,true))⟩,⟨(some 49),(.p (.bin .lss (.tmp 48) (.val (.int .u64 (.ofNat 9223372036854775808))))),(some (47,true))⟩,⟨(some 50),(.p (.pick (.tmp 47) (.tmp 49) (.val (.bool false)))),none⟩,mv 51 50,⟨(some 52),(.p (.mov (.tmp 4))),(some (51,false))⟩,⟨(some 53),(.p (.bin .eql (.tmp 52) (.val (.int .i64 (.negSucc 0))))),(some (51,false))⟩,⟨(some 54),(.p (.mov (.tmp 53))),(some (51,false))⟩,⟨(some 55),(.p (.mov (.tmp 5))),(some (54,true))⟩,⟨(some 56),(.p (.bin .geq (.tmp 55) (.val (.int .u64 (.ofNat 9223372036854775808))))),(some (54,true))⟩,⟨(some 57),(.p (.pick (.tmp 54) (.tmp 56) (.val (.bool false)))),(some (51,false))⟩,⟨(some 58),(.p (.pick (.tmp 51) (.val (.bool true)) (.tmp 57))),none⟩,mv 2 44,mv 3 58] [] [2,3])
 (.ret))))
def M59 (F : Nat → Nat) : Fun := ⟨59,1,(K59 F).erase,[.tmp 2,.tmp 3]⟩
abbrev K60 (F : Nat → Nat) : KC := .seq (.region [⟨(some 3),(.a (.box (.tmp 1))),none⟩,⟨(some 4),(.a (.new [.bool false,.int .i64 (.ofNat 0),.int .i64 (.ofNat 0),.nilslice])),none⟩,⟨(some 5),(.p (.mov (.val (.bool false)))),none⟩] [3] [0,3,4])
 (.seq (.region [⟨(some 6),(.p (.mov (.val (.nilslice)))),none⟩] [] [0,3,4,6])
 (.seq (.region [⟨(some 14),(.p (.build [.bool false,.int .i64 (.ofNat 0),.int .i64 (.ofNat 0),.nilslice] [(0,1,(.val (.bool true)))])),none⟩,⟨(some 7),(.a (.new [.bool false,.int .i64 (.ofNat 0),.int .i64 (.ofNat 0),.nilslice])),none⟩,⟨none,(.e (.store 4 (.tmp 7) (.tmp 14))),none⟩] [] [0,3,4,6,7])
 (.seq (.seq (.region [mi 8 0] [] [0,3,4,6,7,8])
 (.block 0 (.loop (.seq (.seq (.region [mv 15 8,mv 16 0,lb 17 16,bt 18 .lss 15 17] [] [0,3,4,6,7,8,18])
 (.cond (.tmp 18) (.skip)
 (.exit 0)))
 (.seq (.block 1 (.seq (.dregion [⟨mv 21 0,0,9⟩,⟨mv 22 8,0,9⟩,⟨ix 23 1 21 22,0,9⟩,⟨l1 24 23,0,9⟩,⟨fa 25 1 3,0,9⟩,⟨l1 26 25,0,9⟩,⟨ix 27 4 24 26,0,9⟩,⟨ln 28 4 27,0,9⟩,⟨⟨(some 9),(.a (.new [.bool false,.int .i64 (.ofNat 0),.int .i64 (.ofNat 0),.nilslice])),none⟩,0,9⟩,⟨⟨none,(.e (.store 4 (.tmp 9) (.tmp 28))),none⟩,0,10⟩] [0,3,4,6,7,8,9])
 (.seq (.region [mv 29 6,ln 30 4 9,⟨(some 31),(.a (.bslice [.bool false,.int .i64 (.ofNat 0),.int .i64 (.ofNat 0),.nilslice] 4 1 [(0,4,(.tmp 30))])),none⟩,⟨(some 32),(.e (.append 4 48 (.tmp 29) (.tmp 31))),none⟩,mv 6 32] [31] [0,3,4,6,7,8,9])
 (.region [fa 33 1 9,l1 34 33,fa 35 1 7,⟨none,(.e (.store 1 (.tmp 35) (.tmp 34))),none⟩] [] [0,3,4,6,7,8]))))
 (.region [mv 19 8,bi 20 .add 19 1,mv 8 20] [] [0,3,4,6,7,8]))))))
 (.seq (.seq (.region [fa 36 0 3,l1 37 36] [] [0,3,4,6,7,37])
 (.block 2 (.seq (.region [bi 39 .eql 37 1,mv 38 39] [] [0,3,4,6,7,37,38])
 (.cond (.tmp 38) (.seq (.region [mv 40 0,lb 41 40,⟨(some 42),(.p (.build [.bool false,.int .i64 (.ofNat 0),.int .i64 (.ofNat 0),.nilslice] [(1,1,(.val (.int .i64 (.ofNat 1)))),(2,1,(.tmp 41))])),none⟩,⟨none,(.e (.store 4 (.tmp 4) (.tmp 42))),none⟩,⟨(some 5),(.p (.mov (.val (.bool true)))),none⟩] [] [4,5])
 (.ret))
 (.seq (.region [bi 44 .eql 37 2,mv 43 44] [] [3,4,6,7,43])
 (.cond (.tmp 43) (.seq (.region [mv 46 6,⟨(some 47),(.e (.call (F 59) [(.tmp 46)])),none⟩,mv 45 47,et 48 45 0,et 49 45 1,mv 10 48,mv 11 49] [] [4,10,11])
 (.seq (.region [mv 50 10,⟨(some 51),(.p (.build [.bool false,.int .i64 (.ofNat 0),.int .i64 (.ofNat 0),.nilslice] [(1,1,(.val (.int .i64 (.ofNat 1)))),(2,1,(.tmp 50))])),none⟩,mv 52 11,⟨none,(.e (.store 4 (.tmp 4) (.tmp 51))),none⟩,mv 5 52] [] [4,5])
 (.ret)))
 (.skip)))))))
 (.seq (.seq (.region [mi 12 0] [] [3,4,6,7,12])
 (.block 3 (.loop (.seq (.seq (.region [mv 53 12,mv 54 6,lb 55 54,bt 56 .lss 53 55] [] [3,4,6,7,12,56])
 (.cond (.tmp 56) (.skip)
 (.exit 3)))
 (.seq (.block 4 (.seq (.dregion [⟨mv 59 6,0,5⟩,⟨mv 60 12,0,5⟩,⟨ix 61 4 59 60,0,5⟩,⟨ln 62 4 61,0,5⟩,⟨ln 63 4 7,0,5⟩,⟨⟨(some 64),(.e (.call (F 46) [(.tmp 62),(.tmp 63)])),none⟩,0,7⟩,⟨mv 13 64,6,7⟩] [3,4,6,7,12,13])
 (.seq (.region [mv 65 6,mv 66 12,ix 67 4 65 66,fa 68 0 67,l1 69 68,⟨(some 70),(.p (.not (.tmp 69))),none⟩,mv 71 70,⟨(some 72),(.p (.faddr 0 (.tmp 7))),(some (71,true))⟩,⟨(some 73),(.load1 (.tmp 72)),(some (71,true))⟩,⟨(some 74),(.p (.mov (.tmp 73))),(some (71,true))⟩,⟨(some 75),(.p (.faddr 0 (.tmp 3))),(some (74,false))⟩,⟨(some 76),(.load1 (.tmp 75)),(some (74,false))⟩,⟨(some 77),(.p (.bin .eql (.tmp 76) (.val (.int .i64 (.ofNat 3))))),(some (74,false))⟩,⟨(some 78),(.p (.mov (.tmp 77))),(some (74,false))⟩,⟨(some 79),(.p (.mov (.tmp 13))),(some (78,true))⟩,⟨(some 80),(.p (.bin .lss (.tmp 79) (.val (.int .i64 (.ofNat 0))))),(some (78,true))⟩,⟨(some 81),(.p (.pick (.tmp 78) (.tmp 80) (.val (.bool false)))),(some (74,false))⟩,⟨(some 82),(.p (.pick (.tmp 74) (.val (.bool true)) (.tmp 81))),(some (71,true))⟩,⟨(some 83),(.p (.mov (.tmp 82))),(some (71,true))⟩,⟨(some 84),(.p (.faddr 0 (.tmp 3))),(some (83,false))⟩,⟨(some 85),(.load1 (.tmp 84)),(some (83,false))⟩,⟨(some 86),(.p (.bin .eql (.tmp 85) (.val (.int .i64 (.ofNat 4))))),(some (83,false))⟩,⟨(some 87),(.p (.mov (.tmp 86))),(some (83,false))⟩,⟨(some 88),(.p (.mov (.tmp 13))),(some (87,true))⟩,⟨(some 89),(.p (.bin .gtr (.tmp 88) (.val (.int .i64 (.ofNat 0))))),(some (87,true))⟩,⟨(some 90),(.p (.pick (.tmp 87) (.tmp 89) (.val (.bool false)))),(some (83,false))⟩,⟨(some 91),(.p (.pick (.tmp 83) (.val (.bool true)) (.tmp 90))),(some (71,true))⟩,⟨(some 92),(.p (.pick (.tmp 71) (.tmp 91) (.val (.bool false)))),none⟩] [] [3,4,6,7,12,92])
 (.cond (.tmp 92) (.region [mv 93 6,mv 94 12,ix 95 4 93 94,ln 96 4 95,⟨none,(.e (.store 4 (.tmp 7) (.tmp 96))),none⟩] [] [3,4,6,7,12])
 (.skip)))))
 (.region [mv 57 12,bi 58 .add 57 1,mv 12 58] [] [3,4,6,7,12]))))))
 (.seq (.region [ln 97 4 7,⟨none,(.e (.store 4 (.tmp 4) (.tmp 97))),none⟩,⟨(some 5),(.p (.mov (.val (.bool true)))),none⟩] [] [4,5])
 (.ret)))))))
def M60 (F : Nat → Nat) : Fun := ⟨98,2,(K60 F).erase,[.celln 4 4,.tmp 5]⟩
end Go.Lib
end

section
namespace Go.Lib
open Go.Vm Go.Dv
set_option maxRecDepth 100000
abbrev K46 (_F : Nat → Nat) : KC := .seq (.region [⟨(some 2),(.a (.box (.tmp 0))),none⟩,⟨(some 3),(.a (.box (.tmp 1))),none⟩,mi 4 0] [2,3] [2,3])
 (.seq (.block 0 (.seq (.region [fa 6 0 2,l1 7 6,mv 8 7,⟨(some 9),(.p (.faddr 0 (.tmp 3))),(some (8,false))⟩,⟨(some 10),(.load1 (.tmp 9)),(some (8,false))⟩,⟨(some 11),(.p (.pick (.tmp 8) (.val (.bool true)) (.tmp 10))),none⟩,mv 5 11] [] [2,3,5])
 (.cond (.tmp 5) (.seq (.seq (.region [fa 12 0 2,l1 13 12,fa 14 0 3,l1 15 14,⟨(some 16),(.p (.eq .bool false (.tmp 13) (.tmp 15))),none⟩] [] [2,16])
 (.cond (.tmp 16) (.seq (.region [mi 4 0] [] [4])
 (.ret))
 (.skip)))
 (.seq (.seq (.region [fa 17 0 2,l1 18 17] [] [18])
 (.cond (.tmp 18) (.seq (.region [⟨(some 4),(.p (.mov (.val (.int .i64 (.negSucc 0))))),none⟩] [] [4])
 (.ret))
 (.skip)))
 (.seq (.region [mi 4 1] [] [4])
 (.ret))))
 (.seq (.region [fa 20 1 2,l1 21 20,bi 22 .eql 21 1,mv 23 22,⟨(some 24),(.p (.faddr 2 (.tmp 2))),(some (23,true))⟩,⟨(some 25),(.load1 (.tmp 24)),(some (23,true))⟩,⟨(some 26),(.p (.faddr 2 (.tmp 3))),(some (23,true))⟩,⟨(some 27),(.load1 (.tmp 26)),(some (23,true))⟩,⟨(some 28),(.p (.bin .neq (.tmp 25) (.tmp 27))),(some (23,true))⟩,⟨(some 29),(.p (.pick (.tmp 23) (.tmp 28) (.val (.bool false)))),none⟩,mv 19 29] [] [2,3,19])
 (.cond (.tmp 19) (.seq (.seq (.region [fa 30 2 2,l1 31 30,fa 32 2 3,l1 33 32,bt 34 .lss 31 33] [] [34])
 (.cond (.tmp 34) (.seq (.region [⟨(some 4),(.p (.mov (.val (.int .i64 (.negSucc 0))))),none⟩] [] [4])
 (.ret))
 (.skip)))
 (.seq (.region [mi 4 1] [] [4])
 (.ret)))
 (.seq (.region [fa 36 1 2,l1 37 36,bi 38 .eql 37 2,mv 39 38,⟨(some 40),(.p (.faddr 3 (.tmp 2))),(some (39,true))⟩,⟨(some 41),(.load1 (.tmp 40)),(some (39,true))⟩,⟨(some 42),(.e (.text (.tmp 41))),(some (39,true))⟩,⟨(some 43),(.p (.faddr 3 (.tmp 3))),(some (39,true))⟩,⟨(some 44),(.load1 (.tmp 43)),(some (39,true))⟩,⟨(some 45),(.e (.text (.tmp 44))),(some (39,true))⟩,⟨(some 46),(.p (.bin .neq (.tmp 42) (.tmp 45))),(some (39,true))⟩,⟨(some 47),(.p (.pick (.tmp 39) (.tmp 46) (.val (.bool false)))),none⟩,mv 35 47] [] [2,3,35])
 (.cond (.tmp 35) (.seq (.seq (.region [fa 48 3 2,l1 49 48,⟨(some 50),(.e (.text (.tmp 49))),none⟩,fa 51 3 3,l1 52 51,⟨(some 53),(.e (.text (.tmp 52))),none⟩,bt 54 .lss 50 53] [] [54])
 (.cond (.tmp 54) (.seq (.region [⟨(some 4),(.p (.mov (.val (.int .i64 (.negSucc 0))))),none⟩] [] [4])
 (.ret))
 (.skip)))
 (.seq (.region [mi 4 1] [] [4])
 (.ret)))
 (.skip))))))))
 (.seq (.region [mi 4 0] [] [4])
 (.ret)))
def M46 (F : Nat → Nat) : Fun := ⟨55,2,(K46 F).erase,[.tmp 4]⟩
abbrev K47 (F : Nat → Nat) : KC := .seq (.region [mi 4 0] [] [0,1])
 (.seq (.seq (.region [mi 5 0] [] [0,1,5])
 (.block 0 (.loop (.seq (.seq (.region [mv 7 5,mv 8 0,lb 9 8,bt 10 .lss 7 9,mv 11 10,⟨(some 12),(.p (.mov (.tmp 5))),(some (11,true))⟩,⟨(some 13),(.p (.mov (.tmp 1))),(some (11,true))⟩,⟨(some 14),(.p (.lenb (.tmp 13))),(some (11,true))⟩,⟨(some 15),(.p (.bin .lss (.tmp 12) (.tmp 14))),(some (11,true))⟩,⟨(some 16),(.p (.pick (.tmp 11) (.tmp 15) (.val (.bool false)))),none⟩] [] [0,1,5,16])
 (.cond (.tmp 16) (.skip)
 (.exit 0)))
 (.seq (.block 1 (.seq (.dregion [⟨mv 19 0,0,8⟩,⟨mv 20 5,0,8⟩,⟨ix 21 4 19 20,0,8⟩,⟨ln 22 4 21,0,8⟩,⟨mv 23 1,0,8⟩,⟨mv 24 5,0,8⟩,⟨ix 25 4 23 24,0,8⟩,⟨ln 26 4 25,0,8⟩,⟨⟨(some 27),(.e (.call (F 46) [(.tmp 22),(.tmp 26)])),none⟩,0,10⟩,⟨mv 6 27,9,10⟩] [0,1,5,6])
 (.seq (.region [mv 28 6,bi 29 .neq 28 0] [] [0,1,5,6,29])
 (.cond (.tmp 29) (.seq (.region [mv 30 6,mv 4 30] [] [4])
 (.ret))
 (.skip)))))
 (.region [mv 17 5,bi 18 .add 17 1,mv 5 18] [] [0,1,5]))))))
 (.seq (.region [mv 31 0,lb 32 31,mv 33 1,lb 34 33,bt 35 .sub 32 34,⟨(some 36),(.p (.max [(.tmp 35),(.val (.int .i64 (.negSucc 0)))])),none⟩,⟨(some 37),(.p (.min [(.tmp 36),(.val (.int .i64 (.ofNat 1)))])),none⟩,mv 4 37] [] [4])
 (.ret)))
def M47 (F : Nat → Nat) : Fun := ⟨38,2,(K47 F).erase,[.tmp 4]⟩
abbrev K48 (F : Nat → Nat) : KC := .seq (.region [⟨(some 4),(.p (.mov (.val (.bool false)))),none⟩] [] [0,1])
 (.seq (.seq (.region [mv 6 0,lb 7 6,mv 8 1,lb 9 8,bt 10 .neq 7 9] [] [0,1,10])
 (.cond (.tmp 10) (.seq (.region [⟨(some 4),(.p (.mov (.val (.bool false)))),none⟩] [] [4])
 (.ret))
 (.skip)))
 (.seq (.seq (.region [mi 5 0] [] [0,1,5])
 (.block 0 (.loop (.seq (.seq (.region [mv 11 5,mv 12 0,lb 13 12,bt 14 .lss 11 13] [] [0,1,5,14])
 (.cond (.tmp 14) (.skip)
 (.exit 0)))
 (.seq (.block 1 (.seq (.dregion [⟨mv 17 0,0,8⟩,⟨mv 18 5,0,8⟩,⟨ix 19 1 17 18,0,8⟩,⟨l1 20 19,0,8⟩,⟨mv 21 1,0,8⟩,⟨mv 22 5,0,8⟩,⟨ix 23 1 21 22,0,8⟩,⟨l1 24 23,0,8⟩,⟨⟨(some 25),(.e (.call (F 49) [(.tmp 20),(.tmp 24)])),none⟩,0,10⟩,⟨⟨(some 26),(.p (.not (.tmp 25))),none⟩,9,10⟩] [0,1,5,26])
 (.cond (.tmp 26) (.seq (.region [⟨(some 4),(.p (.mov (.val (.bool false)))),none⟩] [] [4])
 (.ret))
 (.skip))))
 (.region [mv 15 5,bi 16 .add 15 1,mv 5 16] [] [0,1,5]))))))
 (.seq (.region [⟨(some 4),(.p (.mov (.val (.bool true)))),none⟩] [] [4])
 (.ret))))
def M48 (F : Nat → Nat) : Fun := ⟨27,2,(K48 F).erase,[.tmp 4]⟩
abbrev K49 (F : Nat → Nat) : KC := .seq (.region [⟨(some 4),(.p (.mov (.val (.bool false)))),none⟩] [] [0,1])
 (.seq (.seq (.region [mv 6 0,lb 7 6,mv 8 1,lb 9 8,bt 10 .neq 7 9] [] [0,1,10])
 (.cond (.tmp 10) (.seq (.region [⟨(some 4),(.p (.mov (.val (.bool false)))),none⟩] [] [4])
 (.ret))
 (.skip)))
 (.seq (.seq (.region [mi 5 0] [] [0,1,5])
 (.block 0 (.loop (.seq (.seq (.region [mv 11 5,mv 12 0,lb 13 12,bt 14 .lss 11 13] [] [0,1,5,14])
 (.cond (.tmp 14) (.skip)
 (.exit 0)))
 (.seq (.block 1 (.seq (.dregion [⟨mv 17 0,0,8⟩,⟨mv 18 5,0,8⟩,⟨ix 19 4 17 18,0,8⟩,⟨ln 20 4 19,0,8⟩,⟨mv 21 1,0,8⟩,⟨mv 22 5,0,8⟩,⟨ix 23 4 21 22,0,8⟩,⟨ln 24 4 23,0,8⟩,⟨⟨(some 25),(.e (.call (F 50) [(.tmp 20),(.tmp 24)])),none⟩,0,10⟩,⟨⟨(some 26),(.p (.not (.tmp 25))),none⟩,9,10⟩] [0,1,5,26])
 (.cond (.tmp 26) (.seq (.region [⟨(some 4),(.p (.mov (.val (.bool false)))),none⟩] [] [4])
 (.ret))
 (.skip))))
 (.region [mv 15 5,bi 16 .add 15 1,mv 5 16] [] [0,1,5]))))))
 (.seq (.region [⟨(some 4),(.p (.mov (.val (.bool true)))),none⟩] [] [4])
 (.ret))))
def M49 (F : Nat → Nat) : Fun := ⟨27,2,(K49 F).erase,[.tmp 4]⟩
abbrev K50 (_F : Nat → Nat) : KC := .seq (.region [⟨(some 2),(.a (.box (.tmp 0))),none⟩,⟨(some 3),(.a (.box (.tmp 1))),none⟩,⟨(some 4),(.p (.mov (.val (.bool false)))),none⟩] [2,3] [2,3])
 (.seq (.region [fa 5 0 2,l1 6 5,fa 7 0 3,l1 8 7,⟨(some 9),(.p (.eq .bool false (.tmp 6) (.tmp 8))),none⟩,mv 10 9,⟨(some 11),(.p (.faddr 1 (.tmp 2))),(some (10,true))⟩,⟨(some 12),(.load1 (.tmp 11)),(some (10,true))⟩,⟨(some 13),(.p (.faddr 1 (.tmp 3))),(some (10,true))⟩,⟨(some 14),(.load1 (.tmp 13)),(some (10,true))⟩,⟨(some 15),(.p (.bin .eql (.tmp 12) (.tmp 14))),(some (10,true))⟩,⟨(some 16),(.p (.pick (.tmp 10) (.tmp 15) (.val (.bool false)))),none⟩,mv 17 16,⟨(some 18),(.p (.faddr 2 (.tmp 2))),(some (17,true))⟩,⟨(some 19),(.load1 (.tmp 18)),(some (17,true))⟩,⟨(some 20),(.p (.faddr 2 (.tmp 3))),(some (17,true))⟩,⟨(some 21),(.load1 (.tmp 20)),(some (17,true))⟩,⟨(some 22),(.p (.bin .eql (.tmp 19) (.tmp 21))),(some (17,true))⟩,⟨(some 23),(.p (.pick (.tmp 17) (.tmp 22) (.val (.bool false)))),none⟩,mv 24 23,⟨(some 25),(.p (.faddr 3 (.tmp 2))),(some (24,true))⟩,⟨(some 26),(.load1 (.tmp 25)),(some (24,true))⟩,⟨(some 27),(.e (.text (.tmp 26))),(some (24,true))⟩,⟨(some 28),(.p (.faddr 3 (.tmp 3))),(some (24,true))⟩,⟨(some 29),(.load1 (.tmp 28)),(some (24,true))⟩,⟨(some 30),(.e (.text (.tmp 29))),(some (24,true))⟩,⟨(some 31),(.p (.bin .eql (.tmp 27) (.tmp 30))),(some (24,true))⟩,⟨(some 32),(.p (.pick (.tmp 24) (.tmp 31) (.val (.bool false)))),none⟩,mv 4 32] [] [4])
 (.ret))
def M50 (F : Nat → Nat) : Fun := ⟨33,2,(K50 F).erase,[.tmp 4]⟩
theorem ok50 {F : Nat → Nat} : (K50 F).ok = true := rfl
end Go.Lib
end

section
set_option maxRecDepth 10000
namespace Go.Lib
open Go.Vm Go.Dv
variable {α : Type}
structure Ord3 (G : α → Prop) (cmp : α → α → Int) : Prop where
  sym : ∀ x y, G x → G y → cmp x y = - cmp y x
  tr : ∀ x y z, G x → G y → G z → cmp x y ≤ 0 → cmp y z ≤ 0 → cmp x z ≤ 0
namespace Ord3
variable {G : α → Prop} {cmp : α → α → Int}
theorem lt_le (o : Ord3 G cmp) {x y z : α} (hx : G x) (hy : G y) (hz : G z) (h1 : cmp x y < 0) (h2 : cmp y z ≤ 0) : cmp x z < 0 := by
  have h3 := o.tr x y z hx hy hz (by omega) h2
  rcases Int.lt_or_eq_of_le h3 with h | h
  · exact h
  · have := o.sym x z hx hz
    have h4 := o.tr y z x hy hz hx h2 (by omega)
    have := o.sym x y hx hy
    omega
theorem le_lt (o : Ord3 G cmp) {x y z : α} (hx : G x) (hy : G y) (hz : G z) (h1 : cmp x y ≤ 0) (h2 : cmp y z < 0) : cmp x z < 0 := by
  have h3 := o.tr x y z hx hy hz h1 (by omega)
  rcases Int.lt_or_eq_of_le h3 with h | h
  · exact h
  · have := o.sym x z hx hz
    have h4 := o.tr z x y hz hx hy (by omega) h1
    have := o.sym y z hy hz
    omega
theorem eq_eq (o : Ord3 G cmp) {x y z : α} (hx : G x) (hy : G y) (hz : G z) (h1 : cmp x y = 0) (h2 : cmp y z = 0) : cmp x z = 0 := by
  have h3 := o.tr x y z hx hy hz (by omega) (by omega)
  have e1 := o.sym x y hx hy
  have e2 := o.sym y z hy hz
  have e3 := o.sym x z hx hz
  have h4 := o.tr z y x hz hy hx (by omega) (by omega)
  omega
theorem anti (o : Ord3 G cmp) : ∀ x y, G x → G y → cmp x y < 0 → ¬ cmp y x < 0 := fun x y hx hy h => by
  have := o.sym x y hx hy; omega
theorem trans (o : Ord3 G cmp) : ∀ x y z, G x → G y → G z → ¬ cmp y x < 0 → ¬ cmp z y < 0 → ¬ cmp z x < 0 := fun x y z hx hy hz h1 h2 => by
  have e1 := o.sym x y hx hy
  have e2 := o.sym y z hy hz
  have e3 := o.sym x z hx hz
  have := o.tr x y z hx hy hz (by omega) (by omega)
  omega
end Ord3
theorem cmpI_ord : Ord3 (fun _ => True) cmpI :=
  ⟨fun x y _ _ => by unfold cmpI; repeat' split <;> omega, fun x y z _ _ _ h1 h2 => by unfold cmpI at *; split at h1 <;> split at h2 <;> (repeat' split) <;> omega⟩
theorem cmpLs_cons {a b : Nat} {x y : List Nat} : cmpLs (a :: x) (b :: y) = if cmpI a b ≠ 0 then cmpI a b else cmpLs x y := by
  simp only [cmpLs, cmpI, cond_eq_ite, nblt]
  repeat' split
  all_goals first | rfl | omega
theorem cmpLs_ord : Ord3 (fun _ => True) cmpLs := by
  refine ⟨fun x y _ _ => ?_, fun x y z _ _ _ => ?_⟩
  · induction x generalizing y with
    | nil => cases y <;> rfl
    | cons a x ih => cases y with
      | nil => rfl
      | cons b y =>
        rw [cmpLs_cons, cmpLs_cons]
        have := cmpI_ord.sym (a : Int) b trivial trivial
        have := ih y
        split <;> split <;> omega
  · induction x generalizing y z with
    | nil => intro _ _; cases z <;> simp [cmpLs]
    | cons a x ih => cases y with
      | nil => intro h; simp [cmpLs] at h
      | cons b y => cases z with
        | nil => intro _ h; simp [cmpLs] at h
        | cons c z =>
          rw [cmpLs_cons, cmpLs_cons, cmpLs_cons]
          intro h1 h2
          have ih := ih y z
          have o := cmpI_ord
          have t := o.tr (a : Int) b c trivial trivial trivial
          have t1 := o.lt_le (x := (a : Int)) (y := b) (z := c) trivial trivial trivial
          have t2 := o.le_lt (x := (a : Int)) (y := b) (z := c) trivial trivial trivial
          have t3 := o.eq_eq (x := (a : Int)) (y := b) (z := c) trivial trivial trivial
          split at h1 <;> split at h2 <;> split <;> first | omega | (exact ih (by omega) (by omega)) | skip
theorem cmpB_ord : Ord3 (fun _ => True) cmpB := ⟨fun _ _ _ _ => cmpLs_ord.sym _ _ trivial trivial, fun _ _ _ _ _ _ h1 h2 => cmpLs_ord.tr _ _ _ trivial trivial trivial h1 h2⟩
theorem cmpV_null {a b : Vl} : cmpV a b = if a.null = true then (if b.null = true then 0 else -1) else if b.null = true then 1 else if a.kind = 1 then cmpI a.n b.n else if a.kind = 2 then cmpB a.bytes b.bytes else 0 := by
  unfold cmpV rankV cmpI
  cases a.null <;> cases b.null <;> simp
theorem cmpV_ord {k : Int} : Ord3 (fun v : Vl => v.kind = k) cmpV := by
  refine ⟨fun x y hx hy => ?_, fun x y z hx hy hz h1 h2 => ?_⟩
  · rw [cmpV_null, cmpV_null, hx, hy]
    have := cmpI_ord.sym x.n y.n trivial trivial
    have := cmpB_ord.sym x.bytes y.bytes trivial trivial
    repeat' split
    all_goals omega
  · rw [cmpV_null] at *
    rw [hx] at *
    rw [hy] at h2
    have := cmpI_ord.tr x.n y.n z.n trivial trivial trivial
    have := cmpB_ord.tr x.bytes y.bytes z.bytes trivial trivial trivial
    cases hx0 : x.null <;> cases hy0 : y.null <;> cases hz0 : z.null <;> simp [hx0, hy0, hz0] at h1 h2 ⊢
    split at h1
    · rename_i e
      simp only [e] at h2 ⊢
      simp at h2 ⊢; omega
    · rename_i e
      simp only [e] at h2 ⊢
      split at h1
      · rename_i e2
        simp [e2] at h2 ⊢; omega
      · rename_i e2
        simp [e2]
def Kin (ks : List Int) (r : Row) : Prop := r.map Vl.kind = ks
end Go.Lib
end

section
set_option maxRecDepth 10000
namespace Go.Lib
open Go.Vm Go.Dv
variable {p : Prog} {ext : Ext} {F : Nat → Nat}
structure HSame6 (p : Prog) (ext : Ext) (F : Nat → Nat) : Prop where
  h48 : Has p ext F 48 M48
  h49 : Has p ext F 49 M49
  h50 : Has p ext F 50 M50
structure HRef6 (p : Prog) (ext : Ext) (F : Nat → Nat) : Prop extends HSame6 p ext F where
  h46 : Has p ext F 46 M46
  h47 : Has p ext F 47 M47
instance : Coe (HRef6 p ext F) (HSame6 p ext F) := ⟨HRef6.toHSame6⟩
end Go.Lib
end

section
namespace Go.Lib
open Go.Vm Go.Dv
set_option maxRecDepth 100000
abbrev K32 (F : Nat → Nat) : KC := .seq (.region [⟨(some 4),(.a (.box (.tmp 1))),none⟩,⟨(some 6),(.p (.mov (.val (.nilslice)))),none⟩,⟨(some 7),(.p (.mov (.val (.bool false)))),none⟩] [4] [0,2,4])
 (.seq (.seq (.region [l1 16 4,bi 17 .lss 16 0] [] [0,2,4,17])
 (.cond (.tmp 17) (.seq (.region [mv 19 0,mv 20 2,⟨(some 21),(.e (.call (F 36) [(.val (.nilslice)),(.tmp 19),(.tmp 20)])),none⟩,mv 18 21,et 22 18 0,et 23 18 1,mv 8 22,mv 9 23] [] [8,9])
 (.seq (.seq (.region [mv 24 9,⟨(some 25),(.p (.not (.tmp 24))),none⟩] [] [8,25])
 (.cond (.tmp 25) (.seq (.region [⟨(some 6),(.p (.mov (.val (.nilslice)))),none⟩,⟨(some 7),(.p (.mov (.val (.bool false)))),none⟩] [] [6,7])
 (.ret))
 (.skip)))
 (.seq (.region [mv 26 8,⟨(some 27),(.a (.bslice [.nilslice] 1 1 [(0,1,(.tmp 26))])),none⟩,mv 6 27,⟨(some 7),(.p (.mov (.val (.bool true)))),none⟩] [27] [6,7])
 (.ret))))
 (.skip)))
 (.seq (.region [mv 28 0,⟨(some 29),(.e (.call (F 37) [(.tmp 28)])),none⟩,mv 10 29] [] [2,4,10])
 (.seq (.region [mv 30 10,⟨(some 31),(.p (.mkfunc (F 38) [] [(.tmp 4)])),none⟩,⟨(some 32),(.e (.call (F 26) [(.tmp 30),(.tmp 31)])),none⟩] [] [2,4,10])
 (.seq (.region [⟨(some 11),(.p (.mov (.val (.nilslice)))),none⟩] [] [2,4,10,11])
 (.seq (.block 0 (.loop (.seq (.seq (.region [mv 33 10,lb 34 33,bi 35 .gtr 34 0] [] [2,4,10,11,35])
 (.cond (.tmp 35) (.skip)
 (.exit 0)))
 (.block 1 (.seq (.dregion [⟨mv 36 10,0,4⟩,⟨⟨(some 37),(.p (.iaddr 1 (.tmp 36) (.val (.int .i64 (.ofNat 0))))),none⟩,0,4⟩,⟨l1 38 37,0,4⟩,⟨l1 39 4,0,4⟩,⟨⟨(some 40),(.e (.call (F 3) [(.tmp 38),(.tmp 39)])),none⟩,0,6⟩,⟨⟨(some 12),(.a (.new [.bool false,.int .i64 (.ofNat 0),.int .i64 (.ofNat 0),.nilslice])),none⟩,0,6⟩,⟨⟨none,(.e (.store 4 (.tmp 12) (.tmp 40))),none⟩,5,7⟩] [2,4,10,11,12])
 (.seq (.region [mi 13 1] [] [2,4,10,11,12,13])
 (.seq (.block 2 (.loop (.seq (.seq (.dregion [⟨mv 41 13,0,10⟩,⟨mv 42 10,0,10⟩,⟨lb 43 42,0,10⟩,⟨bt 44 .lss 41 43,0,10⟩,⟨mv 45 44,0,10⟩,⟨⟨(some 46),(.p (.mov (.tmp 10))),(some (45,true))⟩,0,10⟩,⟨⟨(some 47),(.p (.mov (.tmp 13))),(some (45,true))⟩,0,10⟩,⟨⟨(some 48),(.p (.iaddr 1 (.tmp 46) (.tmp 47))),(some (45,true))⟩,0,10⟩,⟨⟨(some 49),(.load1 (.tmp 48)),(some (45,true))⟩,0,10⟩,⟨⟨(some 50),(.load1 (.tmp 4)),(some (45,true))⟩,0,10⟩,⟨⟨(some 51),(.e (.call (F 3) [(.tmp 49),(.tmp 50)])),(some (45,true))⟩,0,12⟩,⟨⟨(some 52),(.loadn 4 (.tmp 12)),(some (45,true))⟩,0,12⟩,⟨⟨(some 53),(.e (.call (F 1) [(.tmp 51),(.tmp 52)])),(some (45,true))⟩,11,15⟩,⟨⟨(some 54),(.p (.bin .eql (.tmp 53) (.val (.int .i64 (.ofNat 0))))),(some (45,true))⟩,13,15⟩,⟨⟨(some 55),(.p (.pick (.tmp 45) (.tmp 54) (.val (.bool false)))),none⟩,13,15⟩] [2,4,10,11,12,13,55])
 (.cond (.tmp 55) (.skip)
 (.exit 2)))
 (.block 3 (.region [mv 56 13,bi 57 .add 56 1,mv 13 57] [] [2,4,10,11,12,13])))))
 (.seq (.dregion [⟨ln 59 4 12,0,6⟩,⟨⟨(some 60),(.a (.bslice [.bool false,.int .i64 (.ofNat 0),.int .i64 (.ofNat 0),.nilslice] 4 1 [(0,4,(.tmp 59))])),none⟩,0,6⟩,⟨mv 61 10,0,6⟩,⟨mv 62 13,0,6⟩,⟨⟨(some 63),(.p (.slc 1 (.tmp 61) none (some (.tmp 62)) none)),none⟩,0,6⟩,⟨mv 64 2,0,6⟩,⟨⟨(some 65),(.e (.call (F 36) [(.tmp 60),(.tmp 63),(.tmp 64)])),none⟩,0,12⟩,⟨mv 58 65,7,12⟩,⟨et 66 58 0,7,12⟩,⟨et 67 58 1,7,12⟩,⟨mv 14 66,7,12⟩,⟨mv 15 67,7,12⟩] [2,4,10,11,13,14,15])
 (.seq (.seq (.region [mv 68 15,⟨(some 69),(.p (.not (.tmp 68))),none⟩] [] [2,4,10,11,13,14,69])
 (.cond (.tmp 69) (.seq (.region [⟨(some 6),(.p (.mov (.val (.nilslice)))),none⟩,⟨(some 7),(.p (.mov (.val (.bool false)))),none⟩] [] [6,7])
 (.ret))
 (.skip)))
 (.seq (.region [mv 70 11,mv 71 14,⟨(some 72),(.a (.bslice [.nilslice] 1 1 [(0,1,(.tmp 71))])),none⟩,⟨(some 73),(.e (.append 1 24 (.tmp 70) (.tmp 72))),none⟩,mv 11 73] [72] [2,4,10,11,13])
 (.region [mv 74 10,mv 75 13,⟨(some 76),(.p (.slc 1 (.tmp 74) (some (.tmp 75)) none none)),none⟩,mv 10 76] [] [2,4,10,11])))))))))))
 (.seq (.region [mv 77 11,⟨(some 78),(.e (.call (F 39) [(.tmp 77)])),none⟩,mv 6 78,⟨(some 7),(.p (.mov (.val (.bool true)))),none⟩] [] [6,7])
 (.ret)))))))
def M32 (F : Nat → Nat) : Fun := ⟨79,3,(K32 F).erase,[.tmp 6,.tmp 7]⟩
abbrev K33 (F : Nat → Nat) : KC := .seq (.region [⟨(some 2),(.p (.mov (.val (.nilslice)))),none⟩] [] [0])
 (.seq (.region [mv 4 0,⟨(some 5),(.e (.call (F 37) [(.tmp 4)])),none⟩,mv 3 5] [] [3])
 (.seq (.region [mv 6 3,⟨(some 7),(.e (.call (F 26) [(.tmp 6),(.val (.func (F 2) [] []))])),none⟩] [] [3])
 (.seq (.region [mv 8 3,mv 2 8] [] [2])
 (.ret))))
def M33 (F : Nat → Nat) : Fun := ⟨9,1,(K33 F).erase,[.tmp 2]⟩
abbrev K34 (F : Nat → Nat) : KC := .seq (.region [⟨(some 4),(.p (.mov (.val (.nilslice)))),none⟩] [] [0,1])
 (.seq (.region [⟨(some 5),(.p (.mov (.val (.nilslice)))),none⟩] [] [0,1,5])
 (.seq (.seq (.region [mv 11 0,lb 12 11,mi 13 0] [] [1,5,11,12,13])
 (.block 0 (.loop (.seq (.region [bt 14 .lss 13 12] [] [1,5,11,12,13,14])
 (.seq (.cond (.tmp 14) (.skip)
 (.exit 0))
 (.seq (.block 1 (.seq (.region [ix 15 1 11 13,l1 16 15,mv 7 16] [] [1,5,7,11,12,13])
 (.seq (.region [⟨(some 8),(.p (.mov (.val (.nilslice)))),none⟩] [] [1,5,7,8,11,12,13])
 (.seq (.seq (.region [mv 17 1,lb 18 17,mi 19 0] [] [1,5,7,8,11,12,13,17,18,19])
 (.block 2 (.loop (.seq (.region [bt 20 .lss 19 18] [] [1,5,7,8,11,12,13,17,18,19,20])
 (.seq (.cond (.tmp 20) (.skip)
 (.exit 2))
 (.seq (.block 3 (.seq (.region [ix 21 1 17 19,l1 22 21,mv 10 22] [] [1,5,7,8,10,11,12,13,17,18,19])
 (.region [mv 23 8,mv 24 7,mv 25 10,⟨(some 26),(.e (.call (F 3) [(.tmp 24),(.tmp 25)])),none⟩,⟨(some 27),(.a (.bslice [.bool false,.int .i64 (.ofNat 0),.int .i64 (.ofNat 0),.nilslice] 4 1 [(0,4,(.tmp 26))])),none⟩,⟨(some 28),(.e (.append 4 48 (.tmp 23) (.tmp 27))),none⟩,mv 8 28] [27] [1,5,7,8,11,12,13,17,18,19])))
 (.region [bi 29 .add 19 1,mv 19 29] [] [1,5,7,8,11,12,13,17,18,19])))))))
 (.region [mv 30 5,mv 31 8,⟨(some 32),(.a (.bslice [.nilslice] 1 1 [(0,1,(.tmp 31))])),none⟩,⟨(some 33),(.e (.append 1 24 (.tmp 30) (.tmp 32))),none⟩,mv 5 33] [32] [1,5,11,12,13])))))
 (.region [bi 34 .add 13 1,mv 13 34] [] [1,5,11,12,13])))))))
 (.seq (.region [mv 35 5,⟨(some 36),(.e (.call (F 33) [(.tmp 35)])),none⟩,mv 4 36] [] [4])
 (.ret))))
def M34 (F : Nat → Nat) : Fun := ⟨37,2,(K34 F).erase,[.tmp 4]⟩
abbrev K35 (F : Nat → Nat) : KC := .seq (.region [⟨(some 4),(.p (.mov (.val (.nilslice)))),none⟩,⟨(some 5),(.p (.mov (.val (.bool false)))),none⟩] [] [0,1])
 (.seq (.region [mv 12 0,⟨(some 13),(.e (.call (F 4) [(.tmp 12)])),none⟩,mv 6 13] [] [1,6])
 (.seq (.seq (.region [mv 14 1,lb 15 14,mi 16 0] [] [6,14,15,16])
 (.block 0 (.loop (.seq (.region [bt 17 .lss 16 15] [] [6,14,15,16,17])
 (.seq (.cond (.tmp 17) (.skip)
 (.exit 0))
 (.seq (.block 1 (.seq (.region [ix 18 6 14 16,ln 19 6 18,⟨(some 8),(.a (.new [.int .i64 (.ofNat 0),.bool false,.bool false,.int .i64 (.ofNat 0),.int .i64 (.ofNat 0),.nilslice])),none⟩,⟨none,(.e (.store 6 (.tmp 8) (.tmp 19))),none⟩] [] [6,8,14,15,16])
 (.seq (.seq (.region [fa 20 0 8,l1 21 20,bi 22 .lss 21 0,mv 23 22,⟨(some 24),(.p (.faddr 0 (.tmp 8))),(some (23,false))⟩,⟨(some 25),(.load1 (.tmp 24)),(some (23,false))⟩,⟨(some 26),(.p (.mov (.tmp 6))),(some (23,false))⟩,⟨(some 27),(.p (.lenb (.tmp 26))),(some (23,false))⟩,⟨(some 28),(.p (.bin .geq (.tmp 25) (.tmp 27))),(some (23,false))⟩,⟨(some 29),(.p (.pick (.tmp 23) (.val (.bool true)) (.tmp 28))),none⟩] [] [6,8,14,15,16,29])
 (.cond (.tmp 29) (.exit 1)
 (.skip)))
 (.seq (.region [mv 30 6,fa 31 0 8,l1 32 31,ix 33 4 30 32,mv 9 33] [] [6,8,9,14,15,16])
 (.block 2 (.seq (.region [fa 35 1 8,l1 36 35,⟨(some 37),(.p (.not (.tmp 36))),none⟩,mv 34 37] [] [6,8,9,14,15,16,34])
 (.cond (.tmp 34) (.region [mv 38 9,fa 39 2 8,ln 40 4 39,⟨(some 41),(.e (.call (F 5) [(.tmp 40)])),none⟩,⟨(some 42),(.p (.nilchk (.tmp 38))),none⟩,⟨none,(.e (.store 4 (.tmp 42) (.tmp 41))),none⟩] [] [6,14,15,16])
 (.seq (.region [mv 44 9,⟨(some 45),(.p (.nilchk (.tmp 44))),none⟩,fa 46 0 45,l1 47 46,⟨(some 48),(.p (.not (.tmp 47))),none⟩,mv 43 48] [] [6,8,9,14,15,16,43])
 (.cond (.tmp 43) (.seq (.dregion [⟨mv 50 9,0,7⟩,⟨⟨(some 51),(.p (.nilchk (.tmp 50))),none⟩,0,7⟩,⟨fa 52 2 51,0,7⟩,⟨l1 53 52,0,7⟩,⟨fa 54 2 8,0,7⟩,⟨fa 55 2 54,0,7⟩,⟨l1 56 55,0,7⟩,⟨⟨(some 57),(.e (.call (F 40) [(.tmp 53),(.tmp 56)])),none⟩,0,13⟩,⟨mv 49 57,8,13⟩,⟨et 58 49 0,8,13⟩,⟨et 59 49 1,8,13⟩,⟨mv 10 58,8,13⟩,⟨mv 11 59,8,13⟩] [6,9,10,11,14,15,16])
 (.seq (.seq (.region [mv 60 11,⟨(some 61),(.p (.not (.tmp 60))),none⟩] [] [6,9,10,14,15,16,61])
 (.cond (.tmp 61) (.seq (.region [⟨(some 4),(.p (.mov (.val (.nilslice)))),none⟩,⟨(some 5),(.p (.mov (.val (.bool false)))),none⟩] [] [4,5])
 (.ret))
 (.skip)))
 (.region [mv 62 9,mv 63 10,⟨(some 64),(.p (.nilchk (.tmp 62))),none⟩,fa 65 2 64,⟨none,(.e (.store 1 (.tmp 65) (.tmp 63))),none⟩] [] [6,14,15,16])))
 (.skip))))))))))
 (.region [bi 66 .add 16 1,mv 16 66] [] [6,14,15,16])))))))
 (.seq (.region [mv 67 6,mv 4 67,⟨(some 5),(.p (.mov (.val (.bool true)))),none⟩] [] [4,5])
 (.ret))))
def M35 (F : Nat → Nat) : Fun := ⟨68,2,(K35 F).erase,[.tmp 4,.tmp 5]⟩
abbrev K36 (F : Nat → Nat) : KC := .seq (.region [⟨(some 6),(.p (.mov (.val (.nilslice)))),none⟩,⟨(some 7),(.p (.mov (.val (.bool false)))),none⟩] [] [0,1,2])
 (.seq (.region [mv 13 0,mv 8 13] [] [1,2,8])
 (.seq (.seq (.region [mv 14 2,lb 15 14,mi 16 0] [] [1,8,14,15,16])
 (.block 0 (.loop (.seq (.region [bt 17 .lss 16 15] [] [1,8,14,15,16,17])
 (.seq (.cond (.tmp 17) (.skip)
 (.exit 0))
 (.seq (.block 1 (.seq (.region [ix 18 2 14 16,ln 19 2 18,⟨(some 10),(.a (.new [.int .i64 (.ofNat 0),.int .i64 (.ofNat 0)])),none⟩,⟨none,(.e (.store 2 (.tmp 10) (.tmp 19))),none⟩] [] [1,8,10,14,15,16])
 (.seq (.region [mv 21 1,ln 22 2 10,⟨(some 23),(.e (.call (F 41) [(.tmp 21),(.tmp 22)])),none⟩,mv 20 23,et 24 20 0,et 25 20 1,⟨(some 11),(.a (.new [.bool false,.int .i64 (.ofNat 0),.int .i64 (.ofNat 0),.nilslice])),none⟩,⟨none,(.e (.store 4 (.tmp 11) (.tmp 24))),none⟩,mv 12 25] [] [1,8,11,12,14,15,16])
 (.seq (.seq (.region [mv 26 12,⟨(some 27),(.p (.not (.tmp 26))),none⟩] [] [1,8,11,14,15,16,27])
 (.cond (.tmp 27) (.seq (.region [⟨(some 6),(.p (.mov (.val (.nilslice)))),none⟩,⟨(some 7),(.p (.mov (.val (.bool false)))),none⟩] [] [6,7])
 (.ret))
 (.skip)))
 (.region [mv 28 8,ln 29 4 11,⟨(some 30),(.a (.bslice [.bool false,.int .i64 (.ofNat 0),.int .i64 (.ofNat 0),.nilslice] 4 1 [(0,4,(.tmp 29))])),none⟩,⟨(some 31),(.e (.append 4 48 (.tmp 28) (.tmp 30))),none⟩,mv 8 31] [30] [1,8,14,15,16])))))
 (.region [bi 32 .add 16 1,mv 16 32] [] [1,8,14,15,16])))))))
 (.seq (.region [mv 33 8,⟨(some 34),(.e (.call (F 13) [(.tmp 33)])),none⟩,mv 6 34,⟨(some 7),(.p (.mov (.val (.bool true)))),none⟩] [] [6,7])
 (.ret))))
def M36 (F : Nat → Nat) : Fun := ⟨35,3,(K36 F).erase,[.tmp 6,.tmp 7]⟩
abbrev K37 (F : Nat → Nat) : KC := .seq (.region [⟨(some 2),(.p (.mov (.val (.nilslice)))),none⟩] [] [0])
 (.seq (.region [⟨(some 3),(.p (.mov (.val (.nilslice)))),none⟩] [] [0,3])
 (.seq (.seq (.region [mv 6 0,lb 7 6,mi 8 0] [] [3,6,7,8])
 (.block 0 (.loop (.seq (.region [bt 9 .lss 8 7] [] [3,6,7,8,9])
 (.seq (.cond (.tmp 9) (.skip)
 (.exit 0))
 (.seq (.block 1 (.seq (.region [ix 10 1 6 8,l1 11 10,mv 5 11] [] [3,5,6,7,8])
 (.region [mv 12 3,mv 13 5,⟨(some 14),(.e (.call (F 4) [(.tmp 13)])),none⟩,⟨(some 15),(.a (.bslice [.nilslice] 1 1 [(0,1,(.tmp 14))])),none⟩,⟨(some 16),(.e (.append 1 24 (.tmp 12) (.tmp 15))),none⟩,mv 3 16] [15] [3,6,7,8])))
 (.region [bi 17 .add 8 1,mv 8 17] [] [3,6,7,8])))))))
 (.seq (.region [mv 18 3,⟨(some 19),(.e (.call (F 39) [(.tmp 18)])),none⟩,mv 2 19] [] [2])
 (.ret))))
def M37 (F : Nat → Nat) : Fun := ⟨20,1,(K37 F).erase,[.tmp 2]⟩
abbrev K38 (F : Nat → Nat) : KC := .seq (.region [mi 5 0] [] [0,1,2])
 (.seq (.dregion [⟨mv 6 0,0,2⟩,⟨l1 7 2,0,2⟩,⟨⟨(some 8),(.e (.call (F 3) [(.tmp 6),(.tmp 7)])),none⟩,0,5⟩,⟨mv 9 1,0,5⟩,⟨l1 10 2,0,5⟩,⟨⟨(some 11),(.e (.call (F 3) [(.tmp 9),(.tmp 10)])),none⟩,3,6⟩,⟨⟨(some 12),(.e (.call (F 1) [(.tmp 8),(.tmp 11)])),none⟩,6,8⟩,⟨mv 5 12,7,8⟩] [5])
 (.ret))
def M38 (F : Nat → Nat) : Fun := ⟨13,3,(K38 F).erase,[.tmp 5]⟩
abbrev K39 (_F : Nat → Nat) : KC := .seq (.region [⟨(some 2),(.p (.mov (.val (.nilslice)))),none⟩] [] [0])
 (.seq (.region [mv 3 0,mv 4 0,lb 5 4,mv 6 0,lb 7 6,⟨(some 8),(.p (.slc 1 (.tmp 3) none (some (.tmp 5)) (some (.tmp 7)))),none⟩,mv 2 8] [] [2])
 (.ret))
def M39 (F : Nat → Nat) : Fun := ⟨9,1,(K39 F).erase,[.tmp 2]⟩
abbrev K40 (F : Nat → Nat) : KC := .seq (.region [mi 4 0,⟨(some 5),(.p (.mov (.val (.bool false)))),none⟩] [] [0,1])
 (.seq (.region [⟨(some 6),(.a (.new [.int .i64 (.ofNat 0),.int .u64 (.ofNat 0)])),none⟩] [] [0,1,6])
 (.seq (.region [mv 7 0,⟨(some 8),(.e (.call (F 42) [(.tmp 6),(.tmp 7)])),none⟩] [] [1,6])
 (.seq (.region [mv 9 1,⟨(some 10),(.e (.call (F 42) [(.tmp 6),(.tmp 9)])),none⟩] [] [6])
 (.seq (.dregion [⟨fa 11 1 6,0,12⟩,⟨l1 12 11,0,12⟩,⟨⟨(some 13),(.p (.conv (.int .i64) (.tmp 12))),none⟩,0,12⟩,⟨fa 14 0 6,0,12⟩,⟨l1 15 14,0,12⟩,⟨fa 16 1 6,0,12⟩,⟨l1 17 16,0,12⟩,⟨⟨(some 18),(.p (.conv (.int .i64) (.tmp 17))),none⟩,0,12⟩,⟨⟨(some 19),(.p (.bin .shr (.tmp 18) (.val (.int .u64 (.ofNat 63))))),none⟩,0,12⟩,⟨bt 20 .eql 15 19,0,12⟩,⟨mv 4 13,0,12⟩,⟨mv 5 20,0,12⟩] [4,5])
 (.ret)))))
def M40 (F : Nat → Nat) : Fun := ⟨21,2,(K40 F).erase,[.tmp 4,.tmp 5]⟩
abbrev K41 (F : Nat → Nat) : KC := .seq (.region [⟨(some 3),(.a (.box (.tmp 1))),none⟩,⟨(some 4),(.a (.new [.bool false,.int .i64 (.ofNat 0),.int .i64 (.ofNat 0),.nilslice])),none⟩,⟨(some 5),(.p (.mov (.val (.bool false)))),none⟩] [3] [0,3,4])
 (.seq (.seq (.region [fa 6 0 3,l1 7 6] [] [0,3,4,7])
 (.block 0 (.seq (.region [bi 9 .eql 7 1,mv 8 9] [] [0,3,4,7,8])
 (.cond (.tmp 8) (.seq (.region [mv 10 0,lb 11 10,⟨(some 12),(.p (.build [.bool false,.int .i64 (.ofNat 0),.int .i64 (.ofNat 0),.nilslice] [(1,1,(.val (.int .i64 (.ofNat 1)))),(2,1,(.tmp 11))])),none⟩,⟨none,(.e (.store 4 (.tmp 4) (.tmp 12))),none⟩,⟨(some 5),(.p (.mov (.val (.bool true)))),none⟩] [] [4,5])
 (.ret))
 (.seq (.region [bi 14 .eql 7 2,mv 13 14] [] [0,3,4,7,13])
 (.cond (.tmp 13) (.seq (.region [mv 15 0,fa 16 1 3,l1 17 16,⟨(some 18),(.e (.call (F 43) [(.tmp 15),(.tmp 17)])),none⟩,et 19 18 0,et 20 18 1,⟨none,(.e (.store 4 (.tmp 4) (.tmp 19))),none⟩,mv 5 20] [] [4,5])
 (.ret))
 (.seq (.region [bi 22 .eql 7 3,mv 21 22] [] [0,3,4,21])
 (.cond (.tmp 21) (.seq (.region [mv 23 0,fa 24 1 3,l1 25 24,⟨(some 26),(.e (.call (F 44) [(.tmp 23),(.tmp 25),(.val (.int .i64 (.negSucc 0)))])),none⟩,⟨none,(.e (.store 4 (.tmp 4) (.tmp 26))),none⟩,⟨(some 5),(.p (.mov (.val (.bool true)))),none⟩] [] [4,5])
 (.ret))
 (.skip)))))))))
 (.seq (.region [mv 27 0,fa 28 1 3,l1 29 28,⟨(some 30),(.e (.call (F 44) [(.tmp 27),(.tmp 29),(.val (.int .i64 (.ofNat 1)))])),none⟩,⟨none,(.e (.store 4 (.tmp 4) (.tmp 30))),none⟩,⟨(some 5),(.p (.mov (.val (.bool true)))),none⟩] [] [4,5])
 (.ret)))
def M41 (F : Nat → Nat) : Fun := ⟨31,2,(K41 F).erase,[.celln 4 4,.tmp 5]⟩
abbrev K42 (F : Nat → Nat) : KC := .seq (.region [mv 7 0,⟨(some 8),(.p (.nilchk (.tmp 7))),none⟩,fa 9 1 8,l1 10 9,mv 11 1,⟨(some 12),(.p (.conv (.int .u64) (.tmp 11))),none⟩,⟨(some 13),(.e (.extern (F 45) [(.tmp 10),(.tmp 12),(.val (.int .u64 (.ofNat 0)))])),none⟩,mv 6 13,et 14 6 0,et 15 6 1,mv 4 14,mv 5 15] [] [0,1,4,5])
 (.seq (.region [mv 16 0,mv 17 4,⟨(some 18),(.p (.nilchk (.tmp 16))),none⟩,fa 19 1 18,⟨none,(.e (.store 1 (.tmp 19) (.tmp 17))),none⟩] [] [0,1,5])
 (.region [mv 20 0,⟨(some 21),(.p (.nilchk (.tmp 20))),none⟩,fa 22 0 21,l1 23 22,mv 24 1,⟨(some 25),(.p (.bin .shr (.tmp 24) (.val (.int .u64 (.ofNat 63))))),none⟩,mv 26 5,⟨(some 27),(.p (.conv (.int .i64) (.tmp 26))),none⟩,bt 28 .add 25 27,bt 29 .add 23 28,⟨(some 30),(.p (.nilchk (.tmp 20))),none⟩,fa 31 0 30,⟨none,(.e (.store 1 (.tmp 31) (.tmp 29))),none⟩] [] []))
def M42 (F : Nat → Nat) : Fun := ⟨32,2,(K42 F).erase,[]⟩
abbrev K43 (F : Nat → Nat) : KC := .seq (.region [⟨(some 4),(.a (.new [.bool false,.int .i64 (.ofNat 0),.int .i64 (.ofNat 0),.nilslice])),none⟩,⟨(some 5),(.p (.mov (.val (.bool false)))),none⟩] [] [0,1,4])
 (.seq (.region [⟨(some 6),(.a (.new [.int .i64 (.ofNat 0),.int .u64 (.ofNat 0)])),none⟩] [] [0,1,4,6])
 (.seq (.seq (.region [mv 10 0,lb 11 10,mi 12 0] [] [1,4,6,10,11,12])
 (.block 0 (.loop (.seq (.region [bt 13 .lss 12 11] [] [1,4,6,10,11,12,13])
 (.seq (.cond (.tmp 13) (.skip)
 (.exit 0))
 (.seq (.block 1 (.seq (.region [ix 14 1 10 12,l1 15 14,mv 8 15] [] [1,4,6,8,10,11,12])
 (.seq (.region [mv 16 8,mv 17 1,⟨(some 18),(.e (.call (F 3) [(.tmp 16),(.tmp 17)])),none⟩,⟨(some 9),(.a (.new [.bool false,.int .i64 (.ofNat 0),.int .i64 (.ofNat 0),.nilslice])),none⟩,⟨none,(.e (.store 4 (.tmp 9) (.tmp 18))),none⟩] [] [1,4,6,9,10,11,12])
 (.seq (.region [fa 19 0 9,l1 20 19,⟨(some 21),(.p (.not (.tmp 20))),none⟩] [] [1,4,6,9,10,11,12,21])
 (.cond (.tmp 21) (.region [fa 22 2 9,l1 23 22,⟨(some 24),(.e (.call (F 42) [(.tmp 6),(.tmp 23)])),none⟩] [] [1,4,6,10,11,12])
 (.skip))))))
 (.region [bi 25 .add 12 1,mv 12 25] [] [1,4,6,10,11,12])))))))
 (.seq (.seq (.region [fa 26 0 6,l1 27 26,fa 28 1 6,l1 29 28,⟨(some 30),(.p (.conv (.int .i64) (.tmp 29))),none⟩,⟨(some 31),(.p (.bin .shr (.tmp 30) (.val (.int .u64 (.ofNat 63))))),none⟩,bt 32 .neq 27 31] [] [4,6,32])
 (.cond (.tmp 32) (.seq (.region [⟨(some 33),(.p (.build [.bool false,.int .i64 (.ofNat 0),.int .i64 (.ofNat 0),.nilslice] [])),none⟩,⟨none,(.e (.store 4 (.tmp 4) (.tmp 33))),none⟩,⟨(some 5),(.p (.mov (.val (.bool false)))),none⟩] [] [4,5])
 (.ret))
 (.skip)))
 (.seq (.region [fa 34 1 6,l1 35 34,⟨(some 36),(.p (.conv (.int .i64) (.tmp 35))),none⟩,⟨(some 37),(.p (.build [.bool false,.int .i64 (.ofNat 0),.int .i64 (.ofNat 0),.nilslice] [(1,1,(.val (.int .i64 (.ofNat 1)))),(2,1,(.tmp 36))])),none⟩,⟨none,(.e (.store 4 (.tmp 4) (.tmp 37))),none⟩,⟨(some 5),(.p (.mov (.val (.bool true)))),none⟩] [] [4,5])
 (.ret)))))
def M43 (F : Nat → Nat) : Fun := ⟨38,2,(K43 F).erase,[.celln 4 4,.tmp 5]⟩
abbrev K44 (F : Nat → Nat) : KC := .seq (.region [⟨(some 6),(.a (.new [.bool false,.int .i64 (.ofNat 0),.int .i64 (.ofNat 0),.nilslice])),none⟩] [] [0,1,2,6])
 (.seq (.region [⟨(some 11),(.p (.build [.bool false,.int .i64 (.ofNat 0),.int .i64 (.ofNat 0),.nilslice] [(0,1,(.val (.bool true)))])),none⟩,⟨(some 7),(.a (.new [.bool false,.int .i64 (.ofNat 0),.int .i64 (.ofNat 0),.nilslice])),none⟩,⟨none,(.e (.store 4 (.tmp 7) (.tmp 11))),none⟩] [] [0,1,2,6,7])
 (.seq (.seq (.region [mv 12 0,lb 13 12,mi 14 0] [] [1,2,6,7,12,13,14])
 (.block 0 (.loop (.seq (.region [bt 15 .lss 14 13] [] [1,2,6,7,12,13,14,15])
 (.seq (.cond (.tmp 15) (.skip)
 (.exit 0))
 (.seq (.block 1 (.seq (.region [ix 16 1 12 14,l1 17 16,mv 9 17] [] [1,2,6,7,9,12,13,14])
 (.seq (.region [mv 18 9,mv 19 1,⟨(some 20),(.e (.call (F 3) [(.tmp 18),(.tmp 19)])),none⟩,⟨(some 10),(.a (.new [.bool false,.int .i64 (.ofNat 0),.int .i64 (.ofNat 0),.nilslice])),none⟩,⟨none,(.e (.store 4 (.tmp 10) (.tmp 20))),none⟩] [] [1,2,6,7,10,12,13,14])
 (.block 2 (.seq (.region [fa 22 0 10,l1 23 22,mv 21 23] [] [1,2,6,7,10,12,13,14,21])
 (.cond (.tmp 21) (.region [fa 24 1 10,l1 25 24,fa 26 1 7,⟨none,(.e (.store 1 (.tmp 26) (.tmp 25))),none⟩] [] [1,2,6,7,12,13,14])
 (.seq (.region [fa 28 0 7,l1 29 28,mv 30 29,⟨(some 31),(.loadn 4 (.tmp 10)),(some (30,false))⟩,⟨(some 32),(.loadn 4 (.tmp 7)),(some (30,false))⟩,⟨(some 33),(.e (.call (F 1) [(.tmp 31),(.tmp 32)])),(some (30,false))⟩,⟨(some 34),(.p (.mov (.tmp 2))),(some (30,false))⟩,⟨(some 35),(.p (.bin .mul (.tmp 33) (.tmp 34))),(some (30,false))⟩,⟨(some 36),(.p (.bin .gtr (.tmp 35) (.val (.int .i64 (.ofNat 0))))),(some (30,false))⟩,⟨(some 37),(.p (.pick (.tmp 30) (.val (.bool true)) (.tmp 36))),none⟩,mv 27 37] [] [1,2,6,7,10,12,13,14,27])
 (.cond (.tmp 27) (.region [ln 38 4 10,⟨none,(.e (.store 4 (.tmp 7) (.tmp 38))),none⟩] [] [1,2,6,7,12,13,14])
 (.skip)))))))))
 (.region [bi 39 .add 14 1,mv 14 39] [] [1,2,6,7,12,13,14])))))))
 (.seq (.region [ln 40 4 7,⟨none,(.e (.store 4 (.tmp 6) (.tmp 40))),none⟩] [] [6])
 (.ret))))
def M44 (F : Nat → Nat) : Fun := ⟨41,3,(K44 F).erase,[.celln 4 6]⟩
end Go.Lib
end

section
namespace Go.Lib
open Go.Vm Go.Dv
set_option maxRecDepth 100000
abbrev K26 (F : Nat → Nat) : KC := .region [mv 4 0,mv 5 0,lb 6 5,mv 7 1,⟨(some 8),(.e (.call (F 27) [(.tmp 4),(.tmp 6),(.tmp 7)])),none⟩] [] []
def M26 (F : Nat → Nat) : Fun := ⟨9,2,(K26 F).erase,[]⟩
abbrev K27 (F : Nat → Nat) : KC := .seq (.region [mi 6 20] [] [0,1,2,6])
 (.seq (.region [mv 10 6,mi 7 0,mv 8 10] [] [0,1,2,6,7,8])
 (.seq (.block 0 (.loop (.seq (.seq (.region [mv 11 8,mv 12 1,bt 13 .leq 11 12] [] [0,1,2,6,7,8,13])
 (.cond (.tmp 13) (.skip)
 (.exit 0)))
 (.block 1 (.seq (.region [mv 14 0,mv 15 7,mv 16 8,mv 17 2,⟨(some 18),(.e (.call (F 28) [(.tmp 14),(.tmp 15),(.tmp 16),(.tmp 17)])),none⟩] [] [0,1,2,6,8])
 (.seq (.region [mv 19 8,mv 7 19] [] [0,1,2,6,7,8])
 (.region [mv 20 8,mv 21 6,bt 22 .add 20 21,mv 8 22] [] [0,1,2,6,7,8])))))))
 (.seq (.region [mv 23 0,mv 24 7,mv 25 1,mv 26 2,⟨(some 27),(.e (.call (F 28) [(.tmp 23),(.tmp 24),(.tmp 25),(.tmp 26)])),none⟩] [] [0,1,2,6])
 (.block 2 (.loop (.seq (.seq (.region [mv 28 6,mv 29 1,bt 30 .lss 28 29] [] [0,1,2,6,30])
 (.cond (.tmp 30) (.skip)
 (.exit 2)))
 (.block 3 (.seq (.region [mv 31 6,⟨(some 32),(.p (.bin .mul (.val (.int .i64 (.ofNat 2))) (.tmp 31))),none⟩,mi 7 0,mv 8 32] [] [0,1,2,6,7,8])
 (.seq (.block 4 (.loop (.seq (.seq (.region [mv 33 8,mv 34 1,bt 35 .leq 33 34] [] [0,1,2,6,7,8,35])
 (.cond (.tmp 35) (.skip)
 (.exit 4)))
 (.block 5 (.seq (.region [mv 36 0,mv 37 7,mv 38 7,mv 39 6,bt 40 .add 38 39,mv 41 8,mv 42 2,⟨(some 43),(.e (.call (F 29) [(.tmp 36),(.tmp 37),(.tmp 40),(.tmp 41),(.tmp 42)])),none⟩] [] [0,1,2,6,8])
 (.seq (.region [mv 44 8,mv 7 44] [] [0,1,2,6,7,8])
 (.region [mv 45 8,mv 46 6,⟨(some 47),(.p (.bin .mul (.val (.int .i64 (.ofNat 2))) (.tmp 46))),none⟩,bt 48 .add 45 47,mv 8 48] [] [0,1,2,6,7,8])))))))
 (.seq (.seq (.region [mv 49 7,mv 50 6,bt 51 .add 49 50,mv 9 51] [] [0,1,2,6,7,9])
 (.seq (.region [mv 52 9,mv 53 1,bt 54 .lss 52 53] [] [0,1,2,6,7,9,54])
 (.cond (.tmp 54) (.region [mv 55 0,mv 56 7,mv 57 9,mv 58 1,mv 59 2,⟨(some 60),(.e (.call (F 29) [(.tmp 55),(.tmp 56),(.tmp 57),(.tmp 58),(.tmp 59)])),none⟩] [] [0,1,2,6])
 (.skip))))
 (.region [mv 61 6,bi 62 .mul 61 2,mv 6 62] [] [0,1,2,6])))))))))))
def M27 (F : Nat → Nat) : Fun := ⟨63,3,(K27 F).erase,[]⟩
abbrev K28 (_F : Nat → Nat) : KC := .seq (.region [mv 10 1,bi 11 .add 10 1,mv 8 11] [] [0,1,2,3,8])
 (.block 0 (.loop (.seq (.seq (.region [mv 12 8,mv 13 2,bt 14 .lss 12 13] [] [0,1,2,3,8,14])
 (.cond (.tmp 14) (.skip)
 (.exit 0)))
 (.seq (.block 1 (.seq (.region [mv 17 8,mv 9 17] [] [0,1,2,3,8,9])
 (.block 2 (.loop (.seq (.seq (.dregion [⟨mv 18 9,0,14⟩,⟨mv 19 1,0,14⟩,⟨bt 20 .gtr 18 19,0,14⟩,⟨mv 21 20,0,14⟩,⟨⟨(some 22),(.p (.mov (.tmp 3))),(some (21,true))⟩,0,14⟩,⟨⟨(some 23),(.p (.mov (.tmp 0))),(some (21,true))⟩,0,14⟩,⟨⟨(some 24),(.p (.mov (.tmp 9))),(some (21,true))⟩,0,14⟩,⟨⟨(some 25),(.p (.iaddr 1 (.tmp 23) (.tmp 24))),(some (21,true))⟩,0,14⟩,⟨⟨(some 26),(.load1 (.tmp 25)),(some (21,true))⟩,0,14⟩,⟨⟨(some 27),(.p (.mov (.tmp 0))),(some (21,true))⟩,0,14⟩,⟨⟨(some 28),(.p (.mov (.tmp 9))),(some (21,true))⟩,0,14⟩,⟨⟨(some 29),(.p (.bin .sub (.tmp 28) (.val (.int .i64 (.ofNat 1))))),(some (21,true))⟩,0,14⟩,⟨⟨(some 30),(.p (.iaddr 1 (.tmp 27) (.tmp 29))),(some (21,true))⟩,0,14⟩,⟨⟨(some 31),(.load1 (.tmp 30)),(some (21,true))⟩,0,14⟩,⟨⟨(some 32),(.e (.callv (.tmp 22) [(.tmp 26),(.tmp 31)])),(some (21,true))⟩,0,17⟩,⟨⟨(some 33),(.p (.bin .lss (.tmp 32) (.val (.int .i64 (.ofNat 0))))),(some (21,true))⟩,15,17⟩,⟨⟨(some 34),(.p (.pick (.tmp 21) (.tmp 33) (.val (.bool false)))),none⟩,15,17⟩] [0,1,2,3,8,9,34])
 (.cond (.tmp 34) (.skip)
 (.exit 2)))
 (.seq (.block 3 (.dregion [⟨mv 37 0,0,12⟩,⟨mv 38 9,0,12⟩,⟨mv 42 0,0,12⟩,⟨mv 43 9,0,12⟩,⟨bi 44 .sub 43 1,0,12⟩,⟨ix 45 1 42 44,0,12⟩,⟨l1 46 45,0,12⟩,⟨mv 47 0,0,12⟩,⟨mv 48 9,0,12⟩,⟨ix 49 1 47 48,0,12⟩,⟨l1 50 49,0,12⟩,⟨ix 51 1 37 38,0,12⟩,⟨⟨none,(.e (.store 1 (.tmp 51) (.tmp 46))),none⟩,0,17⟩,⟨mv 39 0,0,17⟩,⟨mv 40 9,0,17⟩,⟨bi 41 .sub 40 1,0,17⟩,⟨ix 52 1 39 41,13,17⟩,⟨⟨none,(.e (.store 1 (.tmp 52) (.tmp 50))),none⟩,13,18⟩] [0,1,2,3,8,9]))
 (.region [mv 35 9,bi 36 .sub 35 1,mv 9 36] [] [0,1,2,3,8,9])))))))
 (.region [mv 15 8,bi 16 .add 15 1,mv 8 16] [] [0,1,2,3,8])))))
def M28 (F : Nat → Nat) : Fun := ⟨53,4,(K28 F).erase,[]⟩
abbrev K29 (F : Nat → Nat) : KC := .seq (.seq (.region [mv 25 2,mv 26 1,bt 27 .sub 25 26,bi 28 .eql 27 1] [] [0,1,2,3,4,28])
 (.cond (.tmp 28) (.seq (.region [mv 29 2,mv 10 29] [] [0,1,3,4,10])
 (.seq (.region [mv 30 3,mv 11 30] [] [0,1,4,10,11])
 (.seq (.block 0 (.loop (.seq (.seq (.region [mv 31 10,mv 32 11,bt 33 .lss 31 32] [] [0,1,4,10,11,33])
 (.cond (.tmp 33) (.skip)
 (.exit 0)))
 (.block 1 (.seq (.region [mv 34 10,mv 35 11,bt 36 .add 34 35,⟨(some 37),(.p (.conv (.int .u64) (.tmp 36))),none⟩,⟨(some 38),(.p (.bin .shr (.tmp 37) (.val (.int .u64 (.ofNat 1))))),none⟩,⟨(some 39),(.p (.conv (.int .i64) (.tmp 38))),none⟩,mv 12 39] [] [0,1,4,10,11,12])
 (.seq (.dregion [⟨mv 40 4,0,9⟩,⟨mv 41 0,0,9⟩,⟨mv 42 12,0,9⟩,⟨ix 43 1 41 42,0,9⟩,⟨l1 44 43,0,9⟩,⟨mv 45 0,0,9⟩,⟨mv 46 1,0,9⟩,⟨ix 47 1 45 46,0,9⟩,⟨l1 48 47,0,9⟩,⟨⟨(some 49),(.e (.callv (.tmp 40) [(.tmp 44),(.tmp 48)])),none⟩,0,11⟩,⟨bi 50 .lss 49 0,10,11⟩] [0,1,4,10,11,12,50])
 (.cond (.tmp 50) (.region [mv 51 12,bi 52 .add 51 1,mv 10 52] [] [0,1,4,10,11])
 (.region [mv 53 12,mv 11 53] [] [0,1,4,10,11]))))))))
 (.seq (.seq (.region [mv 54 1,mv 13 54] [] [0,10,13])
 (.block 2 (.loop (.seq (.seq (.region [mv 55 13,mv 56 10,bi 57 .sub 56 1,bt 58 .lss 55 57] [] [0,10,13,58])
 (.cond (.tmp 58) (.skip)
 (.exit 2)))
 (.seq (.block 3 (.dregion [⟨mv 61 0,0,12⟩,⟨mv 62 13,0,12⟩,⟨mv 66 0,0,12⟩,⟨mv 67 13,0,12⟩,⟨bi 68 .add 67 1,0,12⟩,⟨ix 69 1 66 68,0,12⟩,⟨l1 70 69,0,12⟩,⟨mv 71 0,0,12⟩,⟨mv 72 13,0,12⟩,⟨ix 73 1 71 72,0,12⟩,⟨l1 74 73,0,12⟩,⟨ix 75 1 61 62,0,12⟩,⟨⟨none,(.e (.store 1 (.tmp 75) (.tmp 70))),none⟩,0,17⟩,⟨mv 63 0,0,17⟩,⟨mv 64 13,0,17⟩,⟨bi 65 .add 64 1,0,17⟩,⟨ix 76 1 63 65,13,17⟩,⟨⟨none,(.e (.store 1 (.tmp 76) (.tmp 74))),none⟩,13,18⟩] [0,10,13]))
 (.region [mv 59 13,bi 60 .add 59 1,mv 13 60] [] [0,10,13]))))))
 (.ret)))))
 (.skip)))
 (.seq (.seq (.region [mv 77 3,mv 78 2,bt 79 .sub 77 78,bi 80 .eql 79 1] [] [0,1,2,3,4,80])
 (.cond (.tmp 80) (.seq (.region [mv 81 1,mv 14 81] [] [0,2,4,14])
 (.seq (.region [mv 82 2,mv 15 82] [] [0,2,4,14,15])
 (.seq (.block 4 (.loop (.seq (.seq (.region [mv 83 14,mv 84 15,bt 85 .lss 83 84] [] [0,2,4,14,15,85])
 (.cond (.tmp 85) (.skip)
 (.exit 4)))
 (.block 5 (.seq (.region [mv 86 14,mv 87 15,bt 88 .add 86 87,⟨(some 89),(.p (.conv (.int .u64) (.tmp 88))),none⟩,⟨(some 90),(.p (.bin .shr (.tmp 89) (.val (.int .u64 (.ofNat 1))))),none⟩,⟨(some 91),(.p (.conv (.int .i64) (.tmp 90))),none⟩,mv 16 91] [] [0,2,4,14,15,16])
 (.seq (.dregion [⟨mv 92 4,0,9⟩,⟨mv 93 0,0,9⟩,⟨mv 94 2,0,9⟩,⟨ix 95 1 93 94,0,9⟩,⟨l1 96 95,0,9⟩,⟨mv 97 0,0,9⟩,⟨mv 98 16,0,9⟩,⟨ix 99 1 97 98,0,9⟩,⟨l1 100 99,0,9⟩,⟨⟨(some 101),(.e (.callv (.tmp 92) [(.tmp 96),(.tmp 100)])),none⟩,0,12⟩,⟨bi 102 .lss 101 0,10,12⟩,⟨⟨(some 103),(.p (.not (.tmp 102))),none⟩,10,12⟩] [0,2,4,14,15,16,103])
 (.cond (.tmp 103) (.region [mv 104 16,bi 105 .add 104 1,mv 14 105] [] [0,2,4,14,15])
 (.region [mv 106 16,mv 15 106] [] [0,2,4,14,15]))))))))
 (.seq (.seq (.region [mv 107 2,mv 17 107] [] [0,14,17])
 (.block 6 (.loop (.seq (.seq (.region [mv 108 17,mv 109 14,bt 110 .gtr 108 109] [] [0,14,17,110])
 (.cond (.tmp 110) (.skip)
 (.exit 6)))
 (.seq (.block 7 (.dregion [⟨mv 113 0,0,12⟩,⟨mv 114 17,0,12⟩,⟨mv 118 0,0,12⟩,⟨mv 119 17,0,12⟩,⟨bi 120 .sub 119 1,0,12⟩,⟨ix 121 1 118 120,0,12⟩,⟨l1 122 121,0,12⟩,⟨mv 123 0,0,12⟩,⟨mv 124 17,0,12⟩,⟨ix 125 1 123 124,0,12⟩,⟨l1 126 125,0,12⟩,⟨ix 127 1 113 114,0,12⟩,⟨⟨none,(.e (.store 1 (.tmp 127) (.tmp 122))),none⟩,0,17⟩,⟨mv 115 0,0,17⟩,⟨mv 116 17,0,17⟩,⟨bi 117 .sub 116 1,0,17⟩,⟨ix 128 1 115 117,13,17⟩,⟨⟨none,(.e (.store 1 (.tmp 128) (.tmp 126))),none⟩,13,18⟩] [0,14,17]))
 (.region [mv 111 17,bi 112 .sub 111 1,mv 17 112] [] [0,14,17]))))))
 (.ret)))))
 (.skip)))
 (.seq (.region [mv 129 1,mv 130 3,bt 131 .add 129 130,⟨(some 132),(.p (.conv (.int .u64) (.tmp 131))),none⟩,⟨(some 133),(.p (.bin .shr (.tmp 132) (.val (.int .u64 (.ofNat 1))))),none⟩,⟨(some 134),(.p (.conv (.int .i64) (.tmp 133))),none⟩,mv 18 134] [] [0,1,2,3,4,18])
 (.seq (.region [mv 135 18,mv 136 2,bt 137 .add 135 136,mv 19 137] [] [0,1,2,3,4,18,19])
 (.seq (.region [mi 20 0,mi 21 0] [] [0,1,2,3,4,18,19])
 (.seq (.seq (.region [mv 138 2,mv 139 18,bt 140 .gtr 138 139] [] [0,1,2,3,4,18,19,140])
 (.cond (.tmp 140) (.seq (.region [mv 141 19,mv 142 3,bt 143 .sub 141 142,mv 20 143] [] [0,1,2,3,4,18,19,20])
 (.region [mv 144 18,mv 21 144] [] [0,1,2,3,4,18,19,20,21]))
 (.seq (.region [mv 145 1,mv 20 145] [] [0,1,2,3,4,18,19,20])
 (.region [mv 146 2,mv 21 146] [] [0,1,2,3,4,18,19,20,21]))))
 (.seq (.region [mv 147 19,bi 148 .sub 147 1,mv 22 148] [] [0,1,2,3,4,18,19,20,21,22])
 (.seq (.block 8 (.loop (.seq (.seq (.region [mv 149 20,mv 150 21,bt 151 .lss 149 150] [] [0,1,2,3,4,18,19,20,21,22,151])
 (.cond (.tmp 151) (.skip)
 (.exit 8)))
 (.block 9 (.seq (.region [mv 152 20,mv 153 21,bt 154 .add 152 153,⟨(some 155),(.p (.conv (.int .u64) (.tmp 154))),none⟩,⟨(some 156),(.p (.bin .shr (.tmp 155) (.val (.int .u64 (.ofNat 1))))),none⟩,⟨(some 157),(.p (.conv (.int .i64) (.tmp 156))),none⟩,mv 23 157] [] [0,1,2,3,4,18,19,20,21,22,23])
 (.seq (.dregion [⟨mv 158 4,0,11⟩,⟨mv 159 0,0,11⟩,⟨mv 160 22,0,11⟩,⟨mv 161 23,0,11⟩,⟨bt 162 .sub 160 161,0,11⟩,⟨ix 163 1 159 162,0,11⟩,⟨l1 164 163,0,11⟩,⟨mv 165 0,0,11⟩,⟨mv 166 23,0,11⟩,⟨ix 167 1 165 166,0,11⟩,⟨l1 168 167,0,11⟩,⟨⟨(some 169),(.e (.callv (.tmp 158) [(.tmp 164),(.tmp 168)])),none⟩,0,14⟩,⟨bi 170 .lss 169 0,12,14⟩,⟨⟨(some 171),(.p (.not (.tmp 170))),none⟩,12,14⟩] [0,1,2,3,4,18,19,20,21,22,23,171])
 (.cond (.tmp 171) (.region [mv 172 23,bi 173 .add 172 1,mv 20 173] [] [0,1,2,3,4,18,19,20,21,22])
 (.region [mv 174 23,mv 21 174] [] [0,1,2,3,4,18,19,20,21,22]))))))))
 (.seq (.region [mv 175 19,mv 176 20,bt 177 .sub 175 176,mv 24 177] [] [0,1,2,3,4,18,20,24])
 (.seq (.seq (.region [mv 178 20,mv 179 2,bt 180 .lss 178 179,mv 181 180,⟨(some 182),(.p (.mov (.tmp 2))),(some (181,true))⟩,⟨(some 183),(.p (.mov (.tmp 24))),(some (181,true))⟩,⟨(some 184),(.p (.bin .lss (.tmp 182) (.tmp 183))),(some (181,true))⟩,⟨(some 185),(.p (.pick (.tmp 181) (.tmp 184) (.val (.bool false)))),none⟩] [] [0,1,2,3,4,18,20,24,185])
 (.cond (.tmp 185) (.region [mv 186 0,mv 187 20,mv 188 2,mv 189 24,mv 190 4,⟨(some 191),(.e (.call (F 30) [(.tmp 186),(.tmp 187),(.tmp 188),(.tmp 189),(.tmp 190)])),none⟩] [] [0,1,3,4,18,20,24])
 (.skip)))
 (.seq (.seq (.region [mv 192 1,mv 193 20,bt 194 .lss 192 193,mv 195 194,⟨(some 196),(.p (.mov (.tmp 20))),(some (195,true))⟩,⟨(some 197),(.p (.mov (.tmp 18))),(some (195,true))⟩,⟨(some 198),(.p (.bin .lss (.tmp 196) (.tmp 197))),(some (195,true))⟩,⟨(some 199),(.p (.pick (.tmp 195) (.tmp 198) (.val (.bool false)))),none⟩] [] [0,1,3,4,18,20,24,199])
 (.cond (.tmp 199) (.region [mv 200 0,mv 201 1,mv 202 20,mv 203 18,mv 204 4,⟨(some 205),(.e (.call (F 29) [(.tmp 200),(.tmp 201),(.tmp 202),(.tmp 203),(.tmp 204)])),none⟩] [] [0,3,4,18,24])
 (.skip)))
 (.seq (.region [mv 206 18,mv 207 24,bt 208 .lss 206 207,mv 209 208,⟨(some 210),(.p (.mov (.tmp 24))),(some (209,true))⟩,⟨(some 211),(.p (.mov (.tmp 3))),(some (209,true))⟩,⟨(some 212),(.p (.bin .lss (.tmp 210) (.tmp 211))),(some (209,true))⟩,⟨(some 213),(.p (.pick (.tmp 209) (.tmp 212) (.val (.bool false)))),none⟩] [] [0,3,4,18,24,213])
 (.cond (.tmp 213) (.region [mv 214 0,mv 215 18,mv 216 24,mv 217 3,mv 218 4,⟨(some 219),(.e (.call (F 29) [(.tmp 214),(.tmp 215),(.tmp 216),(.tmp 217),(.tmp 218)])),none⟩] [] [])
 (.skip)))))))))))))
def M29 (F : Nat → Nat) : Fun := ⟨220,5,(K29 F).erase,[]⟩
abbrev K30 (F : Nat → Nat) : KC := .seq (.region [mv 12 2,mv 13 1,bt 14 .sub 12 13,mv 10 14] [] [0,2,3,4,10])
 (.seq (.region [mv 15 3,mv 16 2,bt 17 .sub 15 16,mv 11 17] [] [0,2,4,10,11])
 (.seq (.block 0 (.loop (.seq (.seq (.region [mv 18 10,mv 19 11,bt 20 .neq 18 19] [] [0,2,4,10,11,20])
 (.cond (.tmp 20) (.skip)
 (.exit 0)))
 (.block 1 (.seq (.region [mv 21 10,mv 22 11,bt 23 .gtr 21 22] [] [0,2,4,10,11,23])
 (.cond (.tmp 23) (.seq (.region [mv 24 0,mv 25 2,mv 26 10,bt 27 .sub 25 26,mv 28 2,mv 29 11,mv 30 4,⟨(some 31),(.e (.call (F 31) [(.tmp 24),(.tmp 27),(.tmp 28),(.tmp 29),(.tmp 30)])),none⟩] [] [0,2,4,10,11])
 (.region [mv 32 10,mv 33 11,bt 34 .sub 32 33,mv 10 34] [] [0,2,4,10,11]))
 (.seq (.region [mv 35 0,mv 36 2,mv 37 10,bt 38 .sub 36 37,mv 39 2,mv 40 11,bt 41 .add 39 40,mv 42 10,bt 43 .sub 41 42,mv 44 10,mv 45 4,⟨(some 46),(.e (.call (F 31) [(.tmp 35),(.tmp 38),(.tmp 43),(.tmp 44),(.tmp 45)])),none⟩] [] [0,2,4,10,11])
 (.region [mv 47 11,mv 48 10,bt 49 .sub 47 48,mv 11 49] [] [0,2,4,10,11]))))))))
 (.region [mv 50 0,mv 51 2,mv 52 10,bt 53 .sub 51 52,mv 54 2,mv 55 10,mv 56 4,⟨(some 57),(.e (.call (F 31) [(.tmp 50),(.tmp 53),(.tmp 54),(.tmp 55),(.tmp 56)])),none⟩] [] [])))
def M30 (F : Nat → Nat) : Fun := ⟨58,5,(K30 F).erase,[]⟩
abbrev K31 (_F : Nat → Nat) : KC := .seq (.region [mi 10 0] [] [0,1,2,3,10])
 (.block 0 (.loop (.seq (.seq (.region [mv 11 10,mv 12 3,bt 13 .lss 11 12] [] [0,1,2,3,10,13])
 (.cond (.tmp 13) (.skip)
 (.exit 0)))
 (.seq (.block 1 (.dregion [⟨mv 16 0,0,17⟩,⟨mv 17 1,0,17⟩,⟨mv 18 10,0,17⟩,⟨bt 19 .add 17 18,0,17⟩,⟨mv 24 0,0,17⟩,⟨mv 25 2,0,17⟩,⟨mv 26 10,0,17⟩,⟨bt 27 .add 25 26,0,17⟩,⟨ix 28 1 24 27,0,17⟩,⟨l1 29 28,0,17⟩,⟨mv 30 0,0,17⟩,⟨mv 31 1,0,17⟩,⟨mv 32 10,0,17⟩,⟨bt 33 .add 31 32,0,17⟩,⟨ix 34 1 30 33,0,17⟩,⟨l1 35 34,0,17⟩,⟨ix 36 1 16 19,0,17⟩,⟨⟨none,(.e (.store 1 (.tmp 36) (.tmp 29))),none⟩,0,23⟩,⟨mv 20 0,0,23⟩,⟨mv 21 2,0,23⟩,⟨mv 22 10,0,23⟩,⟨bt 23 .add 21 22,0,23⟩,⟨ix 37 1 20 23,18,23⟩,⟨⟨none,(.e (.store 1 (.tmp 37) (.tmp 35))),none⟩,18,24⟩] [0,1,2,3,10]))
 (.region [mv 14 10,bi 15 .add 14 1,mv 10 15] [] [0,1,2,3,10])))))
def M31 (F : Nat → Nat) : Fun := ⟨38,5,(K31 F).erase,[]⟩
end Go.Lib
end

section
namespace Go.Srt
variable {α : Type}
def Srt (cmp : α → α → Int) (L : List α) (a b : Nat) : Prop := ∀ p q x y, a ≤ p → p < q → q < b → L[p]? = some x → L[q]? = some y → ¬ cmp y x < 0
structure Mix (L L' : List α) (a b : Nat) : Prop where
  perm : L'.Perm L
  out : ∀ k, k < a ∨ b ≤ k → L'[k]? = L[k]?
theorem Mix.refl {L : List α} {a b : Nat} : Mix L L a b := ⟨.refl _, fun _ _ => rfl⟩
theorem Mix.trans {L L1 L2 : List α} {a b : Nat} (x : Mix L L1 a b) (y : Mix L1 L2 a b) : Mix L L2 a b := ⟨y.perm.trans x.perm, fun k hk => (y.out k hk).trans (x.out k hk)⟩
theorem Srt.mono {cmp : α → α → Int} {L : List α} {a b a' b' : Nat} (h : Srt cmp L a b) (ha : a ≤ a') (hb : b' ≤ b) : Srt cmp L a' b' :=
  fun p q x y h1 h2 h3 => h p q x y (by omega) h2 (by omega)
def Parted (cmp : α → α → Int) (L : List α) (a m b : Nat) : Prop := ∀ p q x y, a ≤ p → p < m → m ≤ q → q < b → L[p]? = some x → L[q]? = some y → ¬ cmp y x < 0
theorem Srt.join {cmp : α → α → Int} {L : List α} {a m b : Nat} (h1 : Srt cmp L a m) (h2 : Srt cmp L m b) (h3 : Parted cmp L a m b) : Srt cmp L a b := fun p q x y k1 k2 k3 k4 k5 => by
  rcases Nat.lt_or_ge q m with c | c
  · exact h1 p q x y k1 k2 c k4 k5
  · rcases Nat.lt_or_ge p m with d | d
    · exact h3 p q x y k1 d c k3 k4 k5
    · exact h2 p q x y d k2 k3 k4 k5
theorem parts (M : List α) {a b : Nat} (h : a ≤ b) : M = M.take a ++ ((M.take b).drop a ++ M.drop b) := by
  rw [← List.append_assoc]
  have : M.take a ++ (M.take b).drop a = M.take b := by
    have := List.take_append_drop a (M.take b)
    rwa [List.take_take, Nat.min_eq_left h] at this
  rw [this, List.take_append_drop]
theorem Mix.src {L L' : List α} {a b k : Nat} {v : α} (hm : Mix L L' a b) (h1 : a ≤ k) (h2 : k < b) (hv : L'[k]? = some v) : ∃ k', a ≤ k' ∧ k' < b ∧ L[k']? = some v := by
  have ht : L'.take a = L.take a := List.ext_getElem? fun i => by
    rw [List.getElem?_take, List.getElem?_take]
    split
    · exact hm.out i (by omega)
    · rfl
  have hd : L'.drop b = L.drop b := List.ext_getElem? fun i => by
    rw [List.getElem?_drop, List.getElem?_drop]
    exact hm.out _ (by omega)
  have hp := hm.perm
  rw [parts L' (show a ≤ b by omega), parts L (show a ≤ b by omega), ht, hd] at hp
  have hp := (List.perm_append_right_iff _).1 ((List.perm_append_left_iff _).1 hp)
  have hmem : v ∈ (L'.take b).drop a := by
    refine List.mem_of_getElem? (i := k - a) ?_
    rw [List.getElem?_drop, List.getElem?_take, if_pos (by omega), show a + (k - a) = k by omega]
    exact hv
  obtain ⟨i, hi⟩ := List.getElem?_of_mem (hp.mem_iff.1 hmem)
  rw [List.getElem?_drop, List.getElem?_take] at hi
  split at hi
  · exact ⟨a + i, by omega, by omega, hi⟩
  · cases hi
end Go.Srt
end

section
set_option maxRecDepth 10000
namespace Go.Lib
open Go.Vm Go.Dv Go.Srt
variable {p : Prog} {ext : Ext} {F : Nat → Nat} {α : Type}
structure HSrt (p : Prog) (ext : Ext) (F : Nat → Nat) : Prop where
  h26 : Has p ext F 26 M26
  h27 : Has p ext F 27 M27
  h28 : Has p ext F 28 M28
  h29 : Has p ext F 29 M29
  h30 : Has p ext F 30 M30
  h31 : Has p ext F 31 M31
structure Enc (α : Type) where
  d : α → D
  flat : ∀ x, flatD (d x) = true
  cells : ∀ x, cellsD (d x) = some [d x]
attribute [simp] Enc.flat Enc.cells
def hp (E : Enc α) (H : HpD) (bs : Nat) (L : List α) : HpD := H.put bs (.cells (L.map E.d) false)
theorem hp_blk {E : Enc α} {H : HpD} {bs : Nat} {L : List α} : (hp E H bs L).blk bs = .cells (L.map E.d) false := by simp [hp]
theorem put_put {H : HpD} {bs : Nat} {x y : BD} : (H.put bs x).put bs y = H.put bs y := by
  simp only [HpD.put]
  congr 1
  funext c
  by_cases h : c = bs <;> simp [h]
theorem hp_put {E : Enc α} {H : HpD} {bs : Nat} {L : List α} {l : List D} : (hp E H bs L).put bs (.cells l false) = H.put bs (.cells l false) := by
  simp only [hp, HpD.put]
  congr 1
  funext c
  by_cases h : c = bs <;> simp [h]
theorem hp_next {E : Enc α} {H : HpD} {bs : Nat} {L : List α} : (hp E H bs L).next = H.next := rfl
attribute [simp] hp_blk hp_next hp_put put_put
structure Cmp (p : Prog) (ext : Ext) (E : Enc α) (D : α → Prop) (cv : Dv.D) (cmp : α → α → Int) : Prop where
  fn : ∃ g a c, cv = .func g a c ∧ ∀ x y, D x → D y → FnD p ext g (a ++ E.d x :: E.d y :: c) (.lit (.int .i64 (cmp x y)))
  anti : ∀ x y, D x → D y → cmp x y < 0 → ¬ cmp y x < 0
  trans : ∀ x y z, D x → D y → D z → ¬ cmp y x < 0 → ¬ cmp z y < 0 → ¬ cmp z x < 0
structure Sym4 (cmp : α → α → Int) (Y : List α) (a s md e b : Nat) : Prop where
  s1 : Srt cmp Y a s
  s2 : Srt cmp Y s md
  s3 : Srt cmp Y md e
  s4 : Srt cmp Y e b
  part : Parted cmp Y a md b
end Go.Lib
end

section
set_option maxRecDepth 10000
namespace Go.Lib
open Go.Vm Go.Dv Go.Srt
variable {p : Prog} {ext : Ext} {F : Nat → Nat} {α : Type}
def Blk (cmp : α → α → Int) (Y : List α) (z lo n : Nat) : Prop := ∀ a, lo ≤ a → z ∣ a → Srt cmp Y a (min (a + z) n)
end Go.Lib
end

section
set_option maxRecDepth 10000
namespace Go.Lib
open Go.Vm Go.Dv Go.Srt
variable {p : Prog} {ext : Ext} {F : Nat → Nat}
structure HAggr (p : Prog) (ext : Ext) (F : Nat → Nat) : Prop where
  srt : HSrt p ext F
  schm : HSchm p ext F
  h32 : Has p ext F 32 M32
  h33 : Has p ext F 33 M33
  h34 : Has p ext F 34 M34
  h35 : Has p ext F 35 M35
  h36 : Has p ext F 36 M36
  h37 : Has p ext F 37 M37
  h38 : Has p ext F 38 M38
  h39 : Has p ext F 39 M39
  h40 : Has p ext F 40 M40
  h41 : Has p ext F 41 M41
  h42 : Has p ext F 42 M42
  h43 : Has p ext F 43 M43
  h44 : Has p ext F 44 M44
def Fine (l : List Row) : Prop := l.length < 1000000 ∧ ∀ r, r ∈ l → r.length < 1000000
end Go.Lib
end

section
set_option maxRecDepth 10000
namespace Go.Lib
open Go.Vm Go.Dv
variable {p : Prog} {ext : Ext} {F : Nat → Nat}
theorem max2_int {tab : Tab} {a b : Int} : foldD (max2V tab) [.lit (.int .i64 a), .lit (.int .i64 b)] = some (.lit (.int .i64 (max a b))) := by
  show litO (some (V.int .i64 (cond (ilt a b) b a))) = _
  rw [ilt_d]
  by_cases h : a < b
  · simp only [h, decide_true, cond_true, litO_int]; rw [Int.max_def, if_pos (by omega)]
  · simp only [h, decide_false, cond_false, litO_int]
    rw [Int.max_def]; split
    · rw [show a = b by omega]
    · rfl
theorem min2_int {tab : Tab} {a b : Int} : foldD (min2V tab) [.lit (.int .i64 a), .lit (.int .i64 b)] = some (.lit (.int .i64 (min a b))) := by
  show litO (some (V.int .i64 (cond (ilt b a) b a))) = _
  rw [ilt_d]
  by_cases h : b < a
  · simp only [h, decide_true, cond_true, litO_int]
    rw [Int.min_def, if_neg (by omega)]
  · simp only [h, decide_false, cond_false, litO_int]
    rw [Int.min_def, if_pos (by omega)]
attribute [simp] max2_int min2_int
theorem ref6_sameVal (L : HSame6 p ext F) {a b : Vl} : FnD p ext (F 50) [.agg a.c, .agg b.c] (.lit (.bool (decide (a = b)))) := by
  refine fn_of L.h50 (M := M50) rfl ok50 rfl fun H => sem_run 9000 _ ?_
  simp
  by_cases h1 : a.null = b.null
  · by_cases h2 : a.kind = b.kind
    · by_cases h3 : a.n = b.n
      · by_cases h4 : a.bytes = b.bytes
        · simp [h1, h2, h3, h4]
          refine sem_ret ?_
          simp [M50, vl_ext, h1, h2, h3, h4]
          exact .same (by simp)
        · simp [h1, h2, h3, h4]
          refine sem_ret ?_
          simp [M50, vl_ext, h4]
          exact .same (by simp)
      · simp [h1, h2, h3]
        refine sem_ret ?_
        simp [M50, vl_ext, h3]
        exact .same (by simp)
    · simp [h1, h2]
      refine sem_ret ?_
      simp [M50, vl_ext, h2]
      exact .same (by simp)
  · simp [h1]
    refine sem_ret ?_
    simp [M50, vl_ext, h1]
    exact .same (by simp)
end Go.Lib
end

section
set_option maxRecDepth 10000
namespace Go.Lib
open Go.Vm Go.Dv Go.Srt
variable {p : Prog} {ext : Ext} {F : Nat → Nat}
def In64 (n : Int) : Prop := -9223372036854775808 ≤ n ∧ n < 9223372036854775808
def term (c : Int) (r : Row) : Int := if (atV r c).null = true then 0 else (atV r c).n
def sumT (c : Int) (l : List Row) : Int := (l.map (term c)).sum
def Nums (c : Int) (l : List Row) : Prop := ∀ r, r ∈ l → In64 (atV r c).n
theorem Nums.take {c : Int} {l : List Row} (h : Nums c l) (i : Nat) : Nums c (l.take i) := fun r hr => h r (List.mem_of_mem_take hr)
instance {n : Int} : Decidable (In64 n) := by unfold In64; exact inferInstance
def numV (n : Int) : Vl := ⟨false, 1, n, [], by simp⟩
def sumV (c : Int) (l : List Row) : Vl × Bool := if In64 (sumT c l) then (numV (sumT c l), true) else (zv, false)
end Go.Lib
end

section
set_option maxRecDepth 10000
namespace Go.Lib
open Go.Vm Go.Dv Go.Srt
variable {p : Prog} {ext : Ext} {F : Nat → Nat}
def setKind (v : Vl) (k : Int) : Vl := ⟨v.null, k, v.n, v.bytes, v.small⟩
def endS (sg : Int) (out v : Vl) : Vl := if v.null = true then setKind out v.kind else if out.null = true ∨ 0 < cmpV v out * sg then v else out
def nullV : Vl := ⟨true, 0, 0, [], by simp⟩
def endF (c sg : Int) (l : List Row) : Vl := (l.map fun r => atV r c).foldl (endS sg) nullV
end Go.Lib
end

section
set_option maxRecDepth 10000
namespace Go.Lib
open Go.Vm Go.Dv Go.Srt
variable {p : Prog} {ext : Ext} {F : Nat → Nat}
structure Ag where
  kind : Int
  col : Int
def Ag.c (a : Ag) : List D := [.lit (.int .i64 a.kind), .lit (.int .i64 a.col)]
def agsE (l : List Ag) : List (List D) := l.map Ag.c
def agsD (l : List Ag) : D := .row 2 .p (agsE l)
theorem ags_len {l : List Ag} : (agsE l).length = l.length := by simp [agsE]
theorem lenb_ags {l : List Ag} : lenbD (agsD l) = some (.lit (.int .i64 (l.length : Int))) := by simp [agsD, ags_len]
theorem at_ags {l : List Ag} {n : Nat} : atO 2 (agsD l) (some n) = elemD (l[n]?.map Ag.c) := by simp [agsD, agsE]
theorem ag_len {a : Ag} : a.c.length = 2 := rfl
theorem ag_flats {a : Ag} : flatsD a.c = true := rfl
theorem ag_take {a : Ag} : a.c.take 2 = a.c := rfl
theorem ag_drop {a : Ag} : a.c.drop 2 = [] := rfl
attribute [simp] ags_len lenb_ags at_ags ag_len ag_flats ag_take ag_drop
def oneF (l : List Row) (a : Ag) : Vl × Bool :=
  if a.kind = 1 then (numV l.length, true) else if a.kind = 2 then sumV a.col l else if a.kind = 3 then (endF a.col (-1) l, true) else (endF a.col 1 l, true)
def AgOk (l : List Row) (a : Ag) : Prop := a.kind = 2 → Nums a.col l
def vals (l : List Row) (ags : List Ag) : Row := ags.map fun a => (oneF l a).1
end Go.Lib
end

section
set_option maxRecDepth 10000
namespace Go.Lib
open Go.Vm Go.Dv Go.Srt
variable {p : Prog} {ext : Ext} {F : Nat → Nat}
def cnt (c : Int) (r : Row) (t : List Row) : Nat := 1 + (t.takeWhile fun x => decide (cmpV (atV x c) (atV r c) = 0)).length
theorem takeWhile_len {p : Row → Bool} : ∀ {t : List Row} {n : Nat}, n ≤ t.length → (∀ q x, q < n → t[q]? = some x → p x = true) → (n = t.length ∨ ∃ x, t[n]? = some x ∧ p x = false) → (t.takeWhile p).length = n
  | [], n, h, _, _ => by simp at h; simp [h]
  | x :: t, 0, _, _, h => by
    rcases h with h | ⟨y, e, hy⟩
    · simp at h
    · simp at e; subst e; simp [hy]
  | x :: t, n + 1, h1, h2, h3 => by
    have := h2 0 x (by omega) rfl
    rw [List.takeWhile_cons, if_pos this, List.length_cons, takeWhile_len (n := n) (by simpa using h1) (fun q y hq hy => h2 (q + 1) y (by omega) (by simpa using hy)) (by simpa using h3)]
end Go.Lib
end

section
set_option maxRecDepth 10000
namespace Go.Lib
open Go.Vm Go.Dv Go.Srt
def cs2 : List Ag := [⟨1, 0⟩, ⟨2, 0⟩]
def Low (l : List Row) : Prop := ∀ r, r ∈ l → 0 ≤ (atV r 0).n ∧ (atV r 0).n ≤ 1000
theorem Low.sum : ∀ {l : List Row}, Low l → 0 ≤ sumT 0 l ∧ sumT 0 l ≤ 1000 * (l.length : Int)
  | [], _ => by simp [sumT]
  | r :: l, h => by
    have ih := Low.sum (l := l) fun r hr => h r (by simp [hr])
    have h0 := h r (by simp)
    have : sumT 0 (r :: l) = term 0 r + sumT 0 l := by simp [sumT]
    rw [this, List.length_cons]
    unfold term
    split <;> omega
theorem Low.in {l : List Row} (h : Low l) (hl : l.length < 1000000) : In64 (sumT 0 l) := by
  have := h.sum
  unfold In64; omega
def grow (x : Vl × Nat × Int) : Row := [x.1, numV x.2.1, numV x.2.2]
structure GOk (c : Int) (l : List Row) (T : List (Vl × Nat × Int)) : Prop where
  ones : ∀ x, x ∈ T → 1 ≤ x.2.1
  pos : ∀ x, x ∈ T → 0 ≤ x.2.2
  cnt : (T.map fun x => x.2.1).sum = l.length
  sum : (T.map fun x => x.2.2).sum = sumT 0 l
  up : ∀ i a b, T[i]? = some a → T[i + 1]? = some b → cmpV a.1 b.1 < 0
  hd : ∀ a, T[0]? = some a → ∃ r, l[0]? = some r ∧ a.1 = atV r c
def cS (T : List (Vl × Nat × Int)) (i : Nat) : Nat := ((T.take i).map fun x => x.2.1).sum
def sS (T : List (Vl × Nat × Int)) (i : Nat) : Int := ((T.take i).map fun x => x.2.2).sum
theorem sum_pos : ∀ {T : List (Vl × Nat × Int)}, (∀ x, x ∈ T → 0 ≤ x.2.2) → 0 ≤ (T.map fun x => x.2.2).sum
  | [], _ => by simp
  | x :: T, h => by
    have := sum_pos (T := T) fun y hy => h y (by simp [hy])
    have := h x (by simp)
    simp only [List.map_cons, List.sum_cons]; omega
theorem GOk.le {c : Int} {l : List Row} {T : List (Vl × Nat × Int)} (ok : GOk c l T) (i : Nat) : cS T i ≤ l.length ∧ 0 ≤ sS T i ∧ sS T i ≤ sumT 0 l := by
  have e : T = T.take i ++ T.drop i := (List.take_append_drop i T).symm
  have h1 := ok.cnt
  have h2 := ok.sum
  rw [e, List.map_append, List.sum_append] at h1 h2
  have h3 := sum_pos (T := T.drop i) fun x hx => ok.pos x (List.mem_of_mem_drop hx)
  have h4 := sum_pos (T := T.take i) fun x hx => ok.pos x (List.mem_of_mem_take hx)
  unfold cS sS
  omega
theorem len_sum : ∀ {T : List (Vl × Nat × Int)}, (∀ x, x ∈ T → 1 ≤ x.2.1) → T.length ≤ (T.map fun x => x.2.1).sum
  | [], _ => by simp
  | x :: T, h => by
    have := len_sum (T := T) fun y hy => h y (by simp [hy])
    have := h x (by simp)
    simp only [List.map_cons, List.sum_cons, List.length_cons]; omega
theorem GOk.len {c : Int} {l : List Row} {T : List (Vl × Nat × Int)} (ok : GOk c l T) : T.length ≤ l.length := ok.cnt ▸ len_sum ok.ones
theorem GOk.all {c : Int} {l : List Row} {T : List (Vl × Nat × Int)} (ok : GOk c l T) : cS T T.length = l.length ∧ sS T T.length = sumT 0 l := by
  unfold cS sS
  rw [List.take_length]
  exact ⟨ok.cnt, ok.sum⟩
end Go.Lib
end

section
set_option maxRecDepth 10000
namespace Go.Lib
open Go.Vm Go.Dv Go.Srt
structure Vl.Good (v : Vl) : Prop where
  nul : v.null = true → v.n = 0 ∧ v.bytes = []
  kd : (v.kind = 1 ∧ v.bytes = []) ∨ (v.kind = 2 ∧ v.n = 0)
  int : In64 v.n
theorem cmpV_self {a : Vl} : cmpV a a = 0 := by
  have := (cmpV_ord (k := a.kind)).sym a a rfl rfl; omega
structure GoodR (ks : List Int) (r : Row) : Prop where
  kin : Kin ks r
  good : ∀ v, v ∈ r → v.Good
section
variable {α : Type} {G : α → Prop} {cmp : α → α → Int}
def Rise (cmp : α → α → Int) (l : List α) : Prop := l.Pairwise fun x y => cmp x y ≤ 0
theorem Srt.rise (o : Ord3 G cmp) {l : List α} (hG : ∀ x, x ∈ l → G x) (h : Srt cmp l 0 l.length) : Rise cmp l := by
  rw [Rise, List.pairwise_iff_getElem]
  intro i j hi hj hij
  have := h i j l[i] l[j] (by omega) hij hj (by simp) (by simp)
  have := o.sym l[i] l[j] (hG _ (by simp)) (hG _ (by simp))
  omega
theorem take_tw {p : α → Bool} {t : List α} : t.take (t.takeWhile p).length = t.takeWhile p := by
  rw [← List.prefix_iff_eq_take.1 (List.takeWhile_prefix p)]
theorem drop_tw {p : α → Bool} : ∀ {t : List α}, t.drop (t.takeWhile p).length = t.dropWhile p
  | [] => rfl
  | x :: t => by
    have ih := drop_tw (p := p) (t := t)
    cases h : p x <;> simp [h, ih]
end
def IsEnd (sg : Int) (L : List Vl) (o : Vl) : Prop :=
  (L = [] ∧ o = nullV) ∨ (o ∈ L ∧ ∀ v, v ∈ L → v.null = true) ∨ (o ∈ L ∧ o.null = false ∧ ∀ v, v ∈ L → v.null = false → cmpV v o * sg ≤ 0)
theorem null_set {v : Vl} (hv : v.Good) (h : v.null = true) : setKind nullV v.kind = v := by
  obtain ⟨a, b⟩ := hv.nul h
  exact vl_ext.2 ⟨by simp [setKind, nullV, h], rfl, by simp [setKind, nullV, a], by simp [setKind, nullV, b]⟩
theorem set_self {o : Vl} {k : Int} (h : o.kind = k) : setKind o k = o := by subst h; rfl
def GoodL (k : Int) (L : List Vl) : Prop := ∀ v, v ∈ L → v.kind = k ∧ v.Good
theorem IsEnd.step {sg k : Int} (hsg : sg = 1 ∨ sg = -1) {L : List Vl} {o v : Vl} (hL : GoodL k (L ++ [v])) (h : IsEnd sg L o) : IsEnd sg (L ++ [v]) (endS sg o v) := by
  obtain ⟨hvk, hv⟩ := hL v (by simp)
  have hm : ∀ x, x ∈ L → x.kind = k ∧ x.Good := fun x hx => hL x (by simp [hx])
  unfold endS
  by_cases hn : v.null = true
  · rw [if_pos hn]
    rcases h with ⟨rfl, rfl⟩ | ⟨ho, ha⟩ | ⟨ho, hon, ha⟩
    · rw [null_set hv hn]
      exact .inr (.inl ⟨by simp, fun w hw => by simp at hw; rw [hw, hn]⟩)
    · rw [set_self (by rw [(hm o ho).1, hvk])]
      exact .inr (.inl ⟨by simp [ho], fun w hw => by
        rcases List.mem_append.1 hw with hw | hw
        · exact ha w hw
        · simp at hw; rw [hw, hn]⟩)
    · rw [set_self (by rw [(hm o ho).1, hvk])]
      exact .inr (.inr ⟨by simp [ho], hon, fun w hw hwn => by
        rcases List.mem_append.1 hw with hw | hw
        · exact ha w hw hwn
        · simp at hw; rw [hw, hn] at hwn; cases hwn⟩)
  · rw [if_neg hn]
    have hn' : v.null = false := by simpa using hn
    rcases h with ⟨rfl, rfl⟩ | ⟨ho, ha⟩ | ⟨ho, hon, ha⟩
    · rw [if_pos (.inl rfl)]
      exact .inr (.inr ⟨by simp, hn', fun w hw _ => by simp at hw; rw [hw, cmpV_self]; omega⟩)
    · rw [if_pos (.inl (ha o ho))]
      refine .inr (.inr ⟨by simp, hn', fun w hw hwn => ?_⟩)
      rcases List.mem_append.1 hw with hw | hw
      · rw [ha w hw] at hwn; cases hwn
      · simp at hw; rw [hw, cmpV_self]; omega
    · have oo := cmpV_ord (k := k)
      have s1 := oo.sym v o hvk (hm o ho).1
      split
      · rename_i e
        have e : 0 < cmpV v o * sg := by
          rcases e with e | e
          · rw [hon] at e; cases e
          · exact e
        refine .inr (.inr ⟨by simp, hn', fun w hw hwn => ?_⟩)
        rcases List.mem_append.1 hw with hw | hw
        · have h1 := ha w hw hwn
          have hwk := (hm w hw).1
          have s2 := oo.sym w o hwk (hm o ho).1
          have s3 := oo.sym w v hwk hvk
          have t1 := oo.tr w o v hwk (hm o ho).1 hvk
          have t2 := oo.tr v o w hvk (hm o ho).1 hwk
          rcases hsg with rfl | rfl <;> omega
        · simp at hw; rw [hw, cmpV_self]; omega
      · rename_i e
        have e : ¬ 0 < cmpV v o * sg := fun h => e (.inr h)
        refine .inr (.inr ⟨by simp [ho], hon, fun w hw hwn => ?_⟩)
        rcases List.mem_append.1 hw with hw | hw
        · exact ha w hw hwn
        · simp at hw; subst hw; omega
theorem IsEnd.perm {sg : Int} {L L' : List Vl} {o : Vl} (hp : L.Perm L') (h : IsEnd sg L o) : IsEnd sg L' o := by
  rcases h with ⟨rfl, rfl⟩ | ⟨ho, ha⟩ | ⟨ho, hon, ha⟩
  · exact .inl ⟨hp.nil_eq.symm, rfl⟩
  · exact .inr (.inl ⟨hp.mem_iff.1 ho, fun v hv => ha v (hp.mem_iff.2 hv)⟩)
  · exact .inr (.inr ⟨hp.mem_iff.1 ho, hon, fun v hv => ha v (hp.mem_iff.2 hv)⟩)
def GoodRs (ks : List Int) (l : List Row) : Prop := ∀ r, r ∈ l → GoodR ks r
def InK (ks : List Int) (c : Int) : Prop := 0 ≤ c ∧ c < ks.length
theorem GoodRs.perm {ks : List Int} {l l' : List Row} (hp : l.Perm l') (h : GoodRs ks l) : GoodRs ks l' := fun r hr => h r (hp.mem_iff.2 hr)
theorem atV_mem {r : Row} {c : Int} (h0 : 0 ≤ c) (h : c < r.length) : atV r c ∈ r ∧ r[c.toNat]? = some (atV r c) := by
  have hl : c.toNat < r.length := by omega
  rw [atV, if_neg (by omega)]
  simp [hl]
theorem GoodR.at_ {ks : List Int} {r : Row} {c : Int} (h : GoodR ks r) (hc : InK ks c) : (atV r c).kind = (ks[c.toNat]?).getD 0 ∧ (atV r c).Good := by
  have hk := h.kin
  unfold Kin at hk
  have hl : r.length = ks.length := by rw [← hk]; simp
  obtain ⟨h1, h2⟩ := atV_mem (r := r) hc.1 (by have := hc.2; omega)
  refine ⟨?_, h.good _ h1⟩
  rw [← hk, List.getElem?_map, h2]; rfl
theorem GoodRs.col {ks : List Int} {l : List Row} {c : Int} (h : GoodRs ks l) (hc : InK ks c) : GoodL ((ks[c.toNat]?).getD 0) (l.map fun r => atV r c) := by
  intro v hv
  obtain ⟨r, hr, rfl⟩ := List.mem_map.1 hv
  exact (h r hr).at_ hc
end Go.Lib
end

section
set_option maxRecDepth 10000
namespace Go.Lib
open Go.Vm Go.Dv Go.Srt
variable {p : Prog} {ext : Ext} {F : Nat → Nat}
structure HRef15 (p : Prog) (ext : Ext) (F : Nat → Nat) : Prop where
  ref6 : HRef6 p ext F
  h53 : Has p ext F 53 M53
  h54 : Has p ext F 54 M54
  h55 : Has p ext F 55 M55
  h56 : Has p ext F 56 M56
  h57 : Has p ext F 57 M57
  h58 : Has p ext F 58 M58
  h59 : Has p ext F 59 M59
  h60 : Has p ext F 60 M60
end Go.Lib
end

section
set_option maxRecDepth 10000
namespace Go.Lib
open Go.Vm Go.Dv Go.Srt
variable {p : Prog} {ext : Ext} {F : Nat → Nat}
end Go.Lib
end

section
set_option maxRecDepth 10000
namespace Go.Lib
open Go.Vm Go.Dv Go.Srt
variable {p : Prog} {ext : Ext} {F : Nat → Nat}
structure Sx where
  col : Int
  add : Bool
  v : Vl
def Sx.c (x : Sx) : List D := .lit (.int .i64 x.col) :: .lit (.bool x.add) :: x.v.c
def sxsE (l : List Sx) : List (List D) := l.map Sx.c
def sxsD (l : List Sx) : D := .row 6 .p (sxsE l)
theorem sxs_len {l : List Sx} : (sxsE l).length = l.length := by simp [sxsE]
theorem lenb_sxs {l : List Sx} : lenbD (sxsD l) = some (.lit (.int .i64 (l.length : Int))) := by simp [sxsD, sxs_len]
theorem at_sxs {l : List Sx} {n : Nat} : atO 6 (sxsD l) (some n) = elemD (l[n]?.map Sx.c) := by simp [sxsD, sxsE]
theorem sx_len {a : Sx} : a.c.length = 6 := rfl
theorem sx_flats {a : Sx} : flatsD a.c = true := rfl
theorem sx_take {a : Sx} : a.c.take 6 = a.c := rfl
theorem sx_drop {a : Sx} : a.c.drop 6 = [] := rfl
theorem sx_0 {a : Sx} : a.c[0]? = some (.lit (.int .i64 a.col)) := rfl
theorem sx_1 {a : Sx} : a.c[1]? = some (.lit (.bool a.add)) := rfl
theorem sx_4 {a : Sx} : a.c[4]? = some (.lit (.int .i64 a.v.n)) := rfl
theorem sx_v {a : Sx} : (a.c.drop 2).take 4 = a.v.c := rfl
theorem sx_unders {n : Nat} {a : Sx} : D.unders n a.c := by simp [Sx.c]
attribute [simp] sxs_len lenb_sxs at_sxs sx_len sx_flats sx_take sx_drop sx_0 sx_1 sx_4 sx_v sx_unders
def withN (v : Vl) (n : Int) : Vl := ⟨v.null, v.kind, n, v.bytes, v.small⟩
def setS (r : Row) (x : Sx) : Option Row :=
  if x.col < 0 ∨ (r.length : Int) ≤ x.col then some r else
  if x.add = false then some (r.set x.col.toNat x.v) else
  if (atV r x.col).null = true then some r else
  if In64 ((atV r x.col).n + x.v.n) then some (r.set x.col.toNat (withN (atV r x.col) ((atV r x.col).n + x.v.n))) else none
def setF : Row → List Sx → Option Row
  | r, [] => some r
  | r, x :: l => match setS r x with
    | some r' => setF r' l
    | none => none
def setD (o : Option Row) : D := .tup [rowD (o.getD []), .lit (.bool o.isSome)]
end Go.Lib
end

section
set_option maxRecDepth 10000
namespace Go.Lib
open Go.Vm Go.Dv Go.Srt
attribute [-simp] bin_and bin_xor
theorem in64_wr {n : Int} : In64 (wr .i64 n) := by
  rw [wr_eq]
  have : IntKind.wrap .i64 n = if (decide (n % 18446744073709551616 ≥ 9223372036854775808)) = true then n % 18446744073709551616 - 18446744073709551616 else n % 18446744073709551616 := rfl
  rw [this]
  unfold In64
  by_cases h : n % 18446744073709551616 ≥ 9223372036854775808
  · rw [if_pos (by simpa using h)]; omega
  · rw [if_neg (by simpa using h)]; omega
theorem GoodR.cons {k : Int} {ks : List Int} {v : Vl} {r : Row} (h1 : v.kind = k) (h2 : v.Good) (h : GoodR ks r) : GoodR (k :: ks) (v :: r) :=
  ⟨by have := h.kin; unfold Kin at this ⊢; simp [h1, this], fun w hw => by
    rcases List.mem_cons.1 hw with rfl | hw
    · exact h2
    · exact h.good w hw⟩
end Go.Lib
end

section
set_option maxRecDepth 10000
namespace Go.Lib
open Go.Vm Go.Dv Go.Srt
variable {p : Prog} {ext : Ext} {F : Nat → Nat}
theorem AgOk.good {ks : List Int} {l : List Row} {a : Ag} (hg : GoodRs ks l) (ha : InK ks a.col) : AgOk l a := fun _ r hr => ((hg r hr).at_ ha).2.int
theorem Fine.perm {l l' : List Row} (hp : l'.Perm l) (hl : Fine l) : Fine l' := ⟨by rw [hp.length_eq]; exact hl.1, fun r hr => hl.2 r (hp.mem_iff.1 hr)⟩
end Go.Lib
end

section
set_option maxRecDepth 10000
namespace Go.Lib
open Go.Vm Go.Dv Go.Srt
variable {p : Prog} {ext : Ext} {F : Nat → Nat}
inductive Pr where
  | mk (kind col op : Int) (v : Vl) (l : List Pr)
def Pr.kind : Pr → Int | .mk k _ _ _ _ => k
def Pr.col : Pr → Int | .mk _ c _ _ _ => c
def Pr.op : Pr → Int | .mk _ _ o _ _ => o
def Pr.v : Pr → Vl | .mk _ _ _ v _ => v
def Pr.l : Pr → List Pr | .mk _ _ _ _ l => l
mutual
def Pr.c : Pr → List D
  | .mk k c o v l => [.lit (.int .i64 k), .lit (.int .i64 c), .lit (.int .i64 o), .lit (.bool v.null), .lit (.int .i64 v.kind), .lit (.int .i64 v.n), byD v.bytes, .row 8 .p (Pr.cs l)]
def Pr.cs : List Pr → List (List D)
  | [] => []
  | p :: l => p.c :: Pr.cs l
end
theorem Pr.cs_map : ∀ {l : List Pr}, Pr.cs l = l.map Pr.c
  | [] => by simp [Pr.cs]
  | p :: l => by simp [Pr.cs, Pr.cs_map (l := l)]
def prsD (l : List Pr) : D := .row 8 .p (l.map Pr.c)
theorem pr_c {q : Pr} : q.c = [.lit (.int .i64 q.kind), .lit (.int .i64 q.col), .lit (.int .i64 q.op), .lit (.bool q.v.null), .lit (.int .i64 q.v.kind), .lit (.int .i64 q.v.n), byD q.v.bytes, prsD q.l] := by
  cases q; simp [Pr.c, Pr.kind, Pr.col, Pr.op, Pr.v, Pr.l, prsD, Pr.cs_map]
theorem pr_0 {q : Pr} : q.c[0]? = some (.lit (.int .i64 q.kind)) := by rw [pr_c]; rfl
theorem pr_1 {q : Pr} : q.c[1]? = some (.lit (.int .i64 q.col)) := by rw [pr_c]; rfl
theorem pr_2 {q : Pr} : q.c[2]? = some (.lit (.int .i64 q.op)) := by rw [pr_c]; rfl
theorem pr_7 {q : Pr} : q.c[7]? = some (prsD q.l) := by rw [pr_c]; rfl
theorem pr_len {q : Pr} : q.c.length = 8 := by rw [pr_c]; rfl
theorem pr_g {q : Pr} {i : Nat} {d : D} (h : q.c[i]? = some d) (hi : i < q.c.length) : q.c[i] = d := (List.getElem?_eq_some_iff.1 h).2
theorem pr_g0 {q : Pr} (h : 0 < q.c.length) : q.c[0] = .lit (.int .i64 q.kind) := pr_g pr_0 h
theorem pr_g1 {q : Pr} (h : 1 < q.c.length) : q.c[1] = .lit (.int .i64 q.col) := pr_g pr_1 h
theorem pr_g2 {q : Pr} (h : 2 < q.c.length) : q.c[2] = .lit (.int .i64 q.op) := pr_g pr_2 h
theorem pr_g7 {q : Pr} (h : 7 < q.c.length) : q.c[7] = prsD q.l := pr_g pr_7 h
theorem pr_v {q : Pr} : (q.c.drop 3).take 4 = q.v.c := by rw [pr_c]; rfl
theorem pr_take {q : Pr} : q.c.take 8 = q.c := List.take_of_length_le (by rw [pr_len]; exact Nat.le_refl _)
theorem pr_drop {q : Pr} : q.c.drop 8 = [] := List.drop_eq_nil_of_le (by rw [pr_len]; exact Nat.le_refl _)
theorem pr_flats {q : Pr} : flatsD q.c = true := by rw [pr_c]; rfl
theorem prs_len {l : List Pr} : lenbD (prsD l) = some (.lit (.int .i64 (l.length : Int))) := by simp [prsD]
theorem at_prs {l : List Pr} {n : Nat} : atO 8 (prsD l) (some n) = elemD (l[n]?.map Pr.c) := by simp [prsD]
theorem pr_unders {n : Nat} : ∀ q : Pr, D.unders n q.c := by
  have key : ∀ (k : Nat) (q : Pr), SizeOf.sizeOf q < k → D.unders n q.c := by
    intro k
    induction k with
    | zero => intro q h; omega
    | succ k ih =>
      intro q h
      cases q with
      | mk kd c o v l =>
        simp only [Pr.c, Pr.cs_map, D.unders, D.under, by_under, true_and, and_true]
        have : ∀ l' : List Pr, (∀ q, q ∈ l' → D.unders n q.c) → D.underss n (l'.map Pr.c) := by
          intro l'
          induction l' with
          | nil => intro _; simp [D.underss]
          | cons q l' ih2 => intro h; simp only [List.map_cons, D.underss]; exact ⟨h q (by simp), ih2 fun x hx => h x (by simp [hx])⟩
        refine this l fun q hq => ih q ?_
        have := List.sizeOf_lt_of_mem hq
        simp at h; omega
  exact fun q => key (SizeOf.sizeOf q + 1) q (by omega)
theorem prs_under {n : Nat} {l : List Pr} : (prsD l).under n := by simp only [prsD, D.under]; exact underss_map (fun q => pr_unders q) _
theorem cellsD_prs {l : List Pr} : cellsD (prsD l) = some [prsD l] := rfl
theorem prs_flat {l : List Pr} : flatD (prsD l) = true := rfl
attribute [simp] pr_g0 pr_g1 pr_g2 pr_g7 pr_0 pr_1 pr_2 pr_7 pr_len pr_v pr_take pr_drop pr_flats prs_len at_prs pr_unders prs_under cellsD_prs prs_flat
def truthF (b : Bool) : Int := if b then 1 else 2
def notF (n : Int) : Int := if n = 1 then 2 else if n = 2 then 1 else 3
def holdsF (o c : Int) : Bool := if o = 1 then decide (c = 0) else if o = 2 then decide (¬ c = 0) else if o = 3 then decide (c < 0) else if o = 4 then decide (c ≤ 0) else if o = 5 then decide (0 < c) else if o = 6 then decide (0 ≤ c) else false
mutual
def evalF : Pr → Row → Int
  | .mk k c o v l, r => if k = 1 then 1 else if k = 2 then (if (atV r c).null = true then 3 else truthF (holdsF o (cmpV (atV r c) v))) else if k = 3 then truthF (atV r c).null
      else if k = 4 then listF l r 2 1 else if k = 5 then listF l r 1 2 else if k = 6 then headF l r else 3
def headF : List Pr → Row → Int
  | [], _ => 3
  | p :: _, r => notF (evalF p r)
def listF : List Pr → Row → Int → Int → Int
  | [], _, _, cur => cur
  | p :: l, r, d, cur => if evalF p r = d then d else listF l r d (if evalF p r = 3 then 3 else cur)
end
structure HPred (p : Prog) (ext : Ext) (F : Nat → Nat) : Prop where
  schm : HSchm p ext F
  h65 : Has p ext F 65 M65
  h66 : Has p ext F 66 M66
  h67 : Has p ext F 67 M67
  h68 : Has p ext F 68 M68
  h69 : Has p ext F 69 M69
def PrS : Nat → Pr → Prop
  | 0, _ => False
  | n + 1, q => q.l.length < 1000 ∧ ∀ x, x ∈ q.l → PrS n x
end Go.Lib
end
