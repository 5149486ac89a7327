/-
 Texts that the claim's last one rests on, joined.
-/
import Derived.Test.YtcpfgjkhjadgoaaGreatDoorBProgBacke
import Derived.Test.YtcpfgjkhjadgoaaGreatDoorBProgBackd
import Derived.Handed

section
namespace Go.Dv
open Go.Vm
section
variable {p : Prog} {ext : Ext} {Q : ResD → Prop}
def WcD (p : Prog) (ext : Ext) (f : Nat) (args : List D) (H : HpD) (R : D → HpD → Prop) : Prop :=
 ∀ ψ S h vs, SR p.gl ψ S H h → VDl h ψ S args vs → WPc p ext f vs h fun v h' => ∃ ψ' S' d H', Ex h ψ S h' ψ' S' ∧ SR p.gl ψ' S' H' h' ∧ VD h' ψ' S' d v ∧ R d H'
theorem WcD.mono {f : Nat} {args : List D} {H : HpD} {R R' : D → HpD → Prop} (hw : WcD p ext f args H R) (hr : ∀ d H', R d H' → R' d H') : WcD p ext f args H R' := by
 intro ψ S h vs s k;refine (hw ψ S h vs s k).mono fun v h' ⟨ψ', S', d, H', a, b, c, e⟩ => ⟨ψ', S', d, H', a, b, c, hr d H' e⟩
theorem WcD.args {f : Nat} {args args' : List D} {H : HpD} {R : D → HpD → Prop} (hw : WcD p ext f args' H R) (hl : D.les args args') : WcD p ext f args H R := by
 intro ψ S h vs s k;exact hw ψ S h vs s (VDl.le _ _ hl k)
theorem sem_call {f : Nat} {args : List D} {dst : Option Nat} {l : List MO} {fz lv : List Nat} {K : List KD} {fr : FrD} {H : HpD} {R : D → HpD → Prop} (hw : WcD p ext f args H R)
  (hs : ∀ d H', R d H' → Sem p ext Q (.ops l fz lv K .mk (putD fr dst d) H')) : Sem p ext Q (.call f args dst l fz lv K .mk fr H) := by
 intro hK ψ S h fv vs P s kf kv hP;refine callS_of ((hw ψ S h vs s kv).mono ?_);rintro v h' ⟨ψ', S', d, H', x, s', k, r⟩;exact os_step (hs d H' r) hK x s' kf k hP
theorem sem_dcall {f : Nat} {args : List D} {dst : Option Nat} {l : List DO} {lv : List Nat} {K : List KD} {i : Nat} {cs : List (Nat × List Nat)} {ws : List (Nat × Nat)} {pst : List (Nat × HpD)} {fr : FrD} {H : HpD} {R : D → HpD → Prop} (hw : WcD p ext f args H R)
  (hs : ∀ d H', R d H' → Sem p ext Q (.dops l lv K ((i + 1, []) :: dirtyN dst cs) ws .mk (i + 1) H'.next ((i + 1, H') :: pst) (putD fr dst d) H')) : Sem p ext Q (.dcall f args dst l lv K cs ws .mk i pst fr H) := by
 intro hK hn hd ψ S h fv vs st rds nx P s kf di kv hP;refine (hw ψ S h vs s kv).mono ?_;rintro v h' ⟨ψ', S', d, H', x, s', k, r⟩;exact ds_step (hs d H' r) hK hd (Nat.le_refl _) x s' kf k (di.stage hn x s' ((kf.mono x).put k dst)) hP
def argsD : Nat → List D → FrD
 | _, [] => []
 | n, d :: l => (n, d) :: argsD (n + 1) l
def res1D (fr : FrD) (H : HpD) : RV → Option D
 | .tmp t => some (lk fr t)
 | .cell1 t => loadD H (lk fr t)
 | .celln n t => loadnD H n (lk fr t)
def resLD (fr : FrD) (H : HpD) : List RV → Option (List D)
 | [] => some []
 | r :: l => match res1D fr H r with
  | some d => match resLD fr H l with
   | some x => some (d :: x)
   | none => none
  | none => none
def tupD : List D → D
 | [d] => d
 | l => .tup l
def optQ (o : Option (List D)) (k : List D → Prop) : Prop := match o with
 | some l => k l
 | none => False
def endD (rs : List RV) (R : D → HpD → Prop) : ResD → Prop
 | .ok fr H => optQ (resLD fr H rs) fun l => R (tupD l) H
 | .ret fr H => optQ (resLD fr H rs) fun l => R (tupD l) H
 | .exit _ _ _ => False
theorem argsD_ok {h : Hp} {ψ : Nat → Option Nat} {S : Nat → Prop} {args : List D} {vs : List V} (k : VDl h ψ S args vs) : FrR h ψ S (argsD 0 args) (argsFr vs 0 .leaf) := by
 have key : ∀ (args : List D) (n t : Nat), lk (argsD n args) t = if n ≤ t then (args[t - n]?).getD .any else .any := by
  intro args
  induction args with
  | nil => intro n t; simp [argsD, lk]
  | cons d l ih =>
   intro n t;simp only [argsD, lk]
   by_cases e : n = t
   ·subst e; simp
   ·rw [show Nat.beq n t = false from by rw [nbeq_d]; exact decide_eq_false e, cond_false, ih]
    by_cases hle : n ≤ t
    ·rw [if_pos (by omega), if_pos hle, show t - n = (t - (n + 1)) + 1 from by omega, List.getElem?_cons_succ]
    ·rw [if_neg (by omega), if_neg hle]
 intro t;rw [key, ev_argsFr];simp only [Nat.zero_le, if_true, Nat.sub_zero, true_and]
 cases e : args[t]? with
 | none => simp [VD]
 | some d =>
  obtain ⟨v, e1, k1⟩ := VDl.get k e;have hlt := (List.getElem?_eq_some_iff.1 e1).1;rw [if_pos (by omega)];simp only [Option.getD_some, List.getD_eq_getElem?_getD, e1];exact k1
theorem res1D_ok {h : Hp} {ψ : Nat → Option Nat} {S : Nat → Prop} {H : HpD} (s : SR p.gl ψ S H h) {fr : FrD} {fv : Fr} (k : FrR h ψ S fr fv) {r : RV} {d : D} (e : res1D fr H r = some d) : ∃ v, res1 fv h r = some v ∧ VD h ψ S d v := by
 cases r with
 | tmp t => cases e; exact ⟨_, rfl, k t⟩
 | cell1 t =>
  obtain ⟨v, e1, kv⟩ := loadD_ok s (k t) e;unfold loadV at e1;split at e1
  case h_2 => cases e1
  rename_i b o hb;refine ⟨v, ?_, kv⟩;simp only [res1, hb];rw [← at1_eq] at e1;rw [Hp.at1_iff.1 e1]
 | celln n t =>
  obtain ⟨v, e1, kv⟩ := loadnD_ok s (k t) e;unfold loadnV at e1;split at e1
  case h_2 => cases e1
  rename_i b o hb;refine ⟨v, ?_, kv⟩;simp only [res1, hb];unfold aggO at e1;split at e1
  ·rename_i l hl; rw [hl]; exact e1
  ·cases e1
theorem resLD_ok {h : Hp} {ψ : Nat → Option Nat} {S : Nat → Prop} {H : HpD} (s : SR p.gl ψ S H h) {fr : FrD} {fv : Fr} (k : FrR h ψ S fr fv) : ∀ {rs : List RV} {l : List D}, resLD fr H rs = some l → ∃ vs, resV fv h rs = some vs ∧ VDl h ψ S l vs
 | [], _, e => by cases e; exact ⟨[], rfl, by simp [VDl]⟩
 | r :: rs, _, e => by
  simp only [resLD] at e;split at e
  case h_2 => cases e
  rename_i d hd;split at e
  case h_2 => cases e
  rename_i x hx;cases e;obtain ⟨v, e1, k1⟩ := res1D_ok s k hd;obtain ⟨vs, e2, k2⟩ := resLD_ok s k hx;exact ⟨v :: vs, by simp only [resV, e1, e2], by simp only [VDl]; exact ⟨v, vs, rfl, k1, k2⟩⟩
theorem tupD_ok {h : Hp} {ψ : Nat → Option Nat} {S : Nat → Prop} {l : List D} {vs : List V} (k : VDl h ψ S l vs) : VD h ψ S (tupD l) (tupOf vs) := by
 match l, k with
 | [], k => simp only [VDl] at k; subst k; simp [tupD, tupOf, VD, VDl]
 | [d], k =>
  simp only [VDl] at k;obtain ⟨v, r, rfl, k1, rfl⟩ := k;exact k1
 | d :: d' :: l, k =>
  have k0 := k;simp only [VDl] at k;obtain ⟨v, r, rfl, _, v', r', rfl, _, _⟩ := k;simp only [tupD, tupOf, VD];exact ⟨_, rfl, k0⟩
theorem enterD {f : Nat} {m : Fun} {kc : KC} (he : ∀ args h, ext f args h = none) (hf : p.funs.get f = some m) (hb : m.body = kc.erase) (hk : kc.ok = true) {args : List D} {H : HpD} {R : D → HpD → Prop} (hn : args.length = m.nargs)
  (hs : Sem p ext (endD m.results R) (.code kc [] .mk (argsD 0 args) H)) : WcD p ext f args H R := by
 intro ψ S h vs s k;refine enter (he _ _) hf (by rw [k.length, hn]) ?_;rw [hb];refine hs hk rfl ψ S h _ _ s (argsD_ok k) ?_;rintro r ⟨r', k1, k2⟩
 have fin : ∀ fr fv H' h', (∃ ψ' S', Ex h ψ S h' ψ' S' ∧ SR p.gl ψ' S' H' h' ∧ FrR h' ψ' S' fr fv) → optQ (resLD fr H' m.results) (fun l => R (tupD l) H') → ∃ v, resP fv h' m.results = some (v, h') ∧ ∃ ψ' S' d H', Ex h ψ S h' ψ' S' ∧ SR p.gl ψ' S' H' h' ∧ VD h' ψ' S' d v ∧ R d H' := by
  rintro fr fv H' h' ⟨ψ', S', x, s', kf⟩ k;unfold optQ at k;split at k
  case h_2 => exact k.elim
  rename_i l hl;obtain ⟨us, e1, k1⟩ := resLD_ok s' kf hl;exact ⟨tupOf us, by simp only [resP, e1], ψ', S', tupD l, H', x, s', tupD_ok k1, k⟩
 cases r with
 | fail => cases r' <;> exact k1.elim
 | ok fv h' => cases r' with
  | ok fr H' => exact fin fr fv H' h' k1 k2
  | exit => exact k1.elim
  | ret => exact k1.elim
 | ret fv h' => cases r' with
  | ret fr H' => exact fin fr fv H' h' k1 k2
  | exit => exact k1.elim
  | ok => exact k1.elim
 | exit id fv h' => cases r' with
  | exit => exact k2.elim
  | ok => exact k1.elim
  | ret => exact k1.elim
def loopQ (J : FrD → HpD → Prop) (p : Prog) (ext : Ext) (Q : ResD → Prop) (K : List KD) : ResD → Prop
 | .ok fr H => J fr H
 | .exit id fr H => Sem p ext Q (.res (.exit id fr H) K .mk)
 | .ret fr H => Sem p ext Q (.res (.ret fr H) [] .mk)
theorem post_ok {ψ : Nat → Option Nat} {S : Nat → Prop} {h : Hp} {H : HpD} {fr : FrD} {fv : Fr} (s : SR p.gl ψ S H h) (k : FrR h ψ S fr fv) {R : ResD → Prop} (hr : R (.ok fr H)) : Post p.gl ψ S h R (.ok fv h) := ⟨.ok fr H, ⟨ψ, S, .refl, s, k⟩, hr⟩
theorem sem_loop {c : KC} {K : List KD} (I : Nat → FrD → HpD → Prop) (hI : ∀ k fr H, I k fr H → Sem p ext (loopQ (fun fr' H' => ∃ k', k' < k ∧ I k' fr' H') p ext Q K) (.code c [] .mk fr H)) {k : Nat} {fr : FrD} {H : HpD} (hi : I k fr H) : Sem p ext Q (.code (.loop c) K .mk fr H) := by
 intro hc hK ψ S h fv P s kf hP;refine ws_loop (fun k fv' h' => ∃ ψ' S' fr' H', Ex h ψ S h' ψ' S' ∧ SR p.gl ψ' S' H' h' ∧ FrR h' ψ' S' fr' fv' ∧ I k fr' H') ?_ (k := k) ⟨ψ, S, fr, H, .refl, s, kf, hi⟩;rintro k1 fv1 h1 ⟨ψ1, S1, fr1, H1, x1, s1, kf1, hi1⟩;refine hI k1 fr1 H1 hi1 hc rfl ψ1 S1 h1 fv1 _ s1 kf1 ?_;rintro r ⟨r', k1', k2⟩
 cases r with
 | fail => cases r' <;> exact k1'.elim
 | ok fv' h' => cases r' with
  | ok fr' H' =>
   obtain ⟨ψ', S', x, s', kf'⟩ := k1';obtain ⟨k', hlt, hi'⟩ := k2;exact ⟨k', hlt, ψ', S', fr', H', x1.trans x, s', kf', hi'⟩
  | exit => exact k1'.elim
  | ret => exact k1'.elim
 | exit id fv' h' => cases r' with
  | exit id' fr' H' =>
   obtain ⟨rfl, ψ', S', x, s', kf'⟩ := k1';exact k2 hK ψ' S' h' fv' P s' kf' fun r hr => hP r (hr.up (x1.trans x))
  | ok => exact k1'.elim
  | ret => exact k1'.elim
 | ret fv' h' => cases r' with
  | ret fr' H' =>
   obtain ⟨ψ', S', x, s', kf'⟩ := k1';exact RK_ret (k2 rfl ψ' S' h' fv' P s' kf' fun r hr => hP r (hr.up (x1.trans x)))
  | ok => exact k1'.elim
  | exit => exact k1'.elim
theorem sem_ok {fr : FrD} {H : HpD} (hq : Q (.ok fr H)) : Sem p ext Q (.res (.ok fr H) [] .mk) := fun _ _ _ _ _ _ s kf hP => hP _ (post_ok s kf hq)
theorem sem_exit {id : Nat} {fr : FrD} {H : HpD} (hq : Q (.exit id fr H)) : Sem p ext Q (.res (.exit id fr H) [] .mk) := fun _ ψ S _ _ _ s kf hP => hP _ ⟨.exit id fr H, ⟨rfl, ψ, S, .refl, s, kf⟩, hq⟩
theorem sem_ret {fr : FrD} {H : HpD} (hq : Q (.ret fr H)) : Sem p ext Q (.res (.ret fr H) [] .mk) := fun _ ψ S _ _ _ s kf hP => hP _ ⟨.ret fr H, ⟨ψ, S, .refl, s, kf⟩, hq⟩
def okQ (J : FrD → HpD → Prop) : ResD → Prop
 | .ok fr H => J fr H
 | _ => False
theorem sem_cut {c : KC} {K : List KD} {fr : FrD} {H : HpD} (J : FrD → HpD → Prop) (h1 : Sem p ext (okQ J) (.code c [] .mk fr H)) (h2 : ∀ fr' H', J fr' H' → Sem p ext Q (.res (.ok fr' H') K .mk)) : Sem p ext Q (.code c K .mk fr H) := by
 intro hc hK ψ S h fv P s kf hP;refine ws_cut (fun fv' h' => ∃ ψ' S' fr' H', Ex h ψ S h' ψ' S' ∧ SR p.gl ψ' S' H' h' ∧ FrR h' ψ' S' fr' fv' ∧ J fr' H') ?_ ?_
 ·refine h1 hc rfl ψ S h fv _ s kf ?_;rintro r ⟨r', k1, k2⟩
  cases r with
  | ok fv' h' => cases r' with
   | ok fr' H' => obtain ⟨ψ', S', x, s', kf'⟩ := k1; exact ⟨ψ', S', fr', H', x, s', kf', k2⟩
   | exit => exact k1.elim
   | ret => exact k1.elim
  | fail => cases r' <;> exact k1.elim
  | exit => cases r' <;> first | exact k1.elim | exact k2.elim
  | ret => cases r' <;> first | exact k1.elim | exact k2.elim
 ·rintro fv' h' ⟨ψ', S', fr', H', x, s', kf', j⟩;exact h2 fr' H' j hK ψ' S' h' fv' P s' kf' fun r hr => hP r (hr.up x)
def Weak (args : List D) (fr : FrD) (H : HpD) (args' : List D) (fr' : FrD) (H' : HpD) : Prop :=
 ∀ (G : Nat → Option (Blk → Prop)) ψ S h fv vs, SR G ψ S H h → FrR h ψ S fr fv → VDl h ψ S args vs → ∃ ψ' S', Ex h ψ S h ψ' S' ∧ SR G ψ' S' H' h ∧ FrR h ψ' S' fr' fv ∧ VDl h ψ' S' args' vs
theorem Weak.refl {a : List D} {fr : FrD} {H : HpD} : Weak a fr H a fr H := fun _ ψ S _ _ _ s k kv => ⟨ψ, S, .refl, s, k, kv⟩
theorem sem_weak {c : KC} {K : List KD} {fr fr' : FrD} {H H' : HpD} (w : Weak [] fr H [] fr' H') (hs : Sem p ext Q (.code c K .mk fr' H')) : Sem p ext Q (.code c K .mk fr H) := by
 intro hc hK ψ S h fv P s kf hP;obtain ⟨ψ', S', x, s', k', _⟩ := w _ ψ S h fv [] s kf (by simp [VDl]);exact hs hc hK ψ' S' h fv P s' k' fun r hr => hP r (hr.up x)
theorem sem_weak_ok {K : List KD} {fr fr' : FrD} {H H' : HpD} (w : Weak [] fr H [] fr' H') (hs : Sem p ext Q (.res (.ok fr' H') K .mk)) : Sem p ext Q (.res (.ok fr H) K .mk) := by
 intro hK ψ S h fv P s kf hP;obtain ⟨ψ', S', x, s', k', _⟩ := w _ ψ S h fv [] s kf (by simp [VDl]);exact hs hK ψ' S' h fv P s' k' fun r hr => hP r (hr.up x)
def WeakV (d : D) (H : HpD) (d' : D) (H' : HpD) : Prop := ∀ (G : Nat → Option (Blk → Prop)) ψ S h v, SR G ψ S H h → VD h ψ S d v → ∃ ψ' S', Ex h ψ S h ψ' S' ∧ SR G ψ' S' H' h ∧ VD h ψ' S' d' v
theorem WeakV.refl {d : D} {H : HpD} : WeakV d H d H := fun _ ψ S _ _ s k => ⟨ψ, S, .refl, s, k⟩
theorem WeakV.trans {d d1 d2 : D} {H H1 H2 : HpD} (x : WeakV d H d1 H1) (y : WeakV d1 H1 d2 H2) : WeakV d H d2 H2 := by
 intro G ψ S h v s k;obtain ⟨ψ1, S1, x1, s1, k1⟩ := x _ ψ S h v s k;obtain ⟨ψ2, S2, x2, s2, k2⟩ := y _ ψ1 S1 h v s1 k1;exact ⟨ψ2, S2, x1.trans x2, s2, k2⟩
theorem WeakV.le {d d' : D} {H : HpD} (l : D.le d d') : WeakV d H d' H := fun _ ψ S _ _ s k => ⟨ψ, S, .refl, s, VD.le _ _ l k⟩
theorem SR.freeze {G : Nat → Option (Blk → Prop)} {ψ : Nat → Option Nat} {S : Nat → Prop} {H : HpD} {h : Hp} (s : SR G ψ S H h) {b c : Nat} (hb : ψ b = some c) : Ex h ψ S h ψ (fun x => S x ∨ x = c) ∧ SR G ψ (fun x => S x ∨ x = c) (H.put b .gone) h := by
 have x0 : Ex h ψ S h ψ (fun x => S x ∨ x = c) := ⟨fun _ _ e => e, fun _ k => ⟨.inl k, rfl⟩⟩;refine ⟨x0, s.inj, s.dom, fun x k => ?_, fun b' hl => ?_, s.glx x0⟩
 ·rcases k with k | rfl
  ·exact s.frz x k
  ·exact (s.dom b _ hb).2
 ·rw [put_blk] at hl ⊢
  by_cases e : b' = b
  ·subst e; rw [if_pos rfl] at hl; cases hl
  ·rw [if_neg e] at hl ⊢;obtain ⟨c', h1, h2, h3⟩ := s.live b' hl;refine ⟨c', h1, ?_, h3.mono x0⟩;rintro (k | rfl)
   ·exact h2 k
   ·exact e (s.inj _ _ _ h1 hb)
mutual
def frz (b sz n : Nat) (el : List (List D)) : D → D
 | .slice b' o sz' n' cap ex => if b' = b ∧ o = 0 ∧ sz' = sz ∧ n' = n ∧ n ≤ cap then .row sz (if cap = n ∧ ex = true then .c else .p) el else .slice b' o sz' n' cap ex
 | .agg l => .agg (frzs b sz n el l)
 | .tup l => .tup (frzs b sz n el l)
 | .row s m l => .row s m (frzss b sz n el l)
 | d => d
def frzs (b sz n : Nat) (el : List (List D)) : List D → List D
 | [] => []
 | d :: l => frz b sz n el d :: frzs b sz n el l
def frzss (b sz n : Nat) (el : List (List D)) : List (List D) → List (List D)
 | [] => []
 | e :: l => frzs b sz n el e :: frzss b sz n el l
end
theorem frzs_length {b sz n : Nat} {el : List (List D)} : ∀ l : List D, (frzs b sz n el l).length = l.length
 | [] => rfl
 | d :: l => by simp [frzs, frzs_length l]
theorem frzss_length {b sz n : Nat} {el : List (List D)} : ∀ l : List (List D), (frzss b sz n el l).length = l.length
 | [] => rfl
 | d :: l => by simp [frzss, frzss_length l]
section
variable {h : Hp} {ψ : Nat → Option Nat} {S S2 : Nat → Prop} {b c sz n : Nat} {el : List (List D)}
mutual
theorem VD.frz (x : Ex h ψ S h ψ S2) (hb : ψ b = some c) (hr : ∀ cap ex, n ≤ cap → VD h ψ S2 (.row sz (if cap = n ∧ ex = true then .c else .p) el) (.slice c 0 sz n cap ex)) : ∀ (d : D) {v : V}, VD h ψ S d v → VD h ψ S2 (frz b sz n el d) v
 | .slice b' o sz' n' cap ex, v, k => by
  simp only [Go.Dv.frz];split
  ·rename_i hh;obtain ⟨rfl, rfl, rfl, rfl, hc⟩ := hh;simp only [VD] at k;obtain ⟨c', e, rfl⟩ := k;rw [hb] at e; cases e;exact hr cap ex hc
  ·exact VD.mono x _ k
 | .agg l, _, k => by
  simp only [Go.Dv.frz, VD] at k ⊢;obtain ⟨v', rfl, k⟩ := k;exact ⟨v', rfl, VDl.frz x hb hr l k⟩
 | .tup l, _, k => by
  simp only [Go.Dv.frz, VD] at k ⊢;obtain ⟨v', rfl, k⟩ := k;exact ⟨v', rfl, VDl.frz x hb hr l k⟩
 | .row s m l, _, k => by
  simp only [Go.Dv.frz, VD] at k ⊢;rcases k with ⟨rfl, rfl⟩ | ⟨b1, o, c1, ex, rfl, h1, h2, k⟩
  ·exact .inl ⟨rfl, rfl⟩
  ·refine .inr ⟨b1, o, c1, ex, by rw [frzss_length], by rw [frzss_length]; exact h1, by rw [frzss_length]; exact h2, ?_⟩;rcases k with ⟨hw, rfl⟩ | ⟨cs, ro, hs, hbk, hp⟩
   ·exact .inl ⟨hw, rfl⟩
   ·exact .inr ⟨cs, ro, (x.frz b1 hs).1, hbk, VDss.frz x hb hr s l hp⟩
 | .any, _, _ => by simp [Go.Dv.frz, VD]
 | .lit _, _, k => VD.mono x _ k
 | .ptr _ _, _, k => VD.mono x _ k
 | .rptr _ _, _, k => VD.mono x _ k
 | .map _, _, k => VD.mono x _ k
 | .func _ _ _, _, k => VD.mono x _ k
 | .iface _ _, _, k => VD.mono x _ k
theorem VDl.frz (x : Ex h ψ S h ψ S2) (hb : ψ b = some c) (hr : ∀ cap ex, n ≤ cap → VD h ψ S2 (.row sz (if cap = n ∧ ex = true then .c else .p) el) (.slice c 0 sz n cap ex)) : ∀ (l : List D) {vs : List V}, VDl h ψ S l vs → VDl h ψ S2 (frzs b sz n el l) vs
 | [], _, k => by simpa [frzs, VDl] using k
 | d :: l, _, k => by
  simp only [frzs, VDl] at k ⊢;obtain ⟨v, r, rfl, h1, h2⟩ := k;exact ⟨v, r, rfl, VD.frz x hb hr d h1, VDl.frz x hb hr l h2⟩
theorem VDp.frz (x : Ex h ψ S h ψ S2) (hb : ψ b = some c) (hr : ∀ cap ex, n ≤ cap → VD h ψ S2 (.row sz (if cap = n ∧ ex = true then .c else .p) el) (.slice c 0 sz n cap ex)) : ∀ (l : List D) {vs : List V}, VDp h ψ S l vs → VDp h ψ S2 (frzs b sz n el l) vs
 | [], _, _ => by simp [frzs, VDp]
 | d :: l, _, k => by
  simp only [frzs, VDp] at k ⊢;obtain ⟨v, r, rfl, h1, h2⟩ := k;exact ⟨v, r, rfl, VD.frz x hb hr d h1, VDp.frz x hb hr l h2⟩
theorem VDss.frz (x : Ex h ψ S h ψ S2) (hb : ψ b = some c) (hr : ∀ cap ex, n ≤ cap → VD h ψ S2 (.row sz (if cap = n ∧ ex = true then .c else .p) el) (.slice c 0 sz n cap ex)) (s : Nat) : ∀ (l : List (List D)) {vs : List V}, VDss h ψ S s l vs → VDss h ψ S2 s (frzss b sz n el l) vs
 | [], _, _ => by simp [frzss, VDss]
 | e :: l, _, k => by
  simp only [frzss, VDss] at k ⊢;exact ⟨by rw [frzs_length]; exact k.1, VDp.frz x hb hr e k.2.1, VDss.frz x hb hr s l k.2.2⟩
end
end
theorem frz_row {G : Nat → Option (Blk → Prop)} {ψ : Nat → Option Nat} {S : Nat → Prop} {H : HpD} {h : Hp} (s : SR G ψ S H h) {b sz : Nat} {el : List (List D)} {ro : Bool} (hb : H.blk b = .cells el.flatten ro) (he : ∀ e, e ∈ el → e.length = sz) :
  ∃ c, ψ b = some c ∧ ∀ cap ex, el.length ≤ cap → VD h ψ (fun x => S x ∨ x = c) (.row sz (if cap = el.length ∧ ex = true then .c else .p) el) (.slice c 0 sz el.length cap ex) := by
 obtain ⟨c, h1, h2, l', h3, h4⟩ : ∃ c, ψ b = some c ∧ ¬ S c ∧ ∃ l', h.blk c = .cells l' ro ∧ VDl h ψ S el.flatten l' := by
  obtain ⟨c, h1, h2, h3⟩ := s.live b (by rw [hb]; rfl);rw [hb] at h3;exact ⟨c, h1, h2, h3⟩
 have x0 := (s.freeze h1).1;refine ⟨c, h1, fun cap ex hc => ?_⟩;simp only [VD];refine .inr ⟨c, 0, cap, ex, rfl, hc, fun e => ?_, .inr ⟨l', ro, .inr rfl, h3, ?_⟩⟩
 ·split at e
  ·assumption
  ·cases e
 ·have := VDss.of (us := []) he (VDl.mono x0 _ h4);simpa using this
theorem WeakV.freeze {d : D} {H : HpD} {sz b : Nat} {el : List (List D)} {ro : Bool} (hb : H.blk b = .cells el.flatten ro) (he : ∀ e, e ∈ el → e.length = sz) : WeakV d H (frz b sz el.length el d) (H.put b .gone) := by
 intro G ψ S h v s kv;obtain ⟨c, h1, hr⟩ := frz_row s hb he;obtain ⟨x0, s0⟩ := s.freeze h1;exact ⟨ψ, _, x0, s0, VD.frz x0 h1 hr _ kv⟩
def BD.under (n : Nat) : BD → Prop
 | .cells l _ => D.unders n l
 | .map _ l => ∀ k d, (k, d) ∈ l → d.under n
 | .gone => True
structure Sub (H H' : HpD) : Prop where
 next : H.next ≤ H'.next
 blk : ∀ b, b < H.next → H'.blk b = H.blk b
theorem Sub.refl {H : HpD} : Sub H H := ⟨Nat.le_refl _, fun _ _ => rfl⟩
theorem Sub.trans {H H1 H2 : HpD} (a : Sub H H1) (b : Sub H1 H2) : Sub H H2 := ⟨Nat.le_trans a.next b.next, fun x hx => (b.blk x (Nat.lt_of_lt_of_le hx a.next)).trans (a.blk x hx)⟩
theorem Sub.new {H H1 : HpD} (a : Sub H H1) {x : BD} : Sub H (H1.new x) := ⟨Nat.le_succ_of_le a.next, fun b hb => by rw [new_blk, if_neg, a.blk b hb]; have := a.next; omega⟩
theorem Sub.put {H H1 : HpD} (a : Sub H H1) {b : Nat} {x : BD} (hb : H.next ≤ b) : Sub H (H1.put b x) := ⟨a.next, fun c hc => by rw [put_blk, if_neg (by omega), a.blk c hc]⟩
structure Neat (H : HpD) : Prop where
 gone : ∀ b, H.next ≤ b → H.blk b = .gone
 under : ∀ b, (H.blk b).under H.next
theorem VDm.under {h : Hp} {ψ : Nat → Option Nat} {S : Nat → Prop} {n : Nat} (hn : ∀ b c, ψ b = some c → b < n) : ∀ {l : List (V × D)} {vs : List (V × V)}, VDm h ψ S l vs → ∀ k d, (k, d) ∈ l → d.under n
 | [], _, _, _, _, hm => by cases hm
 | (a, w) :: l, _, k, key, d, hm => by
  simp only [VDm] at k;obtain ⟨v, r, rfl, h1, h2⟩ := k;rcases List.mem_cons.1 hm with e | hm
  ·cases e; exact VD.under hn _ h1
  ·exact VDm.under hn h2 key d hm
theorem VDm.cut {h : Hp} {ψ : Nat → Option Nat} {S : Nat → Prop} {n : Nat} : ∀ {l : List (V × D)} {vs : List (V × V)}, (∀ k d, (k, d) ∈ l → d.under n) → VDm h ψ S l vs → VDm h (cutE ψ n) S l vs
 | [], _, _, k => k
 | (a, w) :: l, _, hu, k => by
  simp only [VDm] at k ⊢;obtain ⟨v, r, rfl, h1, h2⟩ := k;exact ⟨v, r, rfl, VD.cut _ (hu a w (List.mem_cons_self ..)) h1, VDm.cut (fun k d hm => hu k d (List.mem_cons_of_mem _ hm)) h2⟩
theorem BR.cut {h : Hp} {ψ : Nat → Option Nat} {S : Nat → Prop} {n : Nat} : ∀ {x : BD} {y : Blk}, x.under n → BR h ψ S x y → BR h (cutE ψ n) S x y
 | .cells l ro, _, hu, k => by obtain ⟨l', rfl, k⟩ := k; exact ⟨l', rfl, VDl.cut l hu k⟩
 | .map kk l, _, hu, k => by obtain ⟨l', rfl, k⟩ := k; exact ⟨l', rfl, VDm.cut hu k⟩
 | .gone, _, _, _ => trivial
theorem SR.neat {G : Nat → Option (Blk → Prop)} {ψ : Nat → Option Nat} {S : Nat → Prop} {H : HpD} {h : Hp} (s : SR G ψ S H h) : Neat H := by
 have hn : ∀ b c, ψ b = some c → b < H.next := fun b c e => (s.dom b c e).1;refine ⟨fun b hb => ?_, fun b => ?_⟩
 ·cases e : (H.blk b).isGone with
  | false => obtain ⟨c, h1, _⟩ := s.live b e; have := hn b c h1; omega
  | true => cases e2 : H.blk b with
   | gone => rfl
   | cells => rw [e2] at e; cases e
   | map => rw [e2] at e; cases e
 ·cases e : H.blk b with
  | gone => trivial
  | cells l ro =>
   obtain ⟨c, h1, h2, h3⟩ := s.live b (by rw [e]; rfl);rw [e] at h3;obtain ⟨l', _, k⟩ := h3;exact VDl.under hn l k
  | map kk l =>
   obtain ⟨c, h1, h2, h3⟩ := s.live b (by rw [e]; rfl);rw [e] at h3;obtain ⟨l', _, k⟩ := h3;exact VDm.under hn k
theorem SR.cut {G : Nat → Option (Blk → Prop)} {ψ : Nat → Option Nat} {S : Nat → Prop} {H H1 : HpD} {h : Hp} (s : SR G ψ S H1 h) (hs : Sub H H1) (hn : Neat H) : SR G (cutE ψ H.next) S H h := by
 refine ⟨fun b b' c h1 h2 => ?_, fun b c e => ?_, s.frz, fun b hl => ?_, s.gl⟩
 ·rw [cutE_some] at h1 h2; exact s.inj _ _ _ h1.2 h2.2
 ·rw [cutE_some] at e; exact ⟨e.1, (s.dom _ _ e.2).2⟩
 ·have hb : b < H.next := by
   refine Nat.lt_of_not_le fun hh => ?_;rw [hn.gone b hh] at hl; cases hl
  obtain ⟨c, h1, h2, h3⟩ := s.live b (by rw [hs.blk b hb]; exact hl);rw [hs.blk b hb] at h3;exact ⟨c, cutE_some.2 ⟨hb, h1⟩, h2, h3.cut (hn.under b)⟩
theorem WcD.drop {f : Nat} {args : List D} {H : HpD} {R : D → HpD → Prop} (hw : WcD p ext f args H fun d H' => ∃ d2 H2, WeakV d H' d2 H2 ∧ Sub H H2 ∧ d2.under H.next ∧ R d2 H) : WcD p ext f args H R := by
 intro ψ S h vs s k;refine (hw ψ S h vs s k).mono ?_;rintro v h' ⟨ψ', S', d, H', x, s', kd, d2, H2, w, sub, hu, r⟩;obtain ⟨ψ2, S2, x2, s2, k2⟩ := w _ ψ' S' h' v s' kd;refine ⟨cutE ψ2 H.next, S2, d2, H, ⟨fun b c e => cutE_some.2 ⟨(s.dom b c e).1, (x.trans x2).emb b c e⟩, (x.trans x2).frz⟩, s2.cut sub s.neat, VD.cut _ hu k2, r⟩
def FnD (p : Prog) (ext : Ext) (f : Nat) (args : List D) (d : D) : Prop := ∀ H, WcD p ext f args H fun d' H' => d' = d ∧ H' = H
theorem sem_fn {f : Nat} {args args' : List D} {d : D} (hf : FnD p ext f args' d) {dst : Option Nat} {l : List MO} {fz lv : List Nat} {K : List KD} {fr : FrD} {H : HpD} (ha : D.les args args') (hs : Sem p ext Q (.ops l fz lv K .mk (putD fr dst d) H)) : Sem p ext Q (.call f args dst l fz lv K .mk fr H) :=
 sem_call ((hf H).args ha) fun _ _ ⟨e1, e2⟩ => by rw [e1, e2]; exact hs
theorem sem_dfn {f : Nat} {args args' : List D} {d : D} (hf : FnD p ext f args' d) {dst : Option Nat} {l : List DO} {lv : List Nat} {K : List KD} {i : Nat} {cs : List (Nat × List Nat)} {ws : List (Nat × Nat)} {pst : List (Nat × HpD)} {fr : FrD} {H : HpD} (ha : D.les args args')
  (hs : Sem p ext Q (.dops l lv K ((i + 1, []) :: dirtyN dst cs) ws .mk (i + 1) H.next ((i + 1, H) :: pst) (putD fr dst d) H)) : Sem p ext Q (.dcall f args dst l lv K cs ws .mk i pst fr H) :=
 sem_dcall ((hf H).args ha) fun _ _ ⟨e1, e2⟩ => by rw [e1, e2]; exact hs
end
end Go.Dv
end

section
namespace Go.Vm
open Go.RowKit
variable {P : Program}
def tblAt : List (Nat × Blk) → Nat → Option Blk
 | [], _ => none
 | (g, l) :: t, b => cond (Nat.beq g b) (some l) (tblAt t b)
def laidT : List (Nat × Blk) → T Blk
 | [] => .leaf
 | (g, l) :: t => (laidT t).set g l
def laidH (gs k : Nat) (t : List (Nat × Blk)) : Hp := { next := gs + k, t := laidT t }
theorem blk_laidH {gs k : Nat} : ∀ (t : List (Nat × Blk)) (b : Nat), (laidH gs k t).blk b = match tblAt t b with
  | some l => l
  | none => .gone
 | [], b => by simp [laidH, laidT, Hp.blk, tblAt]
 | (g, l) :: t, b => by
  have ih := blk_laidH (gs := gs) (k := k) t b;simp only [laidH, laidT, Hp.blk, T.get_set, tblAt, nbeq_d] at ih ⊢
  by_cases e : b = g
  ·subst e; simp
  ·rw [if_neg e, show decide (g = b) = false from decide_eq_false fun h => e h.symm];exact ih
def Blk.long : Blk → Nat
 | .cells l _ => l.length
 | _ => 0
def laidE (P : Program) (t : List (Nat × Blk)) (pls : List Place) (σ : Nat → Value) : Emb :=
 ⟨fun b => if b < P.globals.size then some ⟨b, 0, ((tblAt t b).getD .gone).long⟩ else pls[b - P.globals.size]?, σ⟩
def LaidW (P : Program) (φ : Emb) (w : World) (t : List (Nat × Blk)) : Prop :=
 ∀ g x, tblAt t g = some x → g < P.globals.size ∧ x.open_ = false ∧ BlkAt φ w ⟨g, 0, x.long⟩ x
theorem laid_ro {φ : Emb} {gs k : Nat} {t : List (Nat × Blk)} {w : World} (h : LaidW P φ w t) (b : Nat) : ((laidH gs k t).blk b).open_ = false := by
 rw [blk_laidH]
 cases e : tblAt t b with
 | none => rfl
 | some x => exact (h b x e).2.1
theorem laid_hr {t : List (Nat × Blk)} {pls : List Place} {σ : Nat → Value} {w : World} (h : LaidW P (laidE P t pls σ) w t) : HR (laidE P t pls σ) (laidH P.globals.size pls.length t) w := by
 refine ⟨fun b hb => ?_, fun b b' pl pl' _ _ ho => ?_, fun b hb => ?_⟩
 ·rw [blk_laidH] at hb ⊢
  cases e : tblAt t b with
  | none => rw [e] at hb; cases hb
  | some l =>
   obtain ⟨h1, _, h2⟩ := h b l e;refine ⟨⟨b, 0, l.long⟩, ?_, h2⟩;show (if b < P.globals.size then _ else _) = _;rw [if_pos h1, e]; rfl
 ·rw [laid_ro h, laid_ro h] at ho;rcases ho with e | e <;> cases e
 ·rw [blk_laidH]
  cases e : tblAt t b with
  | none => rfl
  | some l =>
   have := (h b l e).1;have hb : P.globals.size + pls.length ≤ b := hb;omega
theorem laid_fr {t : List (Nat × Blk)} {pls : List Place} {σ : Nat → Value} (b : Nat) (hb : (laidH P.globals.size pls.length t).next ≤ b) : (laidE P t pls σ).at_ b = none := by
 have hb : P.globals.size + pls.length ≤ b := hb;show (if b < P.globals.size then _ else _) = _;rw [if_neg (by omega)];exact List.getElem?_eq_none (by omega)
theorem laid_gl {t : List (Nat × Blk)} {pls : List Place} {σ : Nat → Value} : (laidE P t pls σ).glOk P := fun g hg =>
 ⟨((tblAt t g).getD .gone).long, by show (if g < P.globals.size then _ else _) = _; rw [if_pos hg]⟩
theorem Bare.laid {t : List (Nat × Blk)} {pls : List Place} {w : World} (h : LaidW P (laidE P t pls fun _ => .int .i64 0) w t) : Bare P (laidE P t pls fun _ => .int .i64 0) (laidH P.globals.size pls.length t) w where
 hr := laid_hr h
 ro := laid_ro h
 fr := laid_fr
 gl := laid_gl
 sy := rfl
 nx := Nat.le_add_right _ _
theorem top_args_laid (hm : P.follows .mixedOrders = true) {p : Prog} (hp : Valid P p) {ext : Ext} (hrx : Rises ext) (hx : CallOk P p.env ext) (htab : p.env.tab = []) (hints : IntsOk P p.env.ints)
  {f : Nat} (hen : entered P f = true) {ts : List TypeId} {ks : List ArgK} (hks : KindsOk P ts ks) {t : List (Nat × Blk)} {pls : List Place}
  (hw : ∀ (h : Hp) (as : List Arg) (vs : List V), as.map Arg.kind = ks → ArgsV h as vs → P.globals.size ≤ h.next → (∀ x, x < P.globals.size → h.blk x = (laidH P.globals.size pls.length t).blk x) → WPc p ext f vs h fun v _ => v = .bool true)
  {H : Type} {enc : TypeId × Value → H} {w : World} {r : Reach} {b0 : Nat} {us : List Value} {ds : List (DataW H)} {ps : List MemPlace} (hl : LaidW P (laidE P t pls fun _ => .int .i64 0) w t)
  (hval : ∀ (j : Nat) t u, ts[j]? = some t → us[j]? = some u → Value.okWide P w r b0 t u) (hd : DataW.TrodAll enc P w 0 (fun _ => true) true ts us ds ps) :
  Calls P f us.toArray w fun e w' => e = .returned (.bool true) ∧ Below w.heap.size w w' := by
 obtain ⟨φ, h, as, vs, hb, _, _, hk, e, ha, hv⟩ := Bare.args hks (Bare.laid hl) hval hd;exact top_wp hm hp hrx hx hb.hr ⟨fun i => ⟨.i64, 0, by rw [hb.sy]⟩, hb.gl, by rw [htab]; exact fun _ _ _ _ _ _ h => (by cases h), hints⟩ hb.fr hb.ro hen hv (hw h as vs e ha hb.nx fun x hx => hk x (Nat.lt_of_lt_of_le hx (Nat.le_add_right _ _)))
def runsL (p : Prog) (ext : Ext) (n f : Nat) (args : List V) (h : Hp) : Bool :=
 match call p ext n f args h with
 | some (.bool true, _) => true
 | _ => false
theorem handed_laid {H : Type} {enc : TypeId × Value → H} {a : Assume} {C : Checked} {os : Os} {f : FuncId} {fn : Func} {s : ChangeSpec} {conds : List PathCond} {apart fresh handsOn again : Bool} {X : World → Array Value → Prop}
  (hX : ∀ (w w' : World) (args : Array Value), w.heap = w'.heap → X w args → X w' args)
  (own : ownKnob C.prog.godebug = none) (started : os.Started) (noInit : C.prog.inits.idxOf? f = none) (hfn : C.prog.funcs[f]? = some fn)
  (witness : ∃ (w : World) (tape : Tape) (i : Input), w.os = os ∧ (w.forCall tape i).Shaped C.prog ∧ i.vars = [] ∧ Input.okWide C.prog (w.forCall tape i) .any w.heap.size f i ∧
   ((s.pre enc C.prog fn conds apart (w.forCall tape i).memory i.args ∧ X (w.forCall tape i).memory i.args) ∧ sizedMet enc C.prog fn (OpenSpec.ofChange s) apart (w.forCall tape i).memory i.args) ∧ a.holds C.prog (lone (Frame.enter C.prog f i.args .normal) [] (w.forCall tape i)))
  (contract : ∀ (W : World) (base : Nat) (args : Array Value) (ds gs : List (DataW H)) (before : List MemPlace),
   (∀ (j : Nat) t v, fn.params[j]? = some t → args[j]? = some v → Value.okWide C.prog W .any base t v) →
   DataW.Whole enc C.prog fn.params.toList s.vars apart W args.toList ds gs before → W.ShapedOpen C.prog → X W args →
   Calls C.prog f args W fun e W' => ∃ v, e = .returned v ∧ s.post enc C.prog fn apart fresh handsOn again W args v W') :
  ReturnsInHanded a C os f .any (fun w args => (s.pre enc C.prog fn conds apart w args ∧ X w args) ∧ sizedMet enc C.prog fn (OpenSpec.ofChange s) apart w args) (s.post enc C.prog fn apart fresh handsOn again) := by
 refine returnsInHanded_of_calls own started noInit witness ?_;intro w tape i _ hsh _ hok hpre _;obtain ⟨_, _, _, fn', hfn', _, _, _, _, hval⟩ := hok;obtain rfl : fn' = fn := Option.some.inj (hfn'.symm.trans hfn);obtain ⟨⟨⟨ds, gs, before, hw, _⟩, hx⟩, _⟩ := hpre;refine (contract (w.forCall tape i) w.heap.size i.args ds gs before hval (DataW.Whole.of_heap (by rfl) hw) hsh (hX _ _ _ (by rfl) hx)).mono fun e W' ⟨v, he, hp⟩ => ?_;subst he;exact ChangeSpec.post_blind hp
theorem var_heap {W : World} {n : String} {g : Nat} {cs : Array Value} (hg : P.globalNamed n = some g) (h : W.var? P n = some cs) : ∃ e fz, W.heap[g]? = some (.cells cs e fz) := by
 unfold World.var? at h;rw [hg] at h;simp only [Option.bind_some] at h;split at h
 ·rename_i e fz hh;cases h;exact ⟨_, _, hh⟩
 ·cases h
theorem laid_int {φ : Emb} {W : World} {g : Nat} {k : IntKind} {m : Int} (h : W.cell? ⟨g, 0, none⟩ = some (.int k m)) : BlkAt φ W ⟨g, 0, 1⟩ (.cells [.int k m] true) := by
 unfold World.cell? at h;split at h
 ·rename_i c e fz hh;simp at h;obtain ⟨hl, h⟩ := Array.getElem?_eq_some_iff.1 h;have hl : 0 < c.size := hl;refine ⟨Nat.le_refl _, c, e, fz, hh, by simp; omega, fun i v hi => ?_⟩
  cases i with
  | zero => cases hi; exact ⟨_, by rw [Array.getElem?_eq_getElem hl, h], .int k m⟩
  | succ i => simp at hi
 ·cases h
theorem laid_err {φ : Emb} {W : World} {n : String} {g b : Nat} {tp : TypeId} {a : Addr} {s : Value} (hg : P.globalNamed n = some g) (h : W.var? P n = some #[.iface tp (.pointer (some a))]) (hs : W.cell? a = some s) (hb : φ.at_ b = some ⟨a.block, a.off, 0⟩) :
  BlkAt φ W ⟨g, 0, 1⟩ (.cells [.iface tp (.ptr b 0)] true) := by
 obtain ⟨e, fz, hh⟩ := var_heap hg h
 have ha : a = ⟨a.block, a.off + 0, none⟩ := by
  unfold World.cell? at hs;split at hs
  ·split at hs
   ·cases hs
   ·rename_i hn;obtain ⟨x, y, z⟩ := a;simp at hn;subst hn;rfl
  ·cases hs
 refine ⟨Nat.le_refl _, _, e, fz, hh, by simp, fun i v hi => ?_⟩
 cases i with
 | zero =>
  cases hi;refine ⟨_, rfl, .iface _ _ _ ?_⟩;rw [ha];exact .ptr b 0 ⟨a.block, a.off, 0⟩ hb
 | succ i => simp at hi
end Go.Vm
end

section
namespace Go.Dv
open Go.Vm Go.RowKit
variable {P : Program}
def argD : Arg → D
 | .int k n => .lit (.int k n)
 | .bool b => .lit (.bool b)
 | .nums k xs => .row 1 .w (xs.map fun x => [.lit (.int k x)])
def argOk : Arg → Prop
 | .int k n => (Lit.int k n).wf = true
 | .bool _ => True
 | .nums k xs => (∀ x, x ∈ xs → (Lit.int k x).wf = true) ∧ xs.length ≤ maxLen
def H00 : HpD := ⟨0, fun _ => .gone⟩
theorem SR.start {h : Hp} {G : Nat → Option (Blk → Prop)} (hg : ∀ c y, G c = some y → c < h.next ∧ y (h.blk c)) : SR G (fun _ => none) (fun x => x < h.next) H00 h :=
 ⟨fun _ _ _ e => (by cases e), fun _ _ e => (by cases e), fun _ k => k, fun b hl => (by cases hl), hg⟩
theorem nums_ok {h : Hp} {ψ : Nat → Option Nat} {S : Nat → Prop} {j : IntKind} : ∀ {xs : List Int} {cs : List V}, (∀ (i : Nat) (x : Int), xs[i]? = some x → cs[i]? = some (V.int j x)) → VDss h ψ S 1 (xs.map fun x => [.lit (.int j x)]) cs
 | [], _, _ => by simp [VDss]
 | x :: xs, cs, hc => by
  have h0 := hc 0 x rfl
  cases cs with
  | nil => simp at h0
  | cons c cs =>
   simp at h0;subst h0;simp only [List.map_cons, VDss, VDp, List.length_singleton, List.drop_succ_cons, List.drop_zero];exact ⟨trivial, ⟨_, _, rfl, by simp [VD, atomV], trivial⟩, nums_ok fun i y hy => by have := hc (i + 1) y (by simpa using hy); simpa using this⟩
theorem argD_ok {h : Hp} {a : Arg} {v : V} (k : ArgV h a v) : VD h (fun _ => none) (fun x => x < h.next) (argD a) v ∧ argOk a := by
 cases a with
 | int k n => obtain ⟨rfl, hw⟩ := k; exact ⟨by simp [argD, VD, atomV], hw⟩
 | bool b => have : v = .bool b := k; subst this; exact ⟨by simp [argD, VD, atomV], trivial⟩
 | nums j xs =>
  obtain ⟨k1, k2, k3, k4⟩ := k;refine ⟨?_, k2, k3⟩;simp only [argD, VD];rcases k1 with ⟨h1, rfl⟩ | ⟨b, o, c, ex, l, ro, rfl, h1, h2, h3⟩
  ·rcases h1 with rfl | ⟨b, o, c, ex, rfl⟩
   ·exact .inl ⟨rfl, rfl⟩
   ·exact .inr ⟨b, o, c, ex, rfl, Nat.zero_le _, fun e => (by cases e), .inl ⟨trivial, rfl⟩⟩
  ·refine .inr ⟨b, o, c, ex, by simp, by simpa using h2, fun e => (by cases e), .inr ⟨l, ro, k4 b rfl, h1, ?_⟩⟩
   exact nums_ok fun i x hx => by rw [List.getElem?_drop]; exact h3 i x hx
theorem argsOk {h : Hp} : ∀ {as : List Arg} {vs : List V}, ArgsV h as vs → VDl h (fun _ => none) (fun x => x < h.next) (as.map argD) vs ∧ ∀ a, a ∈ as → argOk a
 | [], _, .nil => ⟨by simp [VDl], fun _ hm => by cases hm⟩
 | a :: as, _, .cons ha has => by
  obtain ⟨k1, k2⟩ := argD_ok ha;obtain ⟨k3, k4⟩ := argsOk has;refine ⟨by simp only [List.map_cons, VDl]; exact ⟨_, _, rfl, k1, k3⟩, fun x hx => ?_⟩;rcases List.mem_cons.1 hx with rfl | hx
  ·exact k2
  ·exact k4 x hx
theorem top_dv_laid (hm : P.follows .mixedOrders = true) {p : Prog} (hp : Valid P p) {ext : Go.Vm.Ext} (hrx : Rises ext) (hx : CallOk P p.env ext) (htab : p.env.tab = []) (hints : IntsOk P p.env.ints)
  {f : Nat} (hen : entered P f = true) {ts : List TypeId} {ks : List ArgK} (hks : KindsOk P ts ks) {t : List (Nat × Blk)} {pls : List Go.Vm.Place} (hgl : ∀ c y, p.gl c = some y → c < P.globals.size ∧ y ((laidH P.globals.size pls.length t).blk c))
  (hw : ∀ as : List Arg, as.map Arg.kind = ks → (∀ a, a ∈ as → argOk a) → WcD p ext f (as.map argD) H00 fun d _ => d = .lit (.bool true))
  {H : Type} {enc : TypeId × Value → H} {w : World} {r : Reach} {b0 : Nat} {us : List Value} {ds : List (DataW H)} {ps : List MemPlace} (hl : LaidW P (laidE P t pls fun _ => .int .i64 0) w t)
  (hval : ∀ (j : Nat) t u, ts[j]? = some t → us[j]? = some u → Value.okWide P w r b0 t u) (hd : DataW.TrodAll enc P w 0 (fun _ => true) true ts us ds ps) :
  Calls P f us.toArray w fun e w' => e = .returned (.bool true) ∧ Below w.heap.size w w' := by
 refine top_args_laid hm hp hrx hx htab hints hen hks (fun h as vs e ha hn hk => ?_) hl hval hd;obtain ⟨k1, k2⟩ := argsOk ha;refine (hw as e k2 _ _ h vs (SR.start fun c y e => ?_) k1).mono ?_
 ·obtain ⟨h1, h2⟩ := hgl c y e;exact ⟨Nat.lt_of_lt_of_le h1 hn, by rw [hk c h1]; exact h2⟩
 ·rintro v h' ⟨_, _, d, _, _, _, k, rfl⟩;simp only [VD] at k;exact k.1
end Go.Dv
end

section
namespace Go.Dv
open Go.Vm
def pickO (c : D) (a b : D) : Option D := match c with
 | .lit (.bool t) => some (pickD t a b)
 | _ => none
section
variable {env : Env} {n : Nat} {K : List KD} {fr : FrD} {H : HpD} {fz lv : List Nat} {l : List MO} {d : Option Nat}
theorem run_skip : run env (n + 1) (.code .skip K .mk fr H) = run env n (.res (.ok fr H) K .mk) := by rw [run_eq]; rfl
theorem run_region : run env (n + 1) (.code (.region l fz lv) K .mk fr H) = run env n (.ops l fz lv K .mk fr H) := by rw [run_eq]; rfl
theorem run_dregion {l : List DO} : run env (n + 1) (.code (.dregion l lv) K .mk fr H) = run env n (.dops l lv K [(0, [])] [] .mk 0 H.next [(0, H)] fr H) := by rw [run_eq]; rfl
theorem run_seq {a b : KC} : run env (n + 1) (.code (.seq a b) K .mk fr H) = run env n (.code a (.seq b :: K) .mk fr H) := by rw [run_eq]; rfl
theorem run_cond {c : Opd} {a b : KC} : run env (n + 1) (.code (.cond c a b) K .mk fr H) = boolC (evD fr c) (run env n (.code a K .mk fr H)) (run env n (.code b K .mk fr H)) := by rw [run_eq]; rfl
theorem run_block {id : Nat} {c : KC} : run env (n + 1) (.code (.block id c) K .mk fr H) = run env n (.code c (.block id :: K) .mk fr H) := by rw [run_eq]; rfl
theorem run_loop {c : KC} : run env (n + 1) (.code (.loop c) K .mk fr H) = .code (.loop c) K .mk fr H := by rw [run_eq]; rfl
theorem run_exit {id : Nat} : run env (n + 1) (.code (.exit id) K .mk fr H) = run env n (.res (.exit id fr H) K .mk) := by rw [run_eq]; rfl
theorem run_exit_seq {id : Nat} {b : KC} : run env (n + 1) (.res (.exit id fr H) (.seq b :: K) .mk) = run env n (.res (.exit id fr H) K .mk) := by rw [run_eq]; rfl
theorem run_exit_block {id id' : Nat} : run env (n + 1) (.res (.exit id fr H) (.block id' :: K) .mk) = exitC (decide (id = id')) (run env n (.res (.ok fr H) K .mk)) (run env n (.res (.exit id fr H) K .mk)) := by rw [run_eq, ← nbeq_d]; rfl
theorem exitC_t {a b : Cfg} : exitC true a b = a := rfl
theorem exitC_f {a b : Cfg} : exitC false a b = b := rfl
theorem run_ret : run env (n + 1) (.code .ret K .mk fr H) = .res (.ret fr H) [] .mk := by rw [run_eq]; rfl
theorem run_ok_seq {b : KC} : run env (n + 1) (.res (.ok fr H) (.seq b :: K) .mk) = run env n (.code b K .mk fr H) := by rw [run_eq]; rfl
theorem run_ok_block {id : Nat} : run env (n + 1) (.res (.ok fr H) (.block id :: K) .mk) = run env n (.res (.ok fr H) K .mk) := by rw [run_eq]; rfl
theorem run_ok_nil : run env (n + 1) (.res (.ok fr H) [] .mk) = .res (.ok fr H) [] .mk := by rw [run_eq]; rfl
theorem run_res_exit {id : Nat} : run env (n + 1) (.res (.exit id fr H) [] .mk) = .res (.exit id fr H) [] .mk := by rw [run_eq]; rfl
theorem run_ops_nil : run env (n + 1) (.ops [] fz lv K .mk fr H) = run env n (.res (.ok (keep lv fr) H) K .mk) := by rw [run_eq]; rfl
theorem run_guard {o : MOp} {t : Nat} {w : Bool} : run env (n + 1) (.ops (⟨d, o, some (t, w)⟩ :: l) fz lv K .mk fr H) = gateC (lk fr t) w (run env n (.ops (⟨d, o, none⟩ :: l) fz lv K .mk fr H)) (run env n (.ops l fz lv K .mk (putD fr d (.tup [])) H)) := by rw [run_eq]; rfl
theorem run_mov {x : Opd} : run env (n + 1) (.ops (⟨d, .p (.mov x), none⟩ :: l) fz lv K .mk fr H) = run env n (.ops l fz lv K .mk (putD fr d (evD fr x)) H) := by rw [run_eq]; rfl
theorem run_pick {x y z : Opd} : run env (n + 1) (.ops (⟨d, .p (.pick x y z), none⟩ :: l) fz lv K .mk fr H) = optC (pickO (evD fr x) (evD fr y) (evD fr z)) fun r => run env n (.ops l fz lv K .mk (putD fr d r) H) := by rw [run_eq]; rfl
theorem run_build {c : List V} {ps : List (Nat × Nat × Opd)} : run env (n + 1) (.ops (⟨d, .p (.build c ps), none⟩ :: l) fz lv K .mk fr H) = optC (aggD (fillD (dVs c) (evPartsD fr ps))) fun r => run env n (.ops l fz lv K .mk (putD fr d r) H) := by rw [run_eq]; rfl
theorem run_nilchk {x : Opd} : run env (n + 1) (.ops (⟨d, .p (.nilchk x), none⟩ :: l) fz lv K .mk fr H) = optC (nilchkD (evD fr x)) fun r => run env n (.ops l fz lv K .mk (putD fr d r) H) := by rw [run_eq]; rfl
theorem run_bin {op : BinOp} {x y : Opd} : run env (n + 1) (.ops (⟨d, .p (.bin op x y), none⟩ :: l) fz lv K .mk fr H) = optC (binD env.tab op (evD fr x) (evD fr y)) fun r => run env n (.ops l fz lv K .mk (putD fr d r) H) := by rw [run_eq]; rfl
theorem run_eq_bool {neg : Bool} {x y : Opd} : run env (n + 1) (.ops (⟨d, .p (.eq .bool neg x y), none⟩ :: l) fz lv K .mk fr H) = optC (eqD .bool neg (evD fr x) (evD fr y)) fun r => run env n (.ops l fz lv K .mk (putD fr d r) H) := by rw [run_eq]; rfl
theorem run_neg {x : Opd} : run env (n + 1) (.ops (⟨d, .p (.neg x), none⟩ :: l) fz lv K .mk fr H) = optC (lit1 negV (evD fr x)) fun r => run env n (.ops l fz lv K .mk (putD fr d r) H) := by rw [run_eq]; rfl
theorem run_not {x : Opd} : run env (n + 1) (.ops (⟨d, .p (.not x), none⟩ :: l) fz lv K .mk fr H) = optC (lit1 notV (evD fr x)) fun r => run env n (.ops l fz lv K .mk (putD fr d r) H) := by rw [run_eq]; rfl
theorem run_conv {c : CTy} {x : Opd} : run env (n + 1) (.ops (⟨d, .p (.conv c x), none⟩ :: l) fz lv K .mk fr H) = optC (lit1 (convV c) (evD fr x)) fun r => run env n (.ops l fz lv K .mk (putD fr d r) H) := by rw [run_eq]; rfl
theorem run_mkfunc {f : Nat} {a c : List Opd} : run env (n + 1) (.ops (⟨d, .p (.mkfunc f a c), none⟩ :: l) fz lv K .mk fr H) = run env n (.ops l fz lv K .mk (putD fr d (.func f (evsD fr a) (evsD fr c))) H) := by rw [run_eq]; rfl
theorem run_slc {sz : Nat} {x : Opd} {a b c : Option Opd} : run env (n + 1) (.ops (⟨d, .p (.slc sz x a b c), none⟩ :: l) fz lv K .mk fr H) = optC (slcD sz (evD fr x) (evoD fr a) (evoD fr b) (evoD fr c)) fun r => run env n (.ops l fz lv K .mk (putD fr d r) H) := by rw [run_eq]; rfl
theorem run_sls {x : Opd} {a b : Option Opd} : run env (n + 1) (.ops (⟨d, .p (.sls x a b), none⟩ :: l) fz lv K .mk fr H) = optC (slsD (evD fr x) (evoD fr a) (evoD fr b)) fun r => run env n (.ops l fz lv K .mk (putD fr d r) H) := by rw [run_eq]; rfl
theorem run_faddr {off : Nat} {x : Opd} : run env (n + 1) (.ops (⟨d, .p (.faddr off x), none⟩ :: l) fz lv K .mk fr H) = optC (faddrD off (evD fr x)) fun r => run env n (.ops l fz lv K .mk (putD fr d r) H) := by rw [run_eq]; rfl
theorem run_iaddr {sz : Nat} {x y : Opd} : run env (n + 1) (.ops (⟨d, .p (.iaddr sz x y), none⟩ :: l) fz lv K .mk fr H) = optC (iaddrD sz (evD fr x) (evD fr y)) fun r => run env n (.ops l fz lv K .mk (putD fr d r) H) := by rw [run_eq]; rfl
theorem run_idxs {x y : Opd} : run env (n + 1) (.ops (⟨d, .p (.idxs x y), none⟩ :: l) fz lv K .mk fr H) = optC (idxsD (evD fr x) (evD fr y)) fun r => run env n (.ops l fz lv K .mk (putD fr d r) H) := by rw [run_eq]; rfl
theorem run_ext {x : Opd} {j : Nat} : run env (n + 1) (.ops (⟨d, .p (.ext x j), none⟩ :: l) fz lv K .mk fr H) = optC (extD j (evD fr x)) fun r => run env n (.ops l fz lv K .mk (putD fr d r) H) := by rw [run_eq]; rfl
theorem run_lens {x : Opd} : run env (n + 1) (.ops (⟨d, .p (.lens x), none⟩ :: l) fz lv K .mk fr H) = optC (lit1 lensV (evD fr x)) fun r => run env n (.ops l fz lv K .mk (putD fr d r) H) := by rw [run_eq]; rfl
theorem run_lenb {x : Opd} : run env (n + 1) (.ops (⟨d, .p (.lenb x), none⟩ :: l) fz lv K .mk fr H) = optC (lenbD (evD fr x)) fun r => run env n (.ops l fz lv K .mk (putD fr d r) H) := by rw [run_eq]; rfl
theorem run_max {xs : List Opd} : run env (n + 1) (.ops (⟨d, .p (.max xs), none⟩ :: l) fz lv K .mk fr H) = optC (foldD (max2V env.tab) (evsD fr xs)) fun r => run env n (.ops l fz lv K .mk (putD fr d r) H) := by rw [run_eq]; rfl
theorem run_a {o : AOp} : run env (n + 1) (.ops (⟨d, .a o, none⟩ :: l) fz lv K .mk fr H) = optH (aD fr H (inL d fz) o) fun x H' => run env n (.ops l fz lv K .mk (putD fr d x) H') := by rw [run_eq]; rfl
theorem run_load1 {x : Opd} : run env (n + 1) (.ops (⟨d, .load1 x, none⟩ :: l) fz lv K .mk fr H) = optC (loadD H (evD fr x)) fun x => run env n (.ops l fz lv K .mk (putD fr d x) H) := by rw [run_eq]; rfl
theorem run_loadn {x : Opd} {m : Nat} : run env (n + 1) (.ops (⟨d, .loadn m x, none⟩ :: l) fz lv K .mk fr H) = optC (loadnD H m (evD fr x)) fun x => run env n (.ops l fz lv K .mk (putD fr d x) H) := by rw [run_eq]; rfl
theorem run_call {f : Nat} {a : List Opd} : run env (n + 1) (.ops (⟨d, .e (.call f a), none⟩ :: l) fz lv K .mk fr H) = .call f (evsD fr a) d l fz lv K .mk fr H := by rw [run_eq]; rfl
theorem run_callv {x : Opd} {a : List Opd} : run env (n + 1) (.ops (⟨d, .e (.callv x a), none⟩ :: l) fz lv K .mk fr H) = funC (evD fr x) fun f fi ca => .call f (fi ++ evsD fr a ++ ca) d l fz lv K .mk fr H := by rw [run_eq]; rfl
theorem run_store {sz : Nat} {a x : Opd} : run env (n + 1) (.ops (⟨d, .e (.store sz a x), none⟩ :: l) fz lv K .mk fr H) = optH (storeD H sz (evD fr a) (evD fr x)) fun x H' => run env n (.ops l fz lv K .mk (putD fr d x) H') := by rw [run_eq]; rfl
theorem run_append {sz b : Nat} {a x : Opd} : run env (n + 1) (.ops (⟨d, .e (.append sz b a x), none⟩ :: l) fz lv K .mk fr H) = optH (appendD sz b H (evD fr a) (evD fr x)) fun x H' => run env n (.ops l fz lv K .mk (putD fr d x) H') := by rw [run_eq]; rfl
theorem run_text {x : Opd} : run env (n + 1) (.ops (⟨d, .e (.text x), none⟩ :: l) fz lv K .mk fr H) = optH (textD H (evD fr x)) fun x H' => run env n (.ops l fz lv K .mk (putD fr d x) H') := by rw [run_eq]; rfl
theorem run_mark {m : Opd} : run env (n + 1) (.ops (⟨d, .e (.mark m), none⟩ :: l) fz lv K .mk fr H) = optH (markD H (evD fr m)) fun x H' => run env n (.ops l fz lv K .mk (putD fr d x) H') := by rw [run_eq]; rfl
variable {l : List DO} {i lo hi nx : Nat} {cs : List (Nat × List Nat)} {ws : List (Nat × Nat)} {pst : List (Nat × HpD)}
theorem run_d_nil : run env (n + 1) (.dops [] lv K cs ws .mk i nx pst fr H) = run env n (.res (.ok (keep lv fr) H) K .mk) := by rw [run_eq]; rfl
theorem run_d_guard {o : MOp} {t : Nat} {w : Bool} : run env (n + 1) (.dops (⟨⟨d, o, some (t, w)⟩, lo, hi⟩ :: l) lv K cs ws .mk i nx pst fr H) = gateC (lk fr t) w (run env n (.dops (⟨⟨d, o, none⟩, lo, hi⟩ :: l) lv K cs ws .mk i nx pst fr H))
   (run env n (.dops l lv K (dirtyO d o i cs) (addWin o lo hi ws) .mk (i + 1) (bif isE o then H.next else nx) (bif isE o then (i + 1, H) :: pst else pst) (putD fr d (.tup [])) H)) := by rw [run_eq]; rfl
theorem run_d_mov {x : Opd} : run env (n + 1) (.dops (⟨⟨d, .p (.mov x), none⟩, lo, hi⟩ :: l) lv K cs ws .mk i nx pst fr H) = run env n (.dops l lv K (dirtyP d (.mov x) cs) ws .mk (i + 1) nx pst (putD fr d (evD fr x)) H) := by rw [run_eq]; rfl
theorem run_d_pick {x y z : Opd} : run env (n + 1) (.dops (⟨⟨d, .p (.pick x y z), none⟩, lo, hi⟩ :: l) lv K cs ws .mk i nx pst fr H) = optC (pickO (evD fr x) (evD fr y) (evD fr z)) fun r => run env n (.dops l lv K (dirtyP d (.pick x y z) cs) ws .mk (i + 1) nx pst (putD fr d r) H) := by rw [run_eq]; rfl
theorem run_d_build {c : List V} {ps : List (Nat × Nat × Opd)} : run env (n + 1) (.dops (⟨⟨d, .p (.build c ps), none⟩, lo, hi⟩ :: l) lv K cs ws .mk i nx pst fr H) = optC (aggD (fillD (dVs c) (evPartsD fr ps))) fun r => run env n (.dops l lv K (dirtyP d (.build c ps) cs) ws .mk (i + 1) nx pst (putD fr d r) H) := by rw [run_eq]; rfl
theorem run_d_bin {op : BinOp} {x y : Opd} : run env (n + 1) (.dops (⟨⟨d, .p (.bin op x y), none⟩, lo, hi⟩ :: l) lv K cs ws .mk i nx pst fr H) = optC (binD env.tab op (evD fr x) (evD fr y)) fun r => run env n (.dops l lv K (dirtyP d (.bin op x y) cs) ws .mk (i + 1) nx pst (putD fr d r) H) := by rw [run_eq]; rfl
theorem run_d_eq_bool {neg : Bool} {x y : Opd} : run env (n + 1) (.dops (⟨⟨d, .p (.eq .bool neg x y), none⟩, lo, hi⟩ :: l) lv K cs ws .mk i nx pst fr H) = optC (eqD .bool neg (evD fr x) (evD fr y)) fun r => run env n (.dops l lv K (dirtyP d (.eq .bool neg x y) cs) ws .mk (i + 1) nx pst (putD fr d r) H) := by rw [run_eq]; rfl
theorem run_d_eq_struct {fs : List (Nat × Option Nat × ETy)} {neg : Bool} {x y : Opd} : run env (n + 1) (.dops (⟨⟨d, .p (.eq (.struct fs) neg x y), none⟩, lo, hi⟩ :: l) lv K cs ws .mk i nx pst fr H) = optC (eqD (.struct fs) neg (evD fr x) (evD fr y)) fun r => run env n (.dops l lv K (dirtyP d (.eq (.struct fs) neg x y) cs) ws .mk (i + 1) nx pst (putD fr d r) H) := by rw [run_eq]; rfl
theorem run_d_not {x : Opd} : run env (n + 1) (.dops (⟨⟨d, .p (.not x), none⟩, lo, hi⟩ :: l) lv K cs ws .mk i nx pst fr H) = optC (lit1 notV (evD fr x)) fun r => run env n (.dops l lv K (dirtyP d (.not x) cs) ws .mk (i + 1) nx pst (putD fr d r) H) := by rw [run_eq]; rfl
theorem run_d_conv {c : CTy} {x : Opd} : run env (n + 1) (.dops (⟨⟨d, .p (.conv c x), none⟩, lo, hi⟩ :: l) lv K cs ws .mk i nx pst fr H) = optC (lit1 (convV c) (evD fr x)) fun r => run env n (.dops l lv K (dirtyP d (.conv c x) cs) ws .mk (i + 1) nx pst (putD fr d r) H) := by rw [run_eq]; rfl
theorem run_d_sls {x : Opd} {a b : Option Opd} : run env (n + 1) (.dops (⟨⟨d, .p (.sls x a b), none⟩, lo, hi⟩ :: l) lv K cs ws .mk i nx pst fr H) = optC (slsD (evD fr x) (evoD fr a) (evoD fr b)) fun r => run env n (.dops l lv K (dirtyP d (.sls x a b) cs) ws .mk (i + 1) nx pst (putD fr d r) H) := by rw [run_eq]; rfl
theorem run_d_faddr {off : Nat} {x : Opd} : run env (n + 1) (.dops (⟨⟨d, .p (.faddr off x), none⟩, lo, hi⟩ :: l) lv K cs ws .mk i nx pst fr H) = optC (faddrD off (evD fr x)) fun r => run env n (.dops l lv K (dirtyP d (.faddr off x) cs) ws .mk (i + 1) nx pst (putD fr d r) H) := by rw [run_eq]; rfl
theorem run_d_iaddr {sz : Nat} {x y : Opd} : run env (n + 1) (.dops (⟨⟨d, .p (.iaddr sz x y), none⟩, lo, hi⟩ :: l) lv K cs ws .mk i nx pst fr H) = optC (iaddrD sz (evD fr x) (evD fr y)) fun r => run env n (.dops l lv K (dirtyP d (.iaddr sz x y) cs) ws .mk (i + 1) nx pst (putD fr d r) H) := by rw [run_eq]; rfl
theorem run_d_idxs {x y : Opd} : run env (n + 1) (.dops (⟨⟨d, .p (.idxs x y), none⟩, lo, hi⟩ :: l) lv K cs ws .mk i nx pst fr H) = optC (idxsD (evD fr x) (evD fr y)) fun r => run env n (.dops l lv K (dirtyP d (.idxs x y) cs) ws .mk (i + 1) nx pst (putD fr d r) H) := by rw [run_eq]; rfl
theorem run_d_ext {x : Opd} {j : Nat} : run env (n + 1) (.dops (⟨⟨d, .p (.ext x j), none⟩, lo, hi⟩ :: l) lv K cs ws .mk i nx pst fr H) = optC (extD j (evD fr x)) fun r => run env n (.dops l lv K (dirtyP d (.ext x j) cs) ws .mk (i + 1) nx pst (putD fr d r) H) := by rw [run_eq]; rfl
theorem run_d_lenb {x : Opd} : run env (n + 1) (.dops (⟨⟨d, .p (.lenb x), none⟩, lo, hi⟩ :: l) lv K cs ws .mk i nx pst fr H) = optC (lenbD (evD fr x)) fun r => run env n (.dops l lv K (dirtyP d (.lenb x) cs) ws .mk (i + 1) nx pst (putD fr d r) H) := by rw [run_eq]; rfl
theorem run_d_max {xs : List Opd} : run env (n + 1) (.dops (⟨⟨d, .p (.max xs), none⟩, lo, hi⟩ :: l) lv K cs ws .mk i nx pst fr H) = optC (foldD (max2V env.tab) (evsD fr xs)) fun r => run env n (.dops l lv K (dirtyP d (.max xs) cs) ws .mk (i + 1) nx pst (putD fr d r) H) := by rw [run_eq]; rfl
theorem run_d_a {o : AOp} : run env (n + 1) (.dops (⟨⟨d, .a o, none⟩, lo, hi⟩ :: l) lv K cs ws .mk i nx pst fr H) = optH (aD fr H false o) fun x H' => run env n (.dops l lv K (dirtyN d cs) ws .mk (i + 1) nx pst (putD fr d x) H') := by rw [run_eq]; rfl
theorem run_d_load1 {x : Opd} : run env (n + 1) (.dops (⟨⟨d, .load1 x, none⟩, lo, hi⟩ :: l) lv K cs ws .mk i nx pst fr H) = optC (loadD H (evD fr x)) fun y => cleanC pst.tail (lo, hi) (tmpO x) cs.tail (oldC nx lo hi pst (fun H => loadD H (evD fr x)) y (evD fr x) (run env n (.dops l lv K (dirtyR d x (isR (evD fr x)) cs) ((lo, hi) :: ws) .mk (i + 1) nx pst (putD fr d y) H))) := by rw [run_eq]; rfl
theorem run_d_loadn {x : Opd} {m : Nat} : run env (n + 1) (.dops (⟨⟨d, .loadn m x, none⟩, lo, hi⟩ :: l) lv K cs ws .mk i nx pst fr H) = optC (loadnD H m (evD fr x)) fun y => cleanC pst.tail (lo, hi) (tmpO x) cs.tail (oldC nx lo hi pst (fun H => loadnD H m (evD fr x)) y (evD fr x) (run env n (.dops l lv K (dirtyR d x (isR (evD fr x)) cs) ((lo, hi) :: ws) .mk (i + 1) nx pst (putD fr d y) H))) := by rw [run_eq]; rfl
theorem run_d_call {f : Nat} {a : List Opd} : run env (n + 1) (.dops (⟨⟨d, .e (.call f a), none⟩, lo, hi⟩ :: l) lv K cs ws .mk i nx pst fr H) = .dcall f (evsD fr a) d l lv K cs ws .mk i pst fr H := by rw [run_eq]; rfl
theorem run_d_callv {x : Opd} {a : List Opd} : run env (n + 1) (.dops (⟨⟨d, .e (.callv x a), none⟩, lo, hi⟩ :: l) lv K cs ws .mk i nx pst fr H) = funC (evD fr x) fun f fi ca => .dcall f (fi ++ evsD fr a ++ ca) d l lv K cs ws .mk i pst fr H := by rw [run_eq]; rfl
theorem run_d_store {sz : Nat} {a x : Opd} : run env (n + 1) (.dops (⟨⟨d, .e (.store sz a x), none⟩, lo, hi⟩ :: l) lv K cs ws .mk i nx pst fr H) = optH (storeD H sz (evD fr a) (evD fr x)) fun x H' => run env n (.dops l lv K ((i + 1, []) :: dirtyN d cs) ws .mk (i + 1) H'.next ((i + 1, H') :: pst) (putD fr d x) H') := by rw [run_eq]; rfl
theorem run_d_append {sz b : Nat} {a x : Opd} : run env (n + 1) (.dops (⟨⟨d, .e (.append sz b a x), none⟩, lo, hi⟩ :: l) lv K cs ws .mk i nx pst fr H) = optH (appendD sz b H (evD fr a) (evD fr x)) fun x H' => run env n (.dops l lv K ((i + 1, []) :: dirtyN d cs) ws .mk (i + 1) H'.next ((i + 1, H') :: pst) (putD fr d x) H') := by rw [run_eq]; rfl
theorem run_zero {c : Cfg} : run env 0 c = c := by rw [run_eq]; rfl
end
section
variable {p : Prog} {ext : Ext} {Q : ResD → Prop}
theorem optC_some {d : D} {k : D → Cfg} : optC (some d) k = k d := rfl
theorem optH_some {d : D} {H : HpD} {k : D → HpD → Cfg} : optH (some (d, H)) k = k d H := rfl
theorem brC_t {a b : Cfg} : brC true a b = a := rfl
theorem brC_f {a b : Cfg} : brC false a b = b := rfl
theorem boolC_bool {t : Bool} {a b : Cfg} : boolC (.lit (.bool t)) a b = brC t a b := rfl
theorem gateC_bool {t w : Bool} {a b : Cfg} : gateC (.lit (.bool t)) w a b = brC (beqB t w) a b := rfl
theorem gateC_tup {l : List D} {w : Bool} {a b : Cfg} : gateC (.tup l) w a b = b := rfl
theorem beqB_t {t : Bool} : beqB t true = t := by cases t <;> rfl
theorem beqB_f {t : Bool} : beqB t false = !t := by cases t <;> rfl
theorem funC_func {f : Nat} {a c : List D} {k : Nat → List D → List D → Cfg} : funC (.func f a c) k = k f a c := rfl
theorem oldC_ptr {nx lo hi : Nat} {pst : List (Nat × HpD)} {ld : HpD → Option D} {x : D} {b o : Nat} {a : Cfg} : oldC nx lo hi pst ld x (.ptr b o) a = .need (b < nx ∧ stillP lo hi ld x pst.tail) a := rfl
theorem oldC_rptr {nx lo hi : Nat} {pst : List (Nat × HpD)} {ld : HpD → Option D} {x : D} {l : List D} {o : Nat} {a : Cfg} : oldC nx lo hi pst ld x (.rptr l o) a = a := rfl
theorem sem_need {P : Prop} {c : Cfg} : Sem p ext Q (.need P c) ↔ P ∧ Sem p ext Q c := Iff.rfl
theorem sem_both {P : Prop} {a b : Cfg} : Sem p ext Q (.both P a b) ↔ (P → Sem p ext Q a) ∧ Sem p ext Q b := Iff.rfl
theorem nilC_row {sz : Nat} {m : Md} {l : List (List D)} {k : Bool → Cfg} : nilC (.row sz m l) (.lit .nilslice) k = .both (l = []) (k true) (k false) := rfl
theorem nilC_nil {k : Bool → Cfg} : nilC (.lit .nilslice) (.lit .nilslice) k = k true := rfl
attribute [simp] sem_both nilC_row nilC_nil
theorem stillP_nil {lo hi : Nat} {ld : HpD → Option D} {x : D} : stillP lo hi ld x [] = True := rfl
theorem stillP_cons {lo hi c : Nat} {H : HpD} {ld : HpD → Option D} {x : D} {l : List (Nat × HpD)} : stillP lo hi ld x ((c, H) :: l) = ((inWin c (lo, hi) = true → rigid x = true ∧ ld H = some x) ∧ stillP lo hi ld x l) := rfl
theorem inWin_d {c lo hi : Nat} : inWin c (lo, hi) = (decide (lo ≤ c) && decide (c ≤ hi)) := by simp only [inWin, nble_d]
theorem cleanC_nil {w : Nat × Nat} {l : List Nat} {cs : List (Nat × List Nat)} {a : Cfg} : cleanC [] w l cs a = a := rfl
theorem cleanC_cons {q : Nat × HpD} {pst : List (Nat × HpD)} {w : Nat × Nat} {l : List Nat} {cs : List (Nat × List Nat)} {a : Cfg} : cleanC (q :: pst) w l cs a = .need (cleanAll w l cs = true) a := rfl
theorem dirtyN_cons {d : Option Nat} {c : Nat} {dl : List Nat} {cs : List (Nat × List Nat)} : dirtyN d ((c, dl) :: cs) = (c, match d with | none => dl | some t => t :: dl) :: dirtyN d cs := rfl
theorem dirtyP_cons {d : Option Nat} {o : POp} {c : Nat} {dl : List Nat} {cs : List (Nat × List Nat)} : dirtyP d o ((c, dl) :: cs) = (c, match d with | none => dl | some t => dirtyL t o dl) :: dirtyP d o cs := rfl
theorem dirtyN_nil {d : Option Nat} : dirtyN d [] = [] := rfl
theorem dirtyP_nil {d : Option Nat} {o : POp} : dirtyP d o [] = [] := rfl
theorem isR_rptr {l : List D} {k : Nat} : isR (.rptr l k) = true := rfl
theorem isR_ptr {b o : Nat} : isR (.ptr b o) = false := rfl
attribute [simp] cleanC_nil cleanC_cons dirtyN_cons dirtyN_nil dirtyP_cons dirtyP_nil isR_rptr isR_ptr dirtyR dirtyO dirtyL cleanAll POp.tmps tmpO tmpOo tmpsP tmpsL
attribute [simp] run_zero run_exit_seq run_exit_block exitC_t exitC_f run_skip run_region run_dregion run_seq run_cond run_block run_loop run_exit run_ret run_ok_seq run_ok_block run_ok_nil run_res_exit run_ops_nil run_guard run_a run_load1 run_loadn run_call run_callv run_store run_append run_text run_mark
attribute [simp] run_d_nil run_d_guard run_d_a run_d_load1 run_d_loadn run_d_call run_d_callv run_d_store run_d_append
attribute [simp] run_mov run_pick run_build run_nilchk run_bin run_eq_bool run_neg run_not run_conv run_mkfunc run_slc run_sls run_faddr run_iaddr run_idxs run_ext run_lens run_lenb run_max run_d_mov run_d_pick run_d_build run_d_bin run_d_eq_bool run_d_eq_struct run_d_not run_d_conv run_d_sls run_d_faddr run_d_iaddr run_d_idxs run_d_ext run_d_lenb run_d_max
attribute [simp] optC_some optH_some brC_t brC_f boolC_bool gateC_bool gateC_tup beqB_t beqB_f funC_func oldC_ptr oldC_rptr sem_need stillP_nil stillP_cons inWin_d
theorem loopQ_ok {J : FrD → HpD → Prop} {K : List KD} {fr : FrD} {H : HpD} : loopQ J p ext Q K (.ok fr H) = J fr H := rfl
theorem loopQ_exit {J : FrD → HpD → Prop} {K : List KD} {id : Nat} {fr : FrD} {H : HpD} : loopQ J p ext Q K (.exit id fr H) = Sem p ext Q (.res (.exit id fr H) K .mk) := rfl
theorem loopQ_ret {J : FrD → HpD → Prop} {K : List KD} {fr : FrD} {H : HpD} : loopQ J p ext Q K (.ret fr H) = Sem p ext Q (.res (.ret fr H) [] .mk) := rfl
theorem okQ_ok {J : FrD → HpD → Prop} {fr : FrD} {H : HpD} : okQ J (.ok fr H) = J fr H := rfl
attribute [simp] loopQ_ok loopQ_exit loopQ_ret okQ_ok
theorem lk_nil {t : Nat} : lk [] t = .any := rfl
theorem lk_cons {k t : Nat} {d : D} {l : FrD} : lk ((k, d) :: l) t = if k = t then d else lk l t := by
 simp only [lk, beq_d]; by_cases h : k = t <;> simp [h]
theorem putD_some {fr : FrD} {t : Nat} {d : D} : putD fr (some t) d = (t, d) :: fr := rfl
theorem putD_none {fr : FrD} {d : D} : putD fr none d = fr := rfl
theorem keep_nil {fr : FrD} : keep [] fr = [] := rfl
theorem keep_cons {t : Nat} {l : List Nat} {fr : FrD} : keep (t :: l) fr = (t, lk fr t) :: keep l fr := rfl
theorem evD_tmp {fr : FrD} {t : Nat} : evD fr (.tmp t) = lk fr t := rfl
theorem evD_val {fr : FrD} {v : V} : evD fr (.val v) = dV v := rfl
attribute [simp] lk_nil lk_cons putD_some putD_none keep_nil keep_cons evD_tmp evD_val evsD dV dVs inL argsD
section
variable {env : Env} {fr : FrD} {x y z : Opd}
theorem pickO_bool {t : Bool} {a b : D} : pickO (.lit (.bool t)) a b = some (pickD t a b) := rfl
end
theorem pickD_t {a b : D} : pickD true a b = a := rfl
theorem pickD_f {a b : D} : pickD false a b = b := rfl
theorem litO_bool {b : Bool} : litO (some (.bool b)) = some (.lit (.bool b)) := rfl
theorem litO_int {k : IntKind} {n : Int} : litO (some (.int k n)) = some (.lit (.int k n)) := rfl
theorem litO_str {l : List Nat} : litO (some (.str l)) = some (.lit (.str l)) := rfl
theorem lit1_lit {f : V → Option V} {v : V} : lit1 f (.lit v) = litO (f v) := rfl
theorem binD_lit {tab : Tab} {op : BinOp} {v w : V} : binD tab op (.lit v) (.lit w) = litO (binV tab op v w) := rfl
theorem aggD_some {l : List D} : aggD (some l) = some (.agg l) := rfl
theorem nilchkD_ptr {b o : Nat} : nilchkD (.ptr b o) = some (.ptr b o) := rfl
theorem nilchkD_rptr {l : List D} {o : Nat} : nilchkD (.rptr l o) = some (.rptr l o) := rfl
theorem nilchkD_func {f : Nat} {a c : List D} : nilchkD (.func f a c) = some (.func f a c) := rfl
theorem faddrD_ptr {off b o : Nat} : faddrD off (.ptr b o) = some (.ptr b (o + off)) := rfl
theorem faddrD_rptr {off o : Nat} {l : List D} : faddrD off (.rptr l o) = some (.rptr l (o + off)) := rfl
theorem field1D_agg {off : Nat} {l : List D} : field1D off (.agg l) = l[off]? := rfl
theorem extD_tup {i : Nat} {l : List D} : extD i (.tup l) = l[i]? := rfl
theorem lenbD_nil : lenbD (.lit .nilslice) = some (.lit (.int .i64 0)) := rfl
theorem lenbD_slice {b o sz len c : Nat} {ex : Bool} : lenbD (.slice b o sz len c ex) = some (.lit (.int .i64 (len : Int))) := rfl
theorem lenbD_row {sz : Nat} {m : Md} {l : List (List D)} : lenbD (.row sz m l) = some (.lit (.int .i64 (l.length : Int))) := rfl
theorem idxsD_lit {v w : V} : idxsD (.lit v) (.lit w) = litO (idxsV v w) := rfl
theorem elemD_some {e : List D} : elemD (some e) = some (.rptr e 0) := rfl
theorem natD_cast {k : IntKind} {n : Nat} : natD (.lit (.int k (n : Int))) = some n := rfl
theorem natD_lit {k : IntKind} {n : Nat} : natD (.lit (.int k (@OfNat.ofNat Int n _))) = some n := rfl
theorem natD_zero {k : IntKind} : natD (.lit (.int k 0)) = some 0 := rfl
theorem natD_one {k : IntKind} : natD (.lit (.int k 1)) = some 1 := rfl
def atO (sz : Nat) (x : D) (n : Option Nat) : Option D := match n with
 | some n => match x with
  | .slice b o sz' len _ _ => if n < len ∧ sz = sz' then some (.ptr b (o + n * sz)) else none
  | .row sz' _ l => if sz = sz' then elemD l[n]? else none
  | _ => none
 | none => none
theorem iaddrD_at {sz : Nat} {x i : D} : iaddrD sz x i = atO sz x (natD i) := by
 unfold iaddrD atO
 cases natD i with
 | none => rfl
 | some n =>
  cases x <;> simp only []
  ·simp only [blt_d, beq_d];rename_i b o sz' len cap ex
   by_cases h1 : n < len <;> by_cases h2 : sz = sz' <;> simp [h1, h2]
  ·simp only [beq_d];rename_i sz' m l
   by_cases h2 : sz = sz' <;> simp [h2]
theorem atO_row {sz n : Nat} {m : Md} {l : List (List D)} : atO sz (.row sz m l) (some n) = elemD l[n]? := by simp [atO]
theorem loadD_ptr {H : HpD} {b o : Nat} : loadD H (.ptr b o) = cellD (H.blk b) o := rfl
theorem loadD_rptr {H : HpD} {l : List D} {o : Nat} : loadD H (.rptr l o) = l[o]? := rfl
theorem loadnD_ptr {H : HpD} {n b o : Nat} : loadnD H n (.ptr b o) = aggD (readD H b o n) := rfl
theorem loadnD_rptr {H : HpD} {n o : Nat} {l : List D} : loadnD H n (.rptr l o) = if o + n ≤ l.length then some (.agg ((l.drop o).take n)) else none := by
 simp only [loadnD, ble_d]; by_cases h : o + n ≤ l.length <;> simp [h]
theorem cellD_cells {l : List D} {ro : Bool} {o : Nat} : cellD (.cells l ro) o = l[o]? := rfl
theorem readD_eq {H : HpD} {b o n : Nat} : readD H b o n = match H.blk b with
 | .cells l _ => if o + n ≤ l.length then some ((l.drop o).take n) else none
 | _ => none := by
 unfold readD;cases H.blk b <;> simp only [ble_d];rename_i l ro
 by_cases h : o + n ≤ l.length <;> simp [h]
theorem storeD_ptr {H : HpD} {sz b o : Nat} {x : D} : storeD H sz (.ptr b o) x = storeC H sz b o (cellsD x) := rfl
theorem storeC_some {H : HpD} {sz b o : Nat} {cs : List D} : storeC H sz b o (some cs) = if cs.length = sz then tupO (writeD H b o cs) else none := by
 simp only [storeC, beq_d]; by_cases h : cs.length = sz <;> simp [h]
theorem tupO_some {H : HpD} : tupO (some H) = some (.tup [], H) := rfl
theorem writeD_eq {H : HpD} {b o : Nat} {vs : List D} : writeD H b o vs = putO' H b (writeBD (H.blk b) o vs) := rfl
theorem putO'_some {H : HpD} {b : Nat} {x : BD} : putO' H b (some x) = some (H.put b x) := rfl
theorem writeBD_cells {l : List D} {o : Nat} {vs : List D} : writeBD (.cells l false) o vs = if o + vs.length ≤ l.length ∧ flatsD vs = true then some (.cells (spliceD l o vs) false) else none := by
 simp only [writeBD, ble_d]
 by_cases h : o + vs.length ≤ l.length <;> cases h2 : flatsD vs <;> simp [h]
theorem cellsD_agg {l : List D} : cellsD (.agg l) = some l := rfl
theorem cellsD_lit {v : V} : cellsD (.lit v) = some [.lit v] := rfl
theorem cellsD_ptr {b o : Nat} : cellsD (.ptr b o) = some [.ptr b o] := rfl
theorem cellsD_rptr {l : List D} {o : Nat} : cellsD (.rptr l o) = some [.rptr l o] := rfl
theorem cellsD_slice {b o sz len c : Nat} {ex : Bool} : cellsD (.slice b o sz len c ex) = some [.slice b o sz len c ex] := rfl
theorem cellsD_row {sz : Nat} {m : Md} {l : List (List D)} : cellsD (.row sz m l) = some [.row sz m l] := rfl
theorem cellsD_map {b : Nat} : cellsD (.map b) = some [.map b] := rfl
theorem cellsD_func {f : Nat} {a c : List D} : cellsD (.func f a c) = some [.func f a c] := rfl
theorem cellsD_iface {t : Nat} {d : D} : cellsD (.iface t d) = some [.iface t d] := rfl
theorem fillD_nil {c : List D} : fillD c [] = some c := rfl
theorem fillD_cons {c : List D} {o n : Nat} {d : D} {l : List (Nat × Nat × D)} : fillD c ((o, n, d) :: l) = (cellsD d).bind fun cs => if cs.length = n ∧ o + n ≤ c.length then fillD (spliceD c o cs) l else none := by
 simp only [fillD]
 cases cellsD d with
 | none => rfl
 | some cs =>
  simp only [Option.bind_some, beq_d, ble_d]
  by_cases h1 : cs.length = n <;> by_cases h2 : o + n ≤ c.length <;> simp [h1, h2]
theorem spliceD_zero {l vs : List D} : spliceD l 0 vs = vs ++ l.drop vs.length := by cases l <;> rfl
theorem spliceD_succ {x : D} {l vs : List D} {o : Nat} : spliceD (x :: l) (o + 1) vs = x :: spliceD l o vs := rfl
theorem boxD_some {H : HpD} {fz : Bool} {cs : List D} : boxD H fz (some cs) = if flatsD cs = true then some (match fz with | true => (.rptr cs 0, H) | false => (.ptr H.next 0, H.new (.cells cs false))) else none := by
 simp only [boxD]; cases flatsD cs <;> rfl
theorem bsliceD_some {H : HpD} {fz : Bool} {sz len : Nat} {c : List D} : bsliceD H fz sz len (some c) = if flatsD c = true ∧ c.length = len * sz then some (match fz with
   | true => (.row sz .c (chunkD sz len c), H)
   | false => (.slice H.next 0 sz len len true, H.new (.cells c false))) else none := by
 simp only [bsliceD, beq_d]
 by_cases h : c.length = len * sz <;> cases h2 : flatsD c <;> simp [h]
 all_goals cases fz <;> rfl
section
variable {fr : FrD} {H : HpD} {fz : Bool}
theorem aD_new' {zero : List V} : aD fr H fz (.new zero) = if allFlat zero = true then some (.ptr H.next 0, H.new (.cells (dVs zero) false)) else none := by
 simp only [aD]; cases allFlat zero <;> rfl
theorem aD_box {x : Opd} : aD fr H fz (.box x) = boxD H fz (cellsD (evD fr x)) := rfl
theorem aD_bslice {zero : List V} {sz len : Nat} {ps : List (Nat × Nat × Opd)} : aD fr H fz (.bslice zero sz len ps) = bsliceD H fz sz len (fillD (dVs zero) (evPartsD fr ps)) := rfl
theorem aD_mkslice {zero : List V} {sz by_ : Nat} {l c : Opd} : aD fr H fz (.mkslice zero sz by_ l c) = mksliceD H zero sz by_ (natD (evD fr l)) (natD (evD fr c)) := rfl
theorem aD_mkmap {kk : Option IntKind} : aD fr H fz (.mkmap kk) = some (.map H.next, H.new (.map kk [])) := rfl
theorem aD_bytes {x : Opd} : aD fr H fz (.bytes x) = toBytesD H fz (evD fr x) := rfl
end
theorem flatD_lit {v : V} : flatD (.lit v) = true := rfl
theorem flatD_ptr {b o : Nat} : flatD (.ptr b o) = true := rfl
theorem flatD_rptr {l : List D} {o : Nat} : flatD (.rptr l o) = true := rfl
theorem flatD_slice {b o sz len c : Nat} {ex : Bool} : flatD (.slice b o sz len c ex) = true := rfl
theorem flatD_row {sz : Nat} {m : Md} {l : List (List D)} : flatD (.row sz m l) = true := rfl
theorem flatD_map {b : Nat} : flatD (.map b) = true := rfl
theorem flatD_func {f : Nat} {a c : List D} : flatD (.func f a c) = true := rfl
theorem flatD_iface {t : Nat} {d : D} : flatD (.iface t d) = true := rfl
theorem evoD_none {fr : FrD} : evoD fr none = none := rfl
theorem evoD_some {fr : FrD} {x : Opd} : evoD fr (some x) = some (evD fr x) := rfl
theorem bndD_none : bndD none = some none := rfl
theorem bndD_lit {v : V} : bndD (some (.lit v)) = some (some v) := rfl
theorem slsD_lit {v : V} {a b : Option D} {lo hi : Option V} (h1 : bndD a = some lo) (h2 : bndD b = some hi) : slsD (.lit v) a b = litO (slsV v lo hi) := by simp only [slsD, h1, h2]
theorem isEq_lit {ty : ETy} {v w : V} : isEq ty (.lit v) (.lit w) = eqV ty v w := by simp only [isEq, toV]
theorem eqD_eq {ty : ETy} {neg : Bool} {x y : D} : eqD ty neg x y = (isEq ty x y).map fun r => .lit (.bool (cond neg (!r) r)) := by
 simp only [eqD]; cases isEq ty x y <;> rfl
theorem eqV_bool {a b : Bool} : eqV .bool (.bool a) (.bool b) = some (decide (a = b)) := by simp only [eqV, beqB_d]; cases a <;> cases b <;> rfl
theorem eqV_nilptr : eqV .ptr .nilptr .nilptr = some true := rfl
theorem isEq_rptr_nil {l : List D} {o : Nat} : isEq .ptr (.rptr l o) (.lit .nilptr) = some false := rfl
attribute [simp] eqV_bool eqV_nilptr isEq_rptr_nil Option.map
theorem bin_shr_nn {tab : Tab} {k j : IntKind} {a b : Int} (h : 0 ≤ b) : binV tab .shr (.int k a) (.int j b) = some (.int k (shrI k a b.toNat)) := by
 obtain ⟨n, rfl⟩ : ∃ n : Nat, b = n := ⟨b.toNat, by omega⟩;rfl
theorem bin_shl_nn {tab : Tab} {k j : IntKind} {a b : Int} (h : 0 ≤ b) : binV tab .shl (.int k a) (.int j b) = some (.int k (shlI k a b.toNat)) := by
 obtain ⟨n, rfl⟩ : ∃ n : Nat, b = n := ⟨b.toNat, by omega⟩;rfl
theorem natD_nn {k : IntKind} {b : Int} (h : 0 ≤ b) : natD (.lit (.int k b)) = some b.toNat := by
 obtain ⟨n, rfl⟩ : ∃ n : Nat, b = n := ⟨b.toNat, by omega⟩;rfl
theorem natOf_nn {k : IntKind} {b : Int} (h : 0 ≤ b) : natOf (.int k b) = some b.toNat := by
 obtain ⟨n, rfl⟩ : ∃ n : Nat, b = n := ⟨b.toNat, by omega⟩;rfl
attribute [simp] bin_rem bin_shr_nn bin_shl_nn natD_nn natOf_nn
theorem nx2 {a : Nat} : (a = a + 1 + 1) = False := eq_false (by omega)
theorem ny2 {a : Nat} : (a + 1 + 1 = a) = False := eq_false (by omega)
theorem nx3 {a : Nat} : (a = a + 1 + 1 + 1) = False := eq_false (by omega)
theorem ny3 {a : Nat} : (a + 1 + 1 + 1 = a) = False := eq_false (by omega)
theorem nx4 {a : Nat} : (a = a + 1 + 1 + 1 + 1) = False := eq_false (by omega)
theorem ny4 {a : Nat} : (a + 1 + 1 + 1 + 1 = a) = False := eq_false (by omega)
theorem nx5 {a : Nat} : (a = a + 1 + 1 + 1 + 1 + 1) = False := eq_false (by omega)
theorem ny5 {a : Nat} : (a + 1 + 1 + 1 + 1 + 1 = a) = False := eq_false (by omega)
theorem nx6 {a : Nat} : (a = a + 1 + 1 + 1 + 1 + 1 + 1) = False := eq_false (by omega)
theorem ny6 {a : Nat} : (a + 1 + 1 + 1 + 1 + 1 + 1 = a) = False := eq_false (by omega)
theorem nx7 {a : Nat} : (a = a + 1 + 1 + 1 + 1 + 1 + 1 + 1) = False := eq_false (by omega)
theorem ny7 {a : Nat} : (a + 1 + 1 + 1 + 1 + 1 + 1 + 1 = a) = False := eq_false (by omega)
theorem nx8 {a : Nat} : (a = a + 1 + 1 + 1 + 1 + 1 + 1 + 1 + 1) = False := eq_false (by omega)
theorem ny8 {a : Nat} : (a + 1 + 1 + 1 + 1 + 1 + 1 + 1 + 1 = a) = False := eq_false (by omega)
theorem nx9 {a : Nat} : (a = a + 1 + 1 + 1 + 1 + 1 + 1 + 1 + 1 + 1) = False := eq_false (by omega)
theorem ny9 {a : Nat} : (a + 1 + 1 + 1 + 1 + 1 + 1 + 1 + 1 + 1 = a) = False := eq_false (by omega)
attribute [simp] nx2 ny2 nx3 ny3 nx4 ny4 nx5 ny5 nx6 ny6 nx7 ny7 nx8 ny8 nx9 ny9
theorem isEq_nil_ptr {b o : Nat} : isEq .ptr (.ptr b o) (.lit .nilptr) = some false := rfl
attribute [simp] pickO_bool pickD_t pickD_f
attribute [simp] litO_bool litO_int litO_str lit1_lit binD_lit aggD_some nilchkD_ptr nilchkD_rptr nilchkD_func faddrD_ptr faddrD_rptr field1D_agg extD_tup lenbD_nil lenbD_slice lenbD_row idxsD_lit elemD_some natD_cast natD_lit natD_zero natD_one iaddrD_at atO_row
attribute [simp] loadD_ptr loadD_rptr loadnD_ptr loadnD_rptr cellD_cells readD_eq storeD_ptr storeC_some tupO_some writeD_eq putO'_some writeBD_cells cellsD_agg cellsD_lit cellsD_ptr cellsD_rptr cellsD_slice cellsD_row cellsD_map cellsD_func cellsD_iface fillD_nil fillD_cons spliceD_zero spliceD_succ evPartsD boxD_some bsliceD_some aD_new' aD_box aD_bslice aD_mkslice aD_mkmap aD_bytes
attribute [simp] flatsD flatD_lit flatD_ptr flatD_rptr flatD_slice flatD_row flatD_map flatD_func flatD_iface evoD_none evoD_some bndD_none bndD_lit isEq_lit eqD_eq isEq_nil_ptr chunkD put_blk new_blk put_next new_next
attribute [simp] D.le_refl D.les_refl D.less_refl D.les D.under D.unders D.underss tupD res1D resLD endD optQ allFlat
end
end Go.Dv
end

section
namespace Go.Lib
open Go.Vm Go.Dv
abbrev mv (d s : Nat) : MO := ⟨some d, .p (.mov (.tmp s)), none⟩
abbrev mi (d n : Nat) : MO := ⟨some d, .p (.mov (.val (.int .i64 (.ofNat n)))), none⟩
abbrev l1 (d s : Nat) : MO := ⟨some d, .load1 (.tmp s), none⟩
abbrev ln (d k s : Nat) : MO := ⟨some d, .loadn k (.tmp s), none⟩
abbrev lb (d s : Nat) : MO := ⟨some d, .p (.lenb (.tmp s)), none⟩
abbrev fa (d k s : Nat) : MO := ⟨some d, .p (.faddr k (.tmp s)), none⟩
abbrev ix (d k s t : Nat) : MO := ⟨some d, .p (.iaddr k (.tmp s) (.tmp t)), none⟩
abbrev et (d s k : Nat) : MO := ⟨some d, .p (.ext (.tmp s) k), none⟩
abbrev bt (d : Nat) (o : BinOp) (s t : Nat) : MO := ⟨some d, .p (.bin o (.tmp s) (.tmp t)), none⟩
abbrev bi (d : Nat) (o : BinOp) (s n : Nat) : MO := ⟨some d, .p (.bin o (.tmp s) (.val (.int .i64 (.ofNat n)))), none⟩
end Go.Lib
end
