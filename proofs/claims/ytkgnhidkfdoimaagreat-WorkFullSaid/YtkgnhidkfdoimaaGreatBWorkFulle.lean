/-
 Texts that the claim's last one rests on, joined.
-/
import Derived.Test.YtkgnhidkfdoimaaGreatBWorkFulld
import Derived.Test.YtkgnhidkfdoimaaGreatBWorkFulla

section
namespace Go.Dv
open Go.Vm
section
variable {h : Hp} {ψ : Nat → Option Nat} {S : Fz} {env : Env}
theorem lit1_ok {f : V → Option V} {x d : D} {v : V} (e : lit1 f x = some d) (k : VD h ψ S x v) : ∃ w, f v = some w ∧ VD h ψ S d w := by
 cases x <;> simp only [lit1] at e <;> first | cases e | skip
 simp only [VD] at k;obtain ⟨w, e1, rfl, e2⟩ := litO_some (h := h) (ψ := ψ) (S := S) e;rw [k.1];exact ⟨w, e1, e2⟩
theorem foldD_ok {f : V → V → Option V} {l : List D} {d : D} {vs : List V} (e : foldD f l = some d) (k : VDl h ψ S l vs) : ∃ x r w, vs = x :: r ∧ foldV f x r = some w ∧ VD h ψ S d w := by
 unfold foldD at e;split at e
 ·rename_i x r hr;obtain ⟨w, e1, rfl, e2⟩ := litO_some (h := h) (ψ := ψ) (S := S) e;exact ⟨x, r, w, toVs_ok l hr k, e1, e2⟩
 ·cases e
theorem isEq_ok {ty : ETy} {x y : D} {v w : V} {r : Bool} (e : isEq ty x y = some r) (k1 : VD h ψ S x v) (k2 : VD h ψ S y w) : eqV ty v w = some r := by
 unfold isEq at e;split at e
 ·rename_i a b ha hb;rw [toV_ok x ha k1, toV_ok y hb k2]; exact e
 ·split at e
  all_goals try (cases e; done)
  all_goals simp only [VD] at k1 k2
  ·obtain ⟨rfl, _⟩ := k1; obtain ⟨c, _, rfl⟩ := k2; cases e; rfl
  ·obtain ⟨rfl, _⟩ := k1; obtain ⟨_, _, _, _, _, rfl, _⟩ := k2; cases e; rfl
  ·obtain ⟨rfl, _⟩ := k2; obtain ⟨c, _, rfl⟩ := k1; cases e; rfl
  ·obtain ⟨rfl, _⟩ := k2; obtain ⟨_, _, _, _, _, rfl, _⟩ := k1; cases e; rfl
  ·rename_i b o b' o' _;obtain ⟨c, hc, rfl⟩ := k1;obtain ⟨c', hc', rfl⟩ := k2;rw [cond_eq_ite] at e;split at e
   ·rename_i hb;rw [nbeq] at hb;subst hb;rw [hc] at hc'; cases hc';cases e;simp only [eqV];rw [show Nat.beq c c = true from nbeq.2 rfl]; rfl
   ·cases e
  ·obtain ⟨rfl, _⟩ := k1; obtain ⟨_, _, rfl, _⟩ := k2; cases e; rfl
  ·obtain ⟨rfl, _⟩ := k2; obtain ⟨_, _, rfl, _⟩ := k1; cases e; rfl
  ·obtain ⟨rfl, _⟩ := k2; obtain ⟨_, _, rfl⟩ := k1; cases e; rfl
theorem isEqi_ok {ints : List Nat} {lit : Bool} {x y : D} {v w : V} {r : Bool} (e : isEqi ints lit x y = some r) (k1 : VD h ψ S x v) (k2 : VD h ψ S y w) : eqiV ints lit v w = some r := by
 unfold isEqi at e;split at e
 ·rename_i a b ha hb;rw [toV_ok x ha k1, toV_ok y hb k2]; exact e
 ·split at e
  all_goals try (cases e; done)
  all_goals simp only [VD] at k1 k2
  ·obtain ⟨rfl, _⟩ := k1; obtain ⟨_, rfl, _⟩ := k2; cases e; rfl
  ·obtain ⟨rfl, _⟩ := k2; obtain ⟨_, rfl, _⟩ := k1; cases e; rfl
theorem getX_eq {α : Type} : ∀ (l : List α) (n : Nat), getX l n = l[n]?
 | [], _ => rfl
 | _ :: _, 0 => rfl
 | _ :: l, n + 1 => by simp only [getX, List.getElem?_cons_succ]; exact getX_eq l n
theorem takes_ok {l : List D} {vs : List V} {a n : Nat} (k : VDl h ψ S l vs) (hn : a + n ≤ l.length) : takeX n (vs.drop a) = some ((vs.drop a).take n) ∧ VDl h ψ S ((l.drop a).take n) ((vs.drop a).take n) := by
 have := k.length;exact ⟨takeX_of (by simp; omega), VDl.take n (VDl.drop a k)⟩
theorem iaddrD_ok {sz : Nat} {x i d : D} {v w : V} (e : iaddrD sz x i = some d) (k1 : VD h ψ S x v) (k2 : VD h ψ S i w) : ∃ u, iaddrV sz v w = some u ∧ VD h ψ S d u := by
 unfold iaddrD at e;split at e
 case h_2 => cases e
 rename_i n hn;have hw := natD_ok hn k2;split at e
 case h_3 => cases e
 ·simp only [VD] at k1;obtain ⟨c, hc, rfl⟩ := k1;simp only [iaddrV, hw];rw [cond_eq_ite] at e ⊢;split at e
  case isFalse => cases e
  rename_i h1;rw [cond_eq_ite] at e;split at e
  case isFalse => cases e
  rename_i h2;rw [if_pos h1, cond_eq_ite, if_pos h2];cases e;exact ⟨_, rfl, by simp only [VD]; exact ⟨c, hc, rfl⟩⟩
 ·rw [cond_eq_ite] at e;split at e
  case isFalse => cases e
  rename_i h1;rw [nbeq] at h1;subst h1;unfold elemD at e;split at e
  case h_2 => cases e
  rename_i el hel;cases e;simp only [VD] at k1;rcases k1 with ⟨_, rfl⟩ | ⟨b, o, c, ex, rfl, h1, h2, k1⟩
  ·simp at hel
  rcases k1 with ⟨_, rfl⟩ | ⟨cs, ro, hs, hb, hp⟩
  ·simp at hel
  obtain ⟨a1, a2⟩ := VDss.get hp hel;have hlt := (List.getElem?_eq_some_iff.1 hel).1;refine ⟨.ptr b (o + n * sz), ?_, ?_⟩
  ·simp only [iaddrV, hw];rw [show Nat.blt n _ = true from nblt.2 hlt, show Nat.beq sz sz = true from nbeq.2 rfl];rfl
  ·simp only [VD];rw [List.drop_drop] at a2;exact ⟨b, o + n * sz, cs, ro, hs.1, rfl, hb, a2⟩
theorem Fz.At.cut {S : Fz} {m : Md} {mx : Option V} {k b : Nat} {ro : Bool} (h : S.At m b ro) : S.At (cutMd m mx k) b ro := by
 unfold cutMd;split
 ·exact h
 ·exact h
 ·exact h
 ·split
  ·exact Fz.at_p h.1
  ·split
   ·rw [cond_eq_ite]; split
    ·exact Fz.at_c h.1
    ·exact Fz.at_p h.1
   ·exact Fz.at_p h.1
theorem boundL_le {lo : Option V} {h j : Nat} (e : boundL lo h = some j) : j ≤ h := by
 unfold boundL at e;split at e
 ·cases e; omega
 ·split at e
  ·rw [cond_eq_ite] at e; split at e
   ·rename_i hh; cases e; rwa [nble] at hh
   ·cases e
  ·cases e
def mSel (mx : Option V) (c k : Nat) : Nat := match mx with | none => c | some _ => k
theorem slcD_ok {sz : Nat} {x d : D} {v : V} {lo hi mx : Option V} {lo' hi' mx' : Option D} (b1 : bndD lo' = some lo) (b2 : bndD hi' = some hi) (b3 : bndD mx' = some mx) (e : slcD sz x lo' hi' mx' = some d) (k : VD h ψ S x v) :
  ∃ u, slcV sz v lo hi mx = some u ∧ VD h ψ S d u := by
 unfold slcD at e;rw [b1, b2, b3] at e;simp only at e;split at e
 case h_4 => cases e
 ·simp only [VD] at k;obtain ⟨rfl, _⟩ := k;simp only [slcV] at e ⊢;cases hn : needH hi mx <;> rw [hn] at e <;> simp only [cond_true, cond_false, sliceO] at e ⊢
  ·cases e
  ·cases hb : boundM mx 0 true with
   | none => rw [hb] at e; cases e
   | some r =>
    rw [hb] at e;simp only at e ⊢
    cases hh : boundH hi 0 r.1 with
    | none => rw [hh] at e; cases e
    | some a =>
     rw [hh] at e;simp only at e ⊢
     cases hl : boundL lo a with
     | none => rw [hl] at e; cases e
     | some j => rw [hl] at e; cases e; exact ⟨_, rfl, by simp [VD, atomV]⟩
 ·simp only [VD] at k;obtain ⟨c, hc, rfl⟩ := k;rename_i b o sz' len cap ex;simp only [slcV] at e ⊢;rw [cond_eq_ite] at e ⊢;split at e
  case isFalse => cases e
  rename_i h1;rw [if_pos h1];cases hn : needH hi mx <;> rw [hn] at e <;> simp only [cond_true, cond_false, sliceO] at e ⊢
  ·cases e
  ·cases hb : boundM mx cap ex with
   | none => rw [hb] at e; cases e
   | some r =>
    rw [hb] at e;simp only at e ⊢
    cases hh : boundH hi len r.1 with
    | none => rw [hh] at e; cases e
    | some a =>
     rw [hh] at e;simp only at e ⊢
     cases hl : boundL lo a with
     | none => rw [hl] at e; cases e
     | some j => rw [hl] at e; cases e; exact ⟨_, rfl, by simp only [VD]; exact ⟨c, hc, rfl⟩⟩
 ·rename_i sz' m l;rw [cond_eq_ite] at e;split at e
  case isFalse => cases e
  rename_i h1;rw [nbeq] at h1;subst h1;cases hn : needH hi mx <;> rw [hn] at e <;> simp only [cond_true, cond_false] at e
  ·cases e
  unfold slcRow at e;split at e
  case h_2 => cases e
  rename_i kk ee hm;split at e
  case h_2 => cases e
  rename_i hh2 hh;split at e
  case h_2 => cases e
  rename_i j hj;cases e;have hjle := boundL_le hj
  have hkk : kk ≤ l.length := by
   unfold boundM at hm;split at hm
   ·cases hm; exact Nat.le_refl _
   ·split at hm
    ·rw [cond_eq_ite] at hm; split at hm
     ·rename_i q; cases hm; rwa [nble] at q
     ·cases hm
    ·cases hm
  have hhle : hh2 ≤ l.length := by
   unfold boundH at hh;split at hh
   ·cases hh; exact Nat.le_refl _
   ·split at hh
    ·rw [cond_eq_ite] at hh; split at hh
     ·rename_i q; cases hh; rw [nble] at q; omega
     ·cases hh
    ·cases hh
  simp only [VD] at k;rcases k with ⟨rfl, rfl⟩ | ⟨b, o, c, ex, rfl, h1, h2, k⟩
  ·simp only [slcV, hn, cond_true];simp only [List.length_nil] at hm hh;rw [hm];simp only;rw [hh];simp only;rw [hj];exact ⟨_, rfl, by simp [VD]⟩
  ·have hM : ∃ e', boundM mx c ex = some (mSel mx c kk, e') ∧ (mx ≠ none → e' = true) := by
    unfold boundM at hm ⊢
    cases mx with
    | none => exact ⟨ex, rfl, fun h => absurd rfl h⟩
    | some w =>
     simp only at hm ⊢;split at hm
     ·rename_i q hq;rw [cond_eq_ite] at hm; split at hm
      ·rename_i q2; cases hm; rw [nble] at q2;refine ⟨true, ?_, fun _ => rfl⟩;show cond (Nat.ble kk c) _ _ = _;rw [show Nat.ble kk c = true from nble.2 (by omega)];rfl
      ·cases hm
     ·cases hm
   obtain ⟨e', hM, he'⟩ := hM
   have hH : boundH hi l.length (mSel mx c kk) = some hh2 := by
    cases mx with
    | some w => exact hh
    | none =>
     have hkk2 : kk = l.length := (by simp only [boundM] at hm; cases hm; rfl);subst hkk2;unfold boundH at hh ⊢
     cases hi with
     | none => exact hh
     | some w =>
      simp only [mSel] at hh ⊢;split at hh
      ·rename_i q hq;rw [cond_eq_ite] at hh; split at hh
       ·rename_i q2; cases hh; rw [nble] at q2;rw [show Nat.ble hh2 c = true from nble.2 (by omega)];rfl
       ·cases hh
      ·cases hh
   have hlen : ((l.take hh2).drop j).length = hh2 - j := (by simp; omega);refine ⟨.slice b (o + j * sz) sz (hh2 - j) ((mSel mx c kk) - j) e', ?_, ?_⟩
   ·simp only [slcV];rw [show Nat.beq sz sz = true from nbeq.2 rfl, hn, hM];simp only [cond_true];rw [hH];simp only;rw [hj]
   ·simp only [VD];refine .inr ⟨b, o + j * sz, _, e', by rw [hlen], ?_, ?_, ?_⟩
    ·rw [hlen]
     have : hh2 ≤ (mSel mx c kk) := by
      unfold boundH at hH;split at hH
      ·cases hH
       cases mx with
       | none => exact h1
       | some w =>
        simp only [needH] at hn;cases hn
      ·split at hH
       ·rw [cond_eq_ite] at hH; split at hH
        ·rename_i q; cases hH; rwa [nble] at q
        ·cases hH
       ·cases hH
     omega
    ·intro hc;rw [hlen]
     cases mx with
     | none => unfold cutMd at hc; split at hc <;> cases hc
     | some w =>
      simp only [mSel];refine ⟨?_, he' (by simp)⟩
      have hw : natOf w = some kk := by
       simp only [boundM] at hm;split at hm
       ·rename_i q hq;rw [hq];rw [cond_eq_ite] at hm; split at hm
        ·cases hm; rfl
        ·cases hm
       ·cases hm
      have : kk = hh2 := by
       unfold cutMd at hc;split at hc
       ·cases hc
       ·cases hc
       ·cases hc
       ·simp only [hw] at hc;rw [cond_eq_ite] at hc;split at hc
        ·rename_i q; rwa [nbeq] at q
        ·cases hc
      omega
    ·rcases k with ⟨rfl, rfl⟩ | ⟨cs, ro, hs, hb, hp⟩
     ·exact .inl ⟨rfl, by simp⟩
     ·refine .inr ⟨cs, ro, hs.cut, hb, ?_⟩;have := VDss.drop (n := j) (VDss.take (n := hh2) hp)
      rwa [List.drop_drop] at this
theorem slaD_ok {n sz : Nat} {x d : D} {v : V} {lo hi mx : Option V} {lo' hi' mx' : Option D} (b1 : bndD lo' = some lo) (b2 : bndD hi' = some hi) (b3 : bndD mx' = some mx) (e : slaD n sz x lo' hi' mx' = some d) (k : VD h ψ S x v) :
  ∃ u, slaV n sz v lo hi mx = some u ∧ VD h ψ S d u := by
 unfold slaD at e;rw [b1, b2, b3] at e;simp only at e;split at e
 case h_2 => cases e
 simp only [VD] at k;obtain ⟨c, hc, rfl⟩ := k;simp only [slaV] at e ⊢;cases hn : needH hi mx <;> rw [hn] at e <;> simp only [cond_true, cond_false, sliceO] at e ⊢
 ·cases e
 ·cases hb : boundM mx n true with
  | none => rw [hb] at e; cases e
  | some r =>
   rw [hb] at e;simp only at e ⊢
   cases hh : boundH hi n r.1 with
   | none => rw [hh] at e; cases e
   | some a =>
    rw [hh] at e;simp only at e ⊢
    cases hl : boundL lo a with
    | none => rw [hl] at e; cases e
    | some j => rw [hl] at e; cases e; exact ⟨_, rfl, by simp only [VD]; exact ⟨c, hc, rfl⟩⟩
theorem slcD_b {sz : Nat} {x d : D} {lo hi mx : Option D} (e : slcD sz x lo hi mx = some d) : ∃ a b c, bndD lo = some a ∧ bndD hi = some b ∧ bndD mx = some c := by
 unfold slcD at e;split at e
 ·exact ⟨_, _, _, by assumption, by assumption, by assumption⟩
 ·cases e
theorem slaD_b {n sz : Nat} {x d : D} {lo hi mx : Option D} (e : slaD n sz x lo hi mx = some d) : ∃ a b c, bndD lo = some a ∧ bndD hi = some b ∧ bndD mx = some c := by
 unfold slaD at e;split at e
 ·exact ⟨_, _, _, by assumption, by assumption, by assumption⟩
 ·cases e
theorem pD_ok {fr : FrD} {frv : Fr} (k : FrR h ψ S fr frv) {o : POp} {d : D} (e : pD env fr o = some d) : ∃ v, pV env frv o = some v ∧ VD h ψ S d v := by
 cases o with
 | mov x => cases e; exact ⟨_, rfl, evD_ok k x⟩
 | pick c a b =>
  simp only [pD] at e;split at e
  case h_2 => cases e
  rename_i t ht;have := evD_ok k c;rw [ht] at this;simp only [VD] at this;simp only [pV_pick];rw [this.1];cases e;cases t
  ·exact ⟨_, rfl, evD_ok k b⟩
  ·exact ⟨_, rfl, evD_ok k a⟩
 | build zero parts =>
  simp only [pD, aggD] at e;split at e
  case h_2 => cases e
  rename_i r hr;cases e;obtain ⟨us, e1, k1⟩ := fillD_ok k parts (dVs_ok zero) hr;simp only [pV_build, e1];exact ⟨_, rfl, by simp only [VD]; exact ⟨us, rfl, k1⟩⟩
 | nilchk x =>
  have := evD_ok k x;simp only [pD] at e;simp only [pV_nilchk]
  cases hx : evD fr x <;> rw [hx] at e this <;> simp only [nilchkD] at e <;> first | (cases e; done) | skip
  all_goals cases e
  all_goals (have kk := this; simp only [VD] at kk)
  ·obtain ⟨c, _, hv⟩ := kk; rw [hv] at this ⊢; exact ⟨_, rfl, this⟩
  ·obtain ⟨_, _, _, _, _, hv, _⟩ := kk; rw [hv] at this ⊢; exact ⟨_, rfl, this⟩
  ·obtain ⟨_, _, hv, _⟩ := kk; rw [hv] at this ⊢; exact ⟨_, rfl, this⟩
 | bin op x y =>
  have k1 := evD_ok k x;have k2 := evD_ok k y;simp only [pD] at e;simp only [pV_bin];unfold binD at e;split at e
  case h_2 => cases e
  rename_i a b ha hb;rw [ha] at k1; rw [hb] at k2;simp only [VD] at k1 k2;rw [k1.1, k2.1];obtain ⟨w, e1, rfl, e2⟩ := litO_some (h := h) (ψ := ψ) (S := S) e;exact ⟨w, e1, e2⟩
 | eq ty neg x y =>
  simp only [pD, eqD] at e;split at e
  case h_2 => cases e
  rename_i r hr;cases e;simp only [pV_eq];rw [eqP_some (isEq_ok hr (evD_ok k x) (evD_ok k y))];exact ⟨_, rfl, by simp [VD, atomV]⟩
 | eqi lit neg x y =>
  simp only [pD, eqiD] at e;split at e
  case h_2 => cases e
  rename_i r hr;cases e;simp only [pV_eqi, eqiP];rw [isEqi_ok hr (evD_ok k x) (evD_ok k y)];exact ⟨_, rfl, by simp [VD, atomV]⟩
 | neg x => exact lit1_ok e (evD_ok k x)
 | not x => exact lit1_ok e (evD_ok k x)
 | compl x => exact lit1_ok e (evD_ok k x)
 | conv c x => exact lit1_ok e (evD_ok k x)
 | mkiface t x => cases e; exact ⟨_, rfl, by simp only [VD]; exact ⟨_, rfl, evD_ok k x⟩⟩
 | mkfunc f a c => cases e; exact ⟨_, rfl, by simp only [VD]; exact ⟨_, _, rfl, evsD_ok k a, evsD_ok k c⟩⟩
 | slc sz x lo hi mx =>
  simp only [pD] at e;obtain ⟨a, b, c, e1, e2, e3⟩ := slcD_b e;simp only [pV_slc];rw [bnd_ok k lo e1, bnd_ok k hi e2, bnd_ok k mx e3];exact slcD_ok e1 e2 e3 e (evD_ok k x)
 | sla n sz x lo hi mx =>
  simp only [pD] at e;obtain ⟨a, b, c, e1, e2, e3⟩ := slaD_b e;simp only [pV_sla];rw [bnd_ok k lo e1, bnd_ok k hi e2, bnd_ok k mx e3];exact slaD_ok e1 e2 e3 e (evD_ok k x)
 | sls x lo hi =>
  simp only [pD, slsD] at e;split at e
  case h_2 => cases e
  rename_i a b e1 e2;split at e
  case h_2 => cases e
  rename_i v hv;have := evD_ok k x;rw [hv] at this;simp only [VD] at this;simp only [pV_sls];rw [bnd_ok k lo e1, bnd_ok k hi e2, this.1];obtain ⟨w, e1, rfl, e2⟩ := litO_some (h := h) (ψ := ψ) (S := S) e;exact ⟨w, e1, e2⟩
 | faddr off x =>
  have := evD_ok k x;simp only [pD] at e;simp only [pV_faddr]
  cases hx : evD fr x <;> rw [hx] at e this <;> simp only [faddrD] at e <;> first | (cases e; done) | skip
  all_goals cases e
  all_goals simp only [VD] at this
  ·obtain ⟨c, hc, hv⟩ := this; rw [hv]; exact ⟨_, rfl, by simp only [VD]; exact ⟨c, hc, rfl⟩⟩
  ·obtain ⟨c, o, cs, ro, hs, hv, hb, hp⟩ := this; rw [hv]; exact ⟨_, rfl, by simp only [VD]; exact ⟨c, o, cs, ro, hs, by rw [Nat.add_assoc], hb, hp⟩⟩
 | field1 off x =>
  have := evD_ok k x;simp only [pD] at e;simp only [pV_field1]
  cases hx : evD fr x <;> rw [hx] at e this <;> simp only [field1D] at e <;> first | (cases e; done) | skip
  simp only [VD] at this;obtain ⟨l', hv, kl⟩ := this;rw [hv, field1V_agg, getX_eq];exact VDl.get kl e
 | fieldn off n x =>
  have := evD_ok k x;simp only [pD] at e;simp only [pV_fieldn]
  cases hx : evD fr x <;> rw [hx] at e this <;> simp only [fieldnD] at e <;> first | (cases e; done) | skip
  simp only [VD] at this;obtain ⟨l', hv, kl⟩ := this;rw [cond_eq_ite] at e;split at e
  case isFalse => cases e
  rename_i hn;rw [nble] at hn;cases e;obtain ⟨a1, a2⟩ := takes_ok kl hn;rw [hv];simp only [fieldnV, a1];exact ⟨_, rfl, by simp only [VD]; exact ⟨_, rfl, a2⟩⟩
 | iaddr sz x i => exact iaddrD_ok e (evD_ok k x) (evD_ok k i)
 | iaddra len sz x i =>
  have k1 := evD_ok k x;simp only [pD, iaddraD] at e;simp only [pV_iaddra];split at e
  case h_2 => cases e
  rename_i n hn;have hw := natD_ok hn (evD_ok k i);split at e
  case h_2 => cases e
  rename_i b o hx;rw [hx] at k1;simp only [VD] at k1;obtain ⟨c, hc, hv⟩ := k1;rw [hv];simp only [iaddraV, hw];rw [cond_eq_ite] at e ⊢;split at e
  case isFalse => cases e
  rename_i h1;rw [if_pos h1];cases e;exact ⟨_, rfl, by simp only [VD]; exact ⟨c, hc, rfl⟩⟩
 | idx1 len x i =>
  have k1 := evD_ok k x;simp only [pD, idx1D] at e;simp only [pV_idx1];split at e
  case h_2 => cases e
  rename_i n hn;have hw := natD_ok hn (evD_ok k i);split at e
  case h_2 => cases e
  rename_i l hx;rw [hx] at k1;simp only [VD] at k1;obtain ⟨l', hv, kl⟩ := k1;rw [hv];simp only [idx1V, hw];rw [cond_eq_ite] at e ⊢;split at e
  case isFalse => cases e
  rename_i h1;rw [if_pos h1, getX_eq];exact VDl.get kl e
 | idxn len sz x i =>
  have k1 := evD_ok k x;simp only [pD, idxnD] at e;simp only [pV_idxn];split at e
  case h_2 => cases e
  rename_i n hn;have hw := natD_ok hn (evD_ok k i);split at e
  case h_2 => cases e
  rename_i l hx;rw [hx] at k1;simp only [VD] at k1;obtain ⟨l', hv, kl⟩ := k1;rw [hv];simp only [idxnV, hw];rw [cond_eq_ite] at e ⊢;split at e
  case isFalse => cases e
  rename_i h1;rw [if_pos h1];rw [cond_eq_ite] at e;split at e
  case isFalse => cases e
  rename_i h2;rw [nble] at h2;obtain ⟨a1, a2⟩ := takes_ok kl h2;rw [a1];cases e;exact ⟨_, rfl, by simp only [VD]; exact ⟨_, rfl, a2⟩⟩
 | idxs x i =>
  have k1 := evD_ok k x;have k2 := evD_ok k i;simp only [pD] at e;simp only [pV_idxs];unfold idxsD at e;split at e
  case h_2 => cases e
  rename_i a b ha hb;rw [ha] at k1; rw [hb] at k2;simp only [VD] at k1 k2;rw [k1.1, k2.1];obtain ⟨w, e1, rfl, e2⟩ := litO_some (h := h) (ψ := ψ) (S := S) e;exact ⟨w, e1, e2⟩
 | ext x i =>
  have := evD_ok k x;simp only [pD] at e;simp only [pV_ext]
  cases hx : evD fr x <;> rw [hx] at e this <;> simp only [extD] at e <;> first | (cases e; done) | skip
  simp only [VD] at this;obtain ⟨l', hv, kl⟩ := this;rw [hv, extV'_tup, getX_eq];exact VDl.get kl e
 | lens x => exact lit1_ok e (evD_ok k x)
 | lenb x =>
  have := evD_ok k x;simp only [pD] at e;simp only [pV_lenb];unfold lenbD at e;split at e
  case h_4 => cases e
  all_goals (rename_i hx; rw [hx] at this; simp only [VD] at this; cases e)
  ·rw [this.1]; exact ⟨_, rfl, by simp [VD, atomV]⟩
  ·obtain ⟨c, _, hv⟩ := this; rw [hv]; exact ⟨_, rfl, by simp [VD, atomV]⟩
  ·rcases this with ⟨hv, rfl⟩ | ⟨b, o, c, ex, hv, _⟩ <;> rw [hv] <;> exact ⟨_, rfl, by simp [VD, atomV]⟩
 | lena n => cases e; exact ⟨_, rfl, by simp [VD, atomV]⟩
 | caps x =>
  have := evD_ok k x;simp only [pD] at e;simp only [pV_caps];unfold capsD at e;split at e
  case h_4 => cases e
  all_goals (rename_i hx; rw [hx] at this; simp only [VD] at this; cases e)
  ·rw [this.1]; exact ⟨_, rfl, by simp [VD, atomV]⟩
  ·obtain ⟨c, _, hv⟩ := this; rw [hv]; exact ⟨_, rfl, by simp [VD, atomV]⟩
  ·rcases this with ⟨hv, rfl⟩ | ⟨b, o, c, ex, hv, h1, h2, _⟩
   ·rw [hv]; exact ⟨_, rfl, by simp [VD, atomV]⟩
   ·obtain ⟨rfl, rfl⟩ := h2 trivial;rw [hv]; exact ⟨_, rfl, by simp [VD, atomV]⟩
 | min l =>
  obtain ⟨x, r, w, e1, e2, e3⟩ := foldD_ok e (evsD_ok k l);simp only [pV];rw [e1];exact ⟨w, e2, e3⟩
 | max l =>
  obtain ⟨x, r, w, e1, e2, e3⟩ := foldD_ok e (evsD_ok k l);simp only [pV];rw [e1];exact ⟨w, e2, e3⟩
end
end Go.Dv
end

section
namespace Go.Dv
open Go.Vm
def flatD : D → Bool
 | .any | .agg _ | .tup _ => false
 | _ => true
def flatsD : List D → Bool
 | [] => true
 | d :: l => flatD d && flatsD l
def chunkD (sz : Nat) : Nat → List D → List (List D)
 | 0, _ => []
 | n + 1, l => l.take sz :: chunkD sz n (l.drop sz)
def repD (zero : List D) : Nat → List D
 | 0 => []
 | n + 1 => zero ++ repD zero n
def bytesD (s : List Nat) : List D := s.map fun c => .lit (.int .u8 (.ofNat c))
def readD (H : HpD) (b o n : Nat) : Option (List D) :=
 match H.blk b with
 | .cells l _ => cond (Nat.ble (o + n) l.length) (some ((l.drop o).take n)) none
 | _ => none
def writeBD (x : BD) (o : Nat) (vs : List D) : Option BD :=
 match x with
 | .cells l false => cond (Nat.ble (o + vs.length) l.length) (cond (flatsD vs) (some (.cells (spliceD l o vs) false)) none) none
 | _ => none
def putO' (H : HpD) (b : Nat) (x : Option BD) : Option HpD :=
 match x with
 | some x => some (H.put b x)
 | none => none
def writeD (H : HpD) (b o : Nat) (vs : List D) : Option HpD := putO' H b (writeBD (H.blk b) o vs)
def boxD (H : HpD) (fz : Bool) (o : Option (List D)) : Option (D × HpD) :=
 match o with
 | some cs => cond (flatsD cs) (some (match fz with
   | true => (.rptr cs 0, H)
   | false => (.ptr H.next 0, H.new (.cells cs false)))) none
 | none => none
def bsliceD (H : HpD) (fz : Bool) (sz len : Nat) (o : Option (List D)) : Option (D × HpD) :=
 match o with
 | some c => cond (flatsD c) (cond (Nat.beq c.length (len * sz)) (some (match fz with
   | true => (.row sz .c (chunkD sz len c), H)
   | false => (.slice H.next 0 sz len len true, H.new (.cells c false)))) none) none
 | none => none
def mksliceD (H : HpD) (zero : List V) (sz bytes : Nat) (l c : Option Nat) : Option (D × HpD) :=
 match l, c with
 | some n, some m => cond (Nat.ble n m) (cond (Nat.ble (bytes * m) 1099511627776) (cond (Nat.ble m 1099511627776) (cond (allFlat zero) (cond (Nat.beq zero.length sz)
    (some (.slice H.next 0 sz n m true, H.new (.cells (repD (dVs zero) m) false))) none) none) none) none) none
 | _, _ => none
def toBytesD (H : HpD) (fz : Bool) (x : D) : Option (D × HpD) :=
 match x with
 | .lit (.str s) => some (match fz with
   | true => (.row 1 .p (s.map fun c => [.lit (.int .u8 (.ofNat c))]), H)
   | false => (.slice H.next 0 1 s.length s.length false, H.new (.cells (bytesD s) false)))
 | _ => none
def aD (fr : FrD) (H : HpD) (fz : Bool) : AOp → Option (D × HpD)
 | .new zero => cond (allFlat zero) (some (.ptr H.next 0, H.new (.cells (dVs zero) false))) none
 | .box x => boxD H fz (cellsD (evD fr x))
 | .bslice zero sz len parts => bsliceD H fz sz len (fillD (dVs zero) (evPartsD fr parts))
 | .mkslice zero sz bytes l c => mksliceD H zero sz bytes (natD (evD fr l)) (natD (evD fr c))
 | .mkmap kk => some (.map H.next, H.new (.map kk []))
 | .bytes x => toBytesD H fz (evD fr x)
def cellD (x : BD) (o : Nat) : Option D :=
 match x with
 | .cells l _ => l[o]?
 | _ => none
def loadD (H : HpD) (x : D) : Option D :=
 match x with
 | .ptr b o => cellD (H.blk b) o
 | .rptr l o => l[o]?
 | _ => none
def loadnD (H : HpD) (n : Nat) (x : D) : Option D :=
 match x with
 | .ptr b o => aggD (readD H b o n)
 | .rptr l o => cond (Nat.ble (o + n) l.length) (some (.agg ((l.drop o).take n))) none
 | _ => none
def tupO (o : Option HpD) : Option (D × HpD) :=
 match o with
 | some H => some (.tup [], H)
 | none => none
def storeC (H : HpD) (sz : Nat) (b o : Nat) (c : Option (List D)) : Option (D × HpD) :=
 match c with
 | some cs => cond (Nat.beq cs.length sz) (tupO (writeD H b o cs)) none
 | none => none
def storeD (H : HpD) (sz : Nat) (a x : D) : Option (D × HpD) :=
 match a with
 | .ptr b o => storeC H sz b o (cellsD x)
 | _ => none
def lenD (x : D) : Option Nat :=
 match x with
 | .lit .nilslice => some 0
 | .lit (.str s) => some s.length
 | .slice _ _ _ len _ _ => some len
 | .row _ _ l => some l.length
 | _ => none
def srcD (H : HpD) (sz n : Nat) (x : D) : Option (List D) :=
 match x with
 | .lit .nilslice => cond (Nat.beq n 0) (some []) none
 | .lit (.str s) => cond (Nat.beq sz 1) (cond (Nat.ble n s.length) (some (bytesD (s.take n))) none) none
 | .slice b o sz' len _ _ => cond (Nat.beq sz sz') (cond (Nat.ble n len) (readD H b o (n * sz)) none) none
 | .row sz' m l => cond (Nat.beq sz sz') (cond (Nat.ble n l.length) (match m, n with
  | .w, 0 => none
  | _, _ => some (l.take n).flatten) none) none
 | _ => none
def growD (sz : Nat) (H : HpD) (n : Nat) (o : Option (List D)) (new : List D) : Option (D × HpD) :=
 match o with
 | some old => some (.slice H.next 0 sz n n false, H.new (.cells (old ++ new) false))
 | none => none
def appendCD (sz bytes : Nat) (H : HpD) (s : D) (n : Nat) (new : List D) : Option (D × HpD) :=
 match s with
 | .lit .nilslice => cond (roomy bytes n) (some (.slice H.next 0 sz n n false, H.new (.cells new false))) none
 | .slice b o sz' len c ex => cond (Nat.beq sz sz')
   (cond (Nat.ble (len + n) c)
    (match writeD H b (o + len * sz) new with
    | some H' => some (.slice b o sz (len + n) c ex, H')
    | none => none)
    (cond (roomy bytes (len + n))
     (match ex with
     | true => growD sz H (len + n) (readD H b o (len * sz)) new
     | false => cond (Nat.beq o 0) (match H.blk b with
       | .cells _ false => growD sz (H.put b .gone) (len + n) (readD H b o (len * sz)) new
       | _ => none) none)
     none))
   none
 | .row sz' .c l => cond (Nat.beq sz sz') (cond (roomy bytes (l.length + n)) (growD sz H (l.length + n) (some l.flatten) new) none) none
 | _ => none
def sameD (sz : Nat) (H : HpD) (s : D) : Option (D × HpD) :=
 match s with
 | .lit .nilslice => some (.lit .nilslice, H)
 | .slice b o sz' len c ex => cond (Nat.beq sz sz') (some (.slice b o sz' len c ex, H)) none
 | .row sz' m l => cond (Nat.beq sz sz') (some (.row sz' m l, H)) none
 | _ => none
def appendN (sz bytes : Nat) (H : HpD) (s : D) (n : Nat) (o : Option (List D)) : Option (D × HpD) :=
 match o with
 | some new => cond (flatsD new) (appendCD sz bytes H s n new) none
 | none => none
def appendD (sz bytes : Nat) (H : HpD) (s x : D) : Option (D × HpD) :=
 match lenD x with
 | none => none
 | some n => match n with
  | 0 => sameD sz H s
  | n' + 1 => appendN sz bytes H s (n' + 1) (srcD H sz (n' + 1) x)
def appendZD (zero : List V) (sz bytes : Nat) (H : HpD) (s x : D) : Option (D × HpD) :=
 match natD x with
 | none => none
 | some n => match n with
  | 0 => sameD sz H s
  | n' + 1 => cond (Nat.beq zero.length sz) (cond (allFlat zero) (cond (flatsD (dVs zero)) (cond (roomy bytes (n' + 1)) (appendCD sz bytes H s (n' + 1) (repD (dVs zero) (n' + 1))) none) none) none) none
def copyC (H : HpD) (m b o : Nat) (c : Option (List D)) : Option (D × HpD) :=
 match c with
 | some new => match new with
  | [] => some (.lit (.int .i64 (m : Int)), H)
  | c :: r => match writeD H b o (c :: r) with
   | some H' => some (.lit (.int .i64 (m : Int)), H')
   | none => none
 | none => none
def copyD (H : HpD) (sz : Nat) (d s : D) : Option (D × HpD) :=
 match lenD s with
 | none => none
 | some n => match d with
  | .lit .nilslice => some (.lit (.int .i64 0), H)
  | .slice b o sz' len _ _ => cond (Nat.beq sz sz') (copyC H (minN n len) b o (srcD H sz (minN n len) s)) none
  | _ => none
def clearD (H : HpD) (zero : List V) (x : D) : Option (D × HpD) :=
 match x with
 | .lit .nilslice => some (.tup [], H)
 | .slice b o sz n _ _ => match n with
  | 0 => some (.tup [], H)
  | n + 1 => cond (Nat.beq zero.length sz) (tupO (writeD H b o (repD (dVs zero) (n + 1)))) none
 | _ => none
def strD (H : HpD) (o : Option (List D)) : Option (D × HpD) :=
 match o with
 | some l => match toVs l with
  | some vs => match eV.bytesOf vs with
   | some s => some (.lit (.str s), H)
   | none => none
  | none => none
 | none => none
def textD (H : HpD) (x : D) : Option (D × HpD) :=
 match x with
 | .lit .nilslice => some (.lit (.str []), H)
 | .slice b o sz len _ _ => cond (Nat.beq sz 1) (strD H (readD H b o len)) none
 | .row sz m l => cond (Nat.beq sz 1) (match m, l with
  | .w, [] => none
  | _, _ => strD H (some l.flatten)) none
 | _ => none
def mapFindD (k : V) : List (V × D) → Option D
 | [] => none
 | (a, v) :: l => cond (V.same a k) (some v) (mapFindD k l)
def mapSetD (k : V) (d : D) : List (V × D) → List (V × D)
 | [] => [(k, d)]
 | (a, w) :: l => cond (V.same a k) ((a, d) :: l) ((a, w) :: mapSetD k d l)
def mapDelD (k : V) : List (V × D) → List (V × D)
 | [] => []
 | (a, w) :: l => cond (V.same a k) l ((a, w) :: mapDelD k l)
def foundD (ok : Bool) (zero : D) (o : Option D) : D :=
 match o with
 | some d => cond ok (.tup [d, .lit (.bool true)]) d
 | none => cond ok (.tup [zero, .lit (.bool false)]) zero
def lookupB (sk : Bool) (zero : V) (ok : Bool) (x : BD) (k : D) : Option D :=
 match x, k with
 | .map kk l, .lit v => cond (keyIs sk kk v) (some (foundD ok (dV zero) (mapFindD v l))) none
 | _, _ => none
def withH (H : HpD) (o : Option D) : Option (D × HpD) :=
 match o with
 | some d => some (d, H)
 | none => none
def lookupD (H : HpD) (sk : Bool) (zero : V) (ok : Bool) (m k : D) : Option (D × HpD) :=
 match m with
 | .lit .nilmap => some (foundD ok (dV zero) none, H)
 | .map b => withH H (lookupB sk zero ok (H.blk b) k)
 | _ => none
def mapputB (sk : Bool) (x : BD) (k d : D) : Option BD :=
 match x, k with
 | .map kk l, .lit v => cond (keyIs sk kk v) (some (.map kk (mapSetD v d l))) none
 | _, _ => none
def mapputD (H : HpD) (sk : Bool) (m k v : D) : Option (D × HpD) :=
 match m with
 | .map b => tupO (putO' H b (mapputB sk (H.blk b) k v))
 | _ => none
def mapdelB (sk : Bool) (x : BD) (k : D) : Option BD :=
 match x, k with
 | .map kk l, .lit v => cond (keyIs sk kk v) (some (.map kk (mapDelD v l))) none
 | _, _ => none
def mapdelD (H : HpD) (sk : Bool) (m k : D) : Option (D × HpD) :=
 match m with
 | .lit .nilmap => some (.tup [], H)
 | .map b => tupO (putO' H b (mapdelB sk (H.blk b) k))
 | _ => none
def lenmB (x : BD) : Option D :=
 match x with
 | .map _ l => some (.lit (.int .i64 (l.length : Int)))
 | _ => none
def lenmD (H : HpD) (m : D) : Option (D × HpD) :=
 match m with
 | .lit .nilmap => some (.lit (.int .i64 0), H)
 | .map b => withH H (lenmB (H.blk b))
 | _ => none
def markD (H : HpD) (x : D) : Option (D × HpD) :=
 match x with
 | .slice b o sz len c ex => match H.blk b with
  | .cells _ false => cond (Nat.blt 0 c) (some (.slice b o sz len c ex, H)) none
  | _ => none
 | _ => none
def eD (fr : FrD) (H : HpD) : EOp → Option (D × HpD)
 | .store sz a x => storeD H sz (evD fr a) (evD fr x)
 | .append sz bytes s x => appendD sz bytes H (evD fr s) (evD fr x)
 | .appendz zero sz bytes s x => appendZD zero sz bytes H (evD fr s) (evD fr x)
 | .copy sz d s => copyD H sz (evD fr d) (evD fr s)
 | .clear zero x => clearD H zero (evD fr x)
 | .text x => textD H (evD fr x)
 | .lookup sk zero ok m k => lookupD H sk zero ok (evD fr m) (evD fr k)
 | .mapput sk m k v => mapputD H sk (evD fr m) (evD fr k) (evD fr v)
 | .delete sk m k => mapdelD H sk (evD fr m) (evD fr k)
 | .lenm x => lenmD H (evD fr x)
 | .mark x => markD H (evD fr x)
 | _ => none
section
variable {G : Nat → Option (Blk → Prop)} {h : Hp} {ψ : Nat → Option Nat} {S : Fz} {H : HpD}
theorem Ex.new {y : Blk} (hf : ∀ c, S c → c < h.next) : Ex h ψ S (h.new y) ψ S := ⟨fun _ _ e => e, fun c k => ⟨k, by rw [blk_new, if_neg]; have := hf c k; omega⟩, rfl⟩
theorem Ex.put {y : Blk} {b : Nat} (hf : ¬ S b) : Ex h ψ S (h.put b y) ψ S := ⟨fun _ _ e => e, fun c k => ⟨k, by rw [blk_put, if_neg]; rintro rfl; exact hf k⟩, rfl⟩
theorem SR.glx (s : SR G ψ S H h) {h' : Hp} {ψ' : Nat → Option Nat} {S' : Fz} (x : Ex h ψ S h' ψ' S') : ∀ c y, G c = some y → S' c ∧ y (h'.blk c) :=
 fun c y e => ⟨(x.frz c (s.gl c y e).1).1, by rw [(x.frz c (s.gl c y e).1).2]; exact (s.gl c y e).2⟩
theorem SR.put (s : SR G ψ S H h) {b c : Nat} (hb : ψ b = some c) (hS : ¬ S c) {x : BD} {y : Blk} (hr : BR h ψ S x y) : SR G ψ S (H.put b x) (h.put c y) := by
 have x0 : Ex h ψ S (h.put c y) ψ S := Ex.put hS;refine ⟨s.inj, s.dom, s.frz, fun b' hl => ?_, s.glx x0, s.low⟩;rw [put_blk] at hl ⊢
 by_cases e : b' = b
 ·subst e;rw [if_pos rfl] at hl ⊢;exact ⟨c, hb, hS, by rw [blk_put, if_pos rfl]; exact hr.mono x0⟩
 ·rw [if_neg e] at hl ⊢;obtain ⟨c', h1, h2, h3⟩ := s.live b' hl;refine ⟨c', h1, h2, ?_⟩;rw [blk_put, if_neg]
  ·exact h3.mono x0
  ·rintro rfl; exact e (s.inj _ _ _ h1 hb)
def addE (ψ : Nat → Option Nat) (b c : Nat) : Nat → Option Nat := fun x => if x = b then some c else ψ x
theorem SR.addExt (s : SR G ψ S H h) {y : Blk} : Ex h ψ S (h.new y) (addE ψ H.next h.next) S := by
 refine ⟨fun b c e => ?_, (Ex.new (ψ := ψ) s.frz).frz, rfl⟩;unfold addE;rw [if_neg]; exact e;have := (s.dom b c e).1; omega
theorem SR.new (s : SR G ψ S H h) {x : BD} {y : Blk} (hr : BR h ψ S x y) : SR G (addE ψ H.next h.next) S (H.new x) (h.new y) := by
 have x0 : Ex h ψ S (h.new y) (addE ψ H.next h.next) S := s.addExt;refine ⟨fun b b' c h1 h2 => ?_, fun b c e => ?_, fun c k => Nat.lt_succ_of_lt (s.frz c k), fun b hl => ?_, s.glx x0, Nat.le_succ_of_le s.low.1, fun b c e => ?_⟩
 ·unfold addE at h1 h2;split at h1 <;> split at h2
  ·omega
  ·cases h1; have := (s.dom _ _ h2).2; omega
  ·cases h2; have := (s.dom _ _ h1).2; omega
  ·exact s.inj _ _ _ h1 h2
 ·unfold addE at e;rw [new_next, Go.Vm.new_next];split at e
  ·cases e; omega
  ·have := s.dom _ _ e; omega
 ·rw [new_blk] at hl ⊢
  by_cases e : b = H.next
  ·subst e;rw [if_pos rfl] at hl ⊢;refine ⟨h.next, by unfold addE; rw [if_pos rfl], fun k => by have := s.frz _ k; omega, ?_⟩;rw [blk_new, if_pos rfl]; exact hr.mono x0
  ·rw [if_neg e] at hl ⊢;obtain ⟨c', h1, h2, h3⟩ := s.live b hl;refine ⟨c', by unfold addE; rw [if_neg e]; exact h1, h2, ?_⟩;rw [blk_new, if_neg]
   ·exact h3.mono x0
   ·have := (s.dom _ _ h1).2; omega
 ·unfold addE at e;split at e
  ·cases e; exact s.low.1
  ·exact s.low.2 b c e
theorem SR.newF (s : SR G ψ S H h) {y : Blk} : Ex h ψ S (h.new y) ψ (S.add h.next) ∧ SR G ψ (S.add h.next) H (h.new y) := by
 have x0 : Ex h ψ S (h.new y) ψ (S.add h.next) := ⟨fun _ _ e => e, fun c k => ⟨.inl k, ((Ex.new (ψ := ψ) s.frz).frz c k).2⟩, rfl⟩;refine ⟨x0, s.inj, fun b c e => ?_, fun c k => ?_, fun b hl => ?_, s.glx x0, Nat.le_succ_of_le s.low.1, s.low.2⟩
 ·have := s.dom _ _ e; rw [Go.Vm.new_next]; omega
 ·rw [Go.Vm.new_next]; rcases k with k | rfl
  ·have := s.frz c k; omega
  ·omega
 ·obtain ⟨c', h1, h2, h3⟩ := s.live b hl;have hlt := (s.dom _ _ h1).2;refine ⟨c', h1, fun k => ?_, ?_⟩
  ·rcases k with k | k
   ·exact h2 k
   ·omega
  ·rw [blk_new, if_neg (by omega)];exact h3.mono x0
theorem SR.cells (s : SR G ψ S H h) {b c : Nat} (hb : ψ b = some c) {l : List D} {ro : Bool} (hl : H.blk b = .cells l ro) : ¬ S c ∧ ∃ l', h.blk c = .cells l' ro ∧ VDl h ψ S l l' := by
 obtain ⟨c', h1, h2, h3⟩ := s.live b (by rw [hl]; rfl);rw [hb] at h1; cases h1;rw [hl] at h3;exact ⟨h2, h3⟩
theorem SR.map (s : SR G ψ S H h) {b c : Nat} (hb : ψ b = some c) {kk : Option IntKind} {l : List (V × D)} (hl : H.blk b = .map kk l) : ¬ S c ∧ ∃ l', h.blk c = .map kk l' ∧ VDm h ψ S l l' := by
 obtain ⟨c', h1, h2, h3⟩ := s.live b (by rw [hl]; rfl);rw [hb] at h1; cases h1;rw [hl] at h3;exact ⟨h2, h3⟩
theorem flatD_ok {d : D} {v : V} (e : flatD d = true) (k : VD h ψ S d v) : v.flat = true := by
 cases d <;> first | (cases e; done) | skip
 all_goals simp only [VD] at k
 ·obtain ⟨rfl, ha⟩ := k; cases v <;> first | rfl | (cases ha; done)
 ·obtain ⟨c, _, rfl⟩ := k; rfl
 ·obtain ⟨_, _, _, _, _, rfl, _⟩ := k; rfl
 ·obtain ⟨c, _, rfl⟩ := k; rfl
 ·rcases k with ⟨rfl, _⟩ | ⟨_, _, _, _, rfl, _⟩ <;> rfl
 ·obtain ⟨c, _, rfl⟩ := k; rfl
 ·obtain ⟨_, _, rfl, _⟩ := k; rfl
 ·obtain ⟨_, rfl, _⟩ := k; rfl
theorem flatsD_ok : ∀ {l : List D} {vs : List V}, flatsD l = true → VDl h ψ S l vs → allFlat vs = true
 | [], _, _, k => by simp only [VDl] at k; subst k; rfl
 | d :: l, _, e, k => by
  simp only [flatsD, Bool.and_eq_true] at e;simp only [VDl] at k;obtain ⟨v, r, rfl, h1, k⟩ := k;rw [allFlat_cons, flatD_ok e.1 h1, flatsD_ok e.2 k]; rfl
theorem repD_ok {zero : List D} {vs : List V} (k : VDl h ψ S zero vs) : ∀ n : Nat, VDl h ψ S (repD zero n) (repX vs n)
 | 0 => by simp [repD, repX, VDl]
 | n + 1 => VDl.append k (repD_ok k n)
theorem bytesD_ok : ∀ s : List Nat, VDl h ψ S (bytesD s) (s.map fun c => V.int .u8 (.ofNat c))
 | [] => by simp [bytesD, VDl]
 | c :: s => by
  simp only [bytesD, List.map_cons, VDl];exact ⟨_, _, rfl, by simp [VD, atomV], bytesD_ok s⟩
theorem chunk_flatten {sz : Nat} : ∀ {n : Nat} {l : List D}, l.length = n * sz → (chunkD sz n l).flatten = l ∧ (∀ e, e ∈ chunkD sz n l → e.length = sz) ∧ (chunkD sz n l).length = n
 | 0, l, e => by
  rw [Nat.zero_mul] at e;have := List.eq_nil_of_length_eq_zero e;subst this; simp [chunkD]
 | n + 1, l, e => by
  rw [Nat.succ_mul] at e;obtain ⟨h1, h2, h3⟩ := chunk_flatten (sz := sz) (n := n) (l := l.drop sz) (by rw [List.length_drop]; omega);simp only [chunkD, List.flatten_cons, h1, List.take_append_drop, List.mem_cons, List.length_cons, h3];refine ⟨trivial, ?_, trivial⟩;rintro x (rfl | hx)
  ·rw [List.length_take]; omega
  ·exact h2 x hx
theorem row_new (s : SR G ψ S H h) {sz : Nat} {l : List (List D)} {cs : List V} {m : Md} {ex : Bool} (he : ∀ e, e ∈ l → e.length = sz) (k : VDl h ψ S l.flatten cs) (hm : m = .c → ex = true) (ho : m ≠ .o := by decide) :
  Ex h ψ S (h.new (.cells cs false)) ψ (S.add h.next) ∧ SR G ψ (S.add h.next) H (h.new (.cells cs false)) ∧
   VD (h.new (.cells cs false)) ψ (S.add h.next) (.row sz m l) (.slice h.next 0 sz l.length l.length ex) := by
 obtain ⟨x0, s1⟩ := s.newF (y := .cells cs false);refine ⟨x0, s1, ?_⟩;simp only [VD];refine .inr ⟨h.next, 0, l.length, ex, rfl, Nat.le_refl _, fun e => ⟨rfl, hm e⟩, .inr ⟨cs, false, ⟨.inr rfl, fun _ => ⟨s.low.1, rfl⟩, fun e => absurd e ho⟩, by rw [blk_new, if_pos rfl], ?_⟩⟩;have := VDss.of (us := []) he (VDl.mono x0 _ k);simpa using this
theorem readD_ok (s : SR G ψ S H h) {b c o n : Nat} (hb : ψ b = some c) {l : List D} (e : readD H b o n = some l) : ∃ l', h.read c o n = some l' ∧ VDl h ψ S l l' := by
 unfold readD at e;split at e
 case h_2 => cases e
 rename_i cs ro hcs;rw [cond_eq_ite] at e;split at e
 case isFalse => cases e
 rename_i hn;rw [nble] at hn;cases e;obtain ⟨_, l', e1, k⟩ := s.cells hb hcs;exact ⟨_, read_cells e1 (by rw [k.length]; exact hn), VDl.take n (VDl.drop o k)⟩
theorem writeD_ok (s : SR G ψ S H h) {b c o : Nat} (hb : ψ b = some c) {cs : List D} {vs : List V} (k : VDl h ψ S cs vs) {H' : HpD} (e : writeD H b o cs = some H') : ∃ h', h.write c o vs = some h' ∧ Ex h ψ S h' ψ S ∧ SR G ψ S H' h' := by
 unfold writeD putO' at e;split at e
 case h_2 => cases e
 rename_i x hx;cases e;unfold writeBD at hx;split at hx
 case h_2 => cases hx
 rename_i l hl;rw [cond_eq_ite] at hx;split at hx
 case isFalse => cases hx
 rename_i hn;rw [nble] at hn;rw [cond_eq_ite] at hx;split at hx
 case isFalse => cases hx
 rename_i hf;cases hx;obtain ⟨hS, l', e1, kl⟩ := s.cells hb hl;refine ⟨_, write_cells e1 (by rw [kl.length, k.length]; exact hn) (flatsD_ok hf k), Ex.put hS, s.put hb hS ⟨_, rfl, spliceD_ok kl k hn⟩⟩
end
end Go.Dv
end

section
namespace Go.Dv
open Go.Vm
section
variable {G : Nat → Option (Blk → Prop)} {h : Hp} {ψ : Nat → Option Nat} {S : Fz} {H : HpD}
def To (G : Nat → Option (Blk → Prop)) (ψ : Nat → Option Nat) (S : Fz) (h : Hp) (d : D) (H' : HpD) (v : V) (h' : Hp) : Prop :=
 ∃ ψ' S', Ex h ψ S h' ψ' S' ∧ SR G ψ' S' H' h' ∧ VD h' ψ' S' d v
theorem To.same (s : SR G ψ S H h) {d : D} {v : V} (k : VD h ψ S d v) : To G ψ S h d H v h := ⟨ψ, S, .refl, s, k⟩
theorem To.lit (s : SR G ψ S H h) {a : V} (ha : atomV a = true) : To G ψ S h (.lit a) H a h := To.same s (by simp [VD, ha])
theorem addE_self {b c : Nat} : addE ψ b c b = some c := by unfold addE; rw [if_pos rfl]
theorem To.newPtr (s : SR G ψ S H h) {l : List D} {vs : List V} (k : VDl h ψ S l vs) {ro : Bool} : To G ψ S h (.ptr H.next 0) (H.new (.cells l ro)) (.ptr h.next 0) (h.new (.cells vs ro)) :=
 ⟨_, S, s.addExt, s.new ⟨vs, rfl, k⟩, by simp only [VD]; exact ⟨_, addE_self, rfl⟩⟩
theorem To.newSlice (s : SR G ψ S H h) {l : List D} {vs : List V} (k : VDl h ψ S l vs) {ro : Bool} {sz n c : Nat} {ex : Bool} : To G ψ S h (.slice H.next 0 sz n c ex) (H.new (.cells l ro)) (.slice h.next 0 sz n c ex) (h.new (.cells vs ro)) :=
 ⟨_, S, s.addExt, s.new ⟨vs, rfl, k⟩, by simp only [VD]; exact ⟨_, addE_self, rfl⟩⟩
theorem To.row (s : SR G ψ S H h) {sz : Nat} {l : List (List D)} {cs : List V} {m : Md} {ex : Bool} (he : ∀ e, e ∈ l → e.length = sz) (k : VDl h ψ S l.flatten cs) (hm : m = .c → ex = true) {n : Nat} (hn : l.length = n) (ho : m ≠ .o := by decide) :
  To G ψ S h (.row sz m l) H (.slice h.next 0 sz n n ex) (h.new (.cells cs false)) := by
 subst hn;obtain ⟨x, s1, kv⟩ := row_new s he k hm ho;exact ⟨_, _, x, s1, kv⟩
theorem flat_bytes : ∀ t : List Nat, (t.map fun c => [D.lit (.int .u8 (.ofNat c))]).flatten = bytesD t
 | [] => rfl
 | c :: t => by simp only [List.map_cons, List.flatten_cons, flat_bytes t, bytesD]; rfl
theorem aD_ok (s : SR G ψ S H h) {fr : FrD} {frv : Fr} (k : FrR h ψ S fr frv) {fz : Bool} {o : AOp} {d : D} {H' : HpD} (e : aD fr H fz o = some (d, H')) : ∃ y mk, aV frv o = some (y, mk) ∧ To G ψ S h d H' (mk h.next) (h.new y) := by
 cases o with
 | new zero =>
  simp only [aD] at e;rw [cond_eq_ite] at e;split at e
  case isFalse => cases e
  rename_i hf;cases e;exact ⟨.cells zero false, fun b => .ptr b 0, by simp only [aV, hf, cond_true], To.newPtr s (dVs_ok zero)⟩
 | box x =>
  simp only [aD, boxD] at e;split at e
  case h_2 => cases e
  rename_i cs hcs;rw [cond_eq_ite] at e;split at e
  case isFalse => cases e
  rename_i hf;have kk := cellsD_ok hcs (evD_ok k x);refine ⟨.cells (ev frv x).cells false, fun b => .ptr b 0, by simp only [aV, flatsD_ok hf kk, cond_true], ?_⟩
  cases fz with
  | false => cases e; exact To.newPtr s kk
  | true =>
   cases e;obtain ⟨x0, s1⟩ := s.newF (y := .cells (ev frv x).cells false);refine ⟨_, _, x0, s1, ?_⟩;simp only [VD];refine ⟨h.next, 0, _, false, .inr rfl, rfl, by rw [blk_new, if_pos rfl], ?_⟩;have := VDp.of (us := []) (VDl.mono x0 _ kk);simpa using this
 | bslice zero sz len parts =>
  simp only [aD, bsliceD] at e;split at e
  case h_2 => cases e
  rename_i c hc;rw [cond_eq_ite] at e;split at e
  case isFalse => cases e
  rename_i hf;rw [cond_eq_ite] at e;split at e
  case isFalse => cases e
  rename_i hl;rw [nbeq] at hl;obtain ⟨us, e1, k1⟩ := fillD_ok k parts (dVs_ok zero) hc;refine ⟨.cells us false, fun b => .slice b 0 sz len len true, ?_, ?_⟩
  ·simp only [aV, e1, flatsD_ok hf k1, cond_true];rw [show Nat.beq us.length (len * sz) = true from nbeq.2 (by rw [k1.length, hl])];rfl
  ·cases fz with
   | true =>
    cases e;obtain ⟨a1, a2, a3⟩ := chunk_flatten hl;exact To.row s a2 (by rw [a1]; exact k1) (fun _ => rfl) a3
   | false => cases e; exact To.newSlice s k1
 | mkslice zero sz bytes l c =>
  simp only [aD, mksliceD] at e;split at e
  case h_2 => cases e
  rename_i n m hn hm;have h1 := natD_ok hn (evD_ok k l);have h2 := natD_ok hm (evD_ok k c);simp only [cond_eq_ite] at e
  repeat' (split at e)
  all_goals first | (cases e; done) | skip
  rename_i c1 c2 c3 c4 c5;cases e;refine ⟨.cells (repX zero m) false, fun b => .slice b 0 sz n m true, ?_, To.newSlice s (repD_ok (dVs_ok zero) m)⟩;simp only [aV, h1, h2, c1, c2, c3, c4, c5, cond_true]
 | mkmap kk =>
  cases e;exact ⟨_, _, rfl, _, S, s.addExt, s.new ⟨[], rfl, rfl⟩, by simp only [VD]; exact ⟨_, addE_self, rfl⟩⟩
 | bytes x =>
  have hx := evD_ok k x;simp only [aD] at e;unfold toBytesD at e;split at e
  case h_2 => cases e
  rename_i t ht;rw [ht] at hx;simp only [VD] at hx;refine ⟨.cells (t.map fun c => .int .u8 (.ofNat c)) false, fun b => .slice b 0 1 t.length t.length false, by simp only [aV, hx.1], ?_⟩
  cases fz with
  | true =>
   cases e;refine To.row s (fun e he => ?_) ?_ (fun e => by cases e) (by simp)
   ·obtain ⟨_, _, rfl⟩ := List.mem_map.1 he; rfl
   ·have := bytesD_ok (h := h) (ψ := ψ) (S := S) t
    rwa [flat_bytes]
  | false => cases e; exact To.newSlice s (bytesD_ok t)
theorem aD_new {fr : FrD} {frv : Fr} (k : FrR h ψ S fr frv) {o : AOp} {d : D} {H' : HpD} (e : aD fr H false o = some (d, H')) : ∃ y mk x, aV frv o = some (y, mk) ∧ H' = H.new x ∧ BR h ψ S x y ∧ VD (h.new y) (addE ψ H.next h.next) S d (mk h.next) := by
 cases o with
 | new zero =>
  simp only [aD] at e;rw [cond_eq_ite] at e;split at e
  case isFalse => cases e
  rename_i hf;cases e;exact ⟨.cells zero false, fun b => .ptr b 0, _, by simp only [aV, hf, cond_true], rfl, ⟨_, rfl, dVs_ok zero⟩, by simp only [VD]; exact ⟨_, addE_self, rfl⟩⟩
 | box x =>
  simp only [aD, boxD] at e;split at e
  case h_2 => cases e
  rename_i cs hcs;rw [cond_eq_ite] at e;split at e
  case isFalse => cases e
  rename_i hf;cases e;have kk := cellsD_ok hcs (evD_ok k x);exact ⟨.cells (ev frv x).cells false, fun b => .ptr b 0, _, by simp only [aV, flatsD_ok hf kk, cond_true], rfl, ⟨_, rfl, kk⟩, by simp only [VD]; exact ⟨_, addE_self, rfl⟩⟩
 | bslice zero sz len parts =>
  simp only [aD, bsliceD] at e;split at e
  case h_2 => cases e
  rename_i c hc;rw [cond_eq_ite] at e;split at e
  case isFalse => cases e
  rename_i hf;rw [cond_eq_ite] at e;split at e
  case isFalse => cases e
  rename_i hl;rw [nbeq] at hl;obtain ⟨us, e1, k1⟩ := fillD_ok k parts (dVs_ok zero) hc;cases e;refine ⟨.cells us false, fun b => .slice b 0 sz len len true, _, ?_, rfl, ⟨_, rfl, k1⟩, by simp only [VD]; exact ⟨_, addE_self, rfl⟩⟩;simp only [aV, e1, flatsD_ok hf k1, cond_true];rw [show Nat.beq us.length (len * sz) = true from nbeq.2 (by rw [k1.length, hl])];rfl
 | mkslice zero sz bytes l c =>
  simp only [aD, mksliceD] at e;split at e
  case h_2 => cases e
  rename_i n m hn hm;have h1 := natD_ok hn (evD_ok k l);have h2 := natD_ok hm (evD_ok k c);simp only [cond_eq_ite] at e
  repeat' (split at e)
  all_goals first | (cases e; done) | skip
  rename_i c1 c2 c3 c4 c5;cases e;refine ⟨.cells (repX zero m) false, fun b => .slice b 0 sz n m true, _, ?_, rfl, ⟨_, rfl, repD_ok (dVs_ok zero) m⟩, by simp only [VD]; exact ⟨_, addE_self, rfl⟩⟩;simp only [aV, h1, h2, c1, c2, c3, c4, c5, cond_true]
 | mkmap kk =>
  cases e;exact ⟨.map kk [], fun b => .map b, _, rfl, rfl, ⟨[], rfl, rfl⟩, by simp only [VD]; exact ⟨_, addE_self, rfl⟩⟩
 | bytes x =>
  have hx := evD_ok k x;simp only [aD] at e;unfold toBytesD at e;split at e
  case h_2 => cases e
  rename_i t ht;rw [ht] at hx;simp only [VD] at hx;cases e;exact ⟨.cells (t.map fun c => .int .u8 (.ofNat c)) false, fun b => .slice b 0 1 t.length t.length false, _, by simp only [aV, hx.1], rfl, ⟨_, rfl, bytesD_ok t⟩, by simp only [VD]; exact ⟨_, addE_self, rfl⟩⟩
theorem loadD_ok (s : SR G ψ S H h) {x d : D} {v : V} (k : VD h ψ S x v) (e : loadD H x = some d) : ∃ u, loadV h v = some u ∧ VD h ψ S d u := by
 cases x <;> simp only [loadD] at e <;> first | (cases e; done) | skip
 ·simp only [VD] at k;obtain ⟨c, hc, rfl⟩ := k;unfold cellD at e;split at e
  case h_2 => cases e
  rename_i l ro hl;obtain ⟨_, l', e1, k⟩ := s.cells hc hl;simp only [loadV, e1, cellAt];exact VDl.get k e
 ·simp only [VD] at k;rename_i l i;obtain ⟨c, o, cs, ro, _, rfl, hb, hp⟩ := k;have hlt := (List.getElem?_eq_some_iff.1 e).1;obtain ⟨us, e1, k1⟩ := VDp.take (n := l.length) hp (Nat.le_refl _);rw [List.take_length] at k1;obtain ⟨a1, a2⟩ := takeX_eq e1;obtain ⟨u, e2, k2⟩ := VDl.get k1 e;refine ⟨u, ?_, k2⟩;simp only [loadV, hb, cellAt];rw [a1, List.getElem?_take, if_pos hlt, List.getElem?_drop] at e2;exact e2
theorem loadnD_ok (s : SR G ψ S H h) {x d : D} {v : V} {n : Nat} (k : VD h ψ S x v) (e : loadnD H n x = some d) : ∃ u, loadnV h n v = some u ∧ VD h ψ S d u := by
 cases x <;> simp only [loadnD] at e <;> first | (cases e; done) | skip
 ·simp only [VD] at k;obtain ⟨c, hc, rfl⟩ := k;unfold aggD at e;split at e
  case h_2 => cases e
  rename_i l hl;cases e;obtain ⟨l', e1, k⟩ := readD_ok s hc hl;simp only [loadnV, e1, aggO_some];exact ⟨_, rfl, by simp only [VD]; exact ⟨_, rfl, k⟩⟩
 ·simp only [VD] at k;rename_i l i;obtain ⟨c, o, cs, ro, _, rfl, hb, hp⟩ := k;rw [cond_eq_ite] at e;split at e
  case isFalse => cases e
  rename_i hn;rw [nble] at hn;cases e;obtain ⟨us, e1, k1⟩ := VDp.take (n := n) (VDp.drop (n := i) hp) (by rw [List.length_drop]; omega);rw [List.drop_drop] at e1;have hr : h.read c (o + i) n = some us := (by unfold Hp.read; rw [hb]; exact e1);simp only [loadnV, hr, aggO_some];exact ⟨_, rfl, by simp only [VD]; exact ⟨_, rfl, k1⟩⟩
theorem storeD_ok (s : SR G ψ S H h) {a x d : D} {va vx : V} {sz : Nat} {H' : HpD} (ka : VD h ψ S a va) (kx : VD h ψ S x vx) (e : storeD H sz a x = some (d, H')) : ∃ u h', storeV h sz va vx = some (u, h') ∧ To G ψ S h d H' u h' := by
 unfold storeD at e;split at e
 case h_2 => cases e
 rename_i b o;simp only [VD] at ka;obtain ⟨c, hc, rfl⟩ := ka;unfold storeC at e;split at e
 case h_2 => cases e
 rename_i cs hcs;have kk := cellsD_ok hcs kx;rw [cond_eq_ite] at e;split at e
 case isFalse => cases e
 rename_i hl;rw [nbeq] at hl;unfold tupO at e;split at e
 case h_2 => cases e
 rename_i H1 hw;cases e;obtain ⟨h', e1, x1, s1⟩ := writeD_ok s hc kk hw;refine ⟨.tup [], h', ?_, _, _, x1, s1, by simp [VD, VDl]⟩;simp only [storeV, storeH];rw [show Nat.beq vx.cells.length sz = true from nbeq.2 (by rw [kk.length, hl]), e1];rfl
theorem lenD_ok {x : D} {v : V} {n : Nat} (k : VD h ψ S x v) (e : lenD x = some n) : lenV v = some n := by
 unfold lenD at e;split at e
 all_goals first | (cases e; done) | skip
 all_goals (cases e; simp only [VD] at k)
 ·rw [k.1]; rfl
 ·rw [k.1]; rfl
 ·obtain ⟨c, _, rfl⟩ := k; rfl
 ·rcases k with ⟨rfl, rfl⟩ | ⟨_, _, _, _, rfl, _⟩ <;> rfl
theorem take_flatten {sz : Nat} : ∀ {l : List (List D)} {n : Nat}, (∀ e, e ∈ l → e.length = sz) → (l.take n).flatten = l.flatten.take (n * sz)
 | [], n, _ => by simp
 | x :: l, 0, _ => by simp
 | x :: l, n + 1, he => by
  rw [List.take_succ_cons, List.flatten_cons, List.flatten_cons, take_flatten fun e k => he e (List.mem_cons_of_mem _ k)];have hx := he x (List.mem_cons_self ..);rw [List.take_append, hx, show (n + 1) * sz - sz = n * sz from by rw [Nat.succ_mul]; omega];rw [show x.take ((n + 1) * sz) = x from List.take_of_length_le (by rw [Nat.succ_mul]; omega)]
theorem VDss.len : ∀ {l : List (List D)} {cs : List V} {sz : Nat}, VDss h ψ S sz l cs → ∀ e, e ∈ l → e.length = sz
 | [], _, _, _, e, he => by cases he
 | x :: l, cs, sz, k, e, he => by
  simp only [VDss] at k;rcases List.mem_cons.1 he with rfl | he
  ·exact k.1
  ·exact VDss.len k.2.2 e he
theorem srcD_ok (s : SR G ψ S H h) {x : D} {v : V} {sz n : Nat} {new : List D} (k : VD h ψ S x v) (e : srcD H sz n x = some new) : ∃ us, srcCells h sz n v = some us ∧ VDl h ψ S new us := by
 unfold srcD at e;split at e
 case h_5 => cases e
 ·simp only [VD] at k;rw [k.1];rw [cond_eq_ite] at e;split at e
  case isFalse => cases e
  rename_i hn;cases e;exact ⟨[], by simp only [srcCells, hn, cond_true], by simp [VDl]⟩
 ·simp only [VD] at k;rw [k.1];rw [cond_eq_ite] at e;split at e
  case isFalse => cases e
  rename_i hs;rw [cond_eq_ite] at e;split at e
  case isFalse => cases e
  rename_i hn;cases e;exact ⟨_, by simp only [srcCells, hs, hn, cond_true], bytesD_ok _⟩
 ·simp only [VD] at k;obtain ⟨c, hc, rfl⟩ := k;rw [cond_eq_ite] at e;split at e
  case isFalse => cases e
  rename_i hs;rw [cond_eq_ite] at e;split at e
  case isFalse => cases e
  rename_i hn;obtain ⟨us, e1, k1⟩ := readD_ok s hc e;exact ⟨us, by simp only [srcCells, hs, hn, cond_true, e1], k1⟩
 ·rename_i sz' m l;rw [cond_eq_ite] at e;split at e
  case isFalse => cases e
  rename_i hs;rw [nbeq] at hs;subst hs;rw [cond_eq_ite] at e;split at e
  case isFalse => cases e
  rename_i hn;rw [nble] at hn
  have hw : ¬ (m = .w ∧ n = 0) := by
   rintro ⟨rfl, rfl⟩;cases e
  have e : (l.take n).flatten = new := by
   cases m <;> cases n <;> first | (cases e; rfl) | (exact absurd ⟨rfl, rfl⟩ hw)
  subst e;simp only [VD] at k;rcases k with ⟨rfl, rfl⟩ | ⟨b, o, c, ex, rfl, h1, h2, k⟩
  ·have : n = 0 := (by simpa using hn);subst this;exact ⟨[], rfl, by simp [VDl]⟩
  ·rcases k with ⟨rfl, rfl⟩ | ⟨cs, ro, hS, hb, hp⟩
   ·exact absurd ⟨rfl, by simpa using hn⟩ hw
   ·obtain ⟨us, e1, k1⟩ := VDss.cells hp;obtain ⟨a1, a2⟩ := takeX_eq e1;have hle : n * sz ≤ l.length * sz := Nat.mul_le_mul_right _ hn;refine ⟨us.take (n * sz), ?_, ?_⟩
    ·simp only [srcCells];rw [show Nat.beq sz sz = true from nbeq.2 rfl, show Nat.ble n l.length = true from nble.2 hn];simp only [cond_true];rw [show h.read b o (n * sz) = takeX (n * sz) (cs.drop o) from by unfold Hp.read; rw [hb]];rw [takeX_of (by omega), a1, List.take_take, Nat.min_eq_left hle]
    ·rw [take_flatten (VDss.len hp)];exact VDl.take _ k1
theorem growD_ok (s : SR G ψ S H h) {sz n m : Nat} (hm : n = m) {old new : List D} {vo vn : List V} (k1 : VDl h ψ S old vo) (k2 : VDl h ψ S new vn) {d : D} {H' : HpD} (e : growD sz H n (some old) new = some (d, H')) :
  To G ψ S h d H' (.slice h.next 0 sz m m false) (h.new (.cells (vo ++ vn) false)) := by
 subst hm;cases e;exact To.newSlice s (VDl.append k1 k2)
theorem appendCD_ok (s : SR G ψ S H h) {x : D} {v : V} {sz by_ n : Nat} {new : List D} {us : List V} {d : D} {H' : HpD} (hn : 0 < n) (k : VD h ψ S x v) (kn : VDl h ψ S new us) (e : appendCD sz by_ H x n new = some (d, H')) :
  ∃ u h', appendC sz by_ h v n us = some (u, h') ∧ To G ψ S h d H' u h' := by
 unfold appendCD at e;split at e
 case h_4 => cases e
 ·simp only [VD] at k;rw [k.1];rw [cond_eq_ite] at e;split at e
  case isFalse => cases e
  rename_i hr;cases e;exact ⟨_, _, by simp only [appendC, hr, cond_true], To.newSlice s kn⟩
 ·rename_i b o sz' len c ex;simp only [VD] at k;obtain ⟨c', hc, rfl⟩ := k;rw [cond_eq_ite] at e;split at e
  case isFalse => cases e
  rename_i hs;rw [nbeq] at hs;subst hs;simp only [appendC];rw [show Nat.beq sz sz = true from nbeq.2 rfl];simp only [cond_true]
  cases hle : Nat.ble (len + n) c with
  | true =>
   rw [hle] at e;simp only [cond_true] at e ⊢;split at e
   case h_2 => cases e
   rename_i H1 hw;cases e;obtain ⟨h', e1, x1, s1⟩ := writeD_ok s hc kn hw;exact ⟨_, h', by rw [e1], _, _, x1, s1, by simp only [VD]; exact ⟨c', hc, rfl⟩⟩
  | false =>
   rw [hle] at e;simp only [cond_false] at e ⊢
   cases hr : roomy by_ (len + n) with
   | false => rw [hr] at e; cases e
   | true =>
    rw [hr] at e;simp only [cond_true] at e ⊢
    cases ex with
    | true =>
     simp only at e
     cases hrd : readD H b o (len * sz) with
     | none => rw [hrd] at e; cases e
     | some old =>
      rw [hrd] at e;obtain ⟨vo, e1, k1⟩ := readD_ok s hc hrd;rw [e1];exact ⟨_, _, rfl, growD_ok s rfl k1 kn e⟩
    | false =>
     simp only at e;rw [cond_eq_ite] at e;split at e
     case isFalse => cases e
     rename_i ho;rw [ho];split at e
     case h_2 => cases e
     rename_i l hl
     cases hrd : readD H b o (len * sz) with
     | none => rw [hrd] at e; cases e
     | some old =>
      rw [hrd] at e;obtain ⟨vo, e1, k1⟩ := readD_ok s hc hrd;obtain ⟨hS, l', e2, kl⟩ := s.cells hc hl;rw [e1, e2];have x1 : Ex h ψ S (h.put c' .gone) ψ S := Ex.put hS;have s1 : SR G ψ S (H.put b .gone) (h.put c' .gone) := s.put hc hS trivial;obtain ⟨ψ', S', x2, s2, k2⟩ := growD_ok s1 rfl (VDl.mono x1 _ k1) (VDl.mono x1 _ kn) e;exact ⟨_, _, rfl, ψ', S', x1.trans x2, s2, k2⟩
 ·rename_i sz' l;rw [cond_eq_ite] at e;split at e
  case isFalse => cases e
  rename_i hs;rw [nbeq] at hs;subst hs;rw [cond_eq_ite] at e;split at e
  case isFalse => cases e
  rename_i hr;simp only [VD] at k;rcases k with ⟨rfl, rfl⟩ | ⟨b, o, c, ex, rfl, h1, h2, k⟩
  ·simp only [List.length_nil, Nat.zero_add, List.flatten_nil] at e hr;refine ⟨.slice h.next 0 sz n n false, h.new (.cells us false), by simp only [appendC, hr, cond_true], ?_⟩;have := growD_ok s rfl (old := []) (vo := []) (by simp [VDl]) kn e;exact this
  ·obtain ⟨rfl, rfl⟩ := h2 trivial;rcases k with ⟨hw, _⟩ | ⟨cs, ro, hS, hb, hp⟩
   ·cases hw
   ·obtain ⟨vo, e1, k1⟩ := VDss.cells hp;have hrd : h.read b o (l.length * sz) = some vo := (by unfold Hp.read; rw [hb]; exact e1);refine ⟨_, _, ?_, growD_ok s rfl k1 kn e⟩;simp only [appendC];rw [show Nat.beq sz sz = true from nbeq.2 rfl, show Nat.ble (l.length + n) l.length = false from by rw [nble_d]; exact decide_eq_false (by omega), hr, hrd];rfl
theorem appendD_ok (s : SR G ψ S H h) {a x d : D} {va vx : V} {sz by_ : Nat} {H' : HpD} (ka : VD h ψ S a va) (kx : VD h ψ S x vx) (e : appendD sz by_ H a x = some (d, H')) : ∃ u h', appendV sz by_ h va vx = some (u, h') ∧ To G ψ S h d H' u h' := by
 unfold appendD at e;split at e
 case h_1 => cases e
 rename_i n hn;have hl := lenD_ok kx hn
 cases n with
 | zero =>
  simp only at e;unfold sameD at e;simp only [appendV, hl];split at e
  case h_4 => cases e
  ·cases e;have k2 := ka;simp only [VD] at k2;rw [k2.1] at ka ⊢;exact ⟨_, _, rfl, To.same s ka⟩
  ·rw [cond_eq_ite] at e;split at e
   case isFalse => cases e
   rename_i hs;cases e;have k2 := ka;simp only [VD] at k2;obtain ⟨c, hc, rfl⟩ := k2;exact ⟨_, _, by simp only [hs, cond_true], To.same s ka⟩
  ·rw [cond_eq_ite] at e;split at e
   case isFalse => cases e
   rename_i hs;cases e;have k2 := ka;simp only [VD] at k2;rcases k2 with ⟨rfl, _⟩ | ⟨b, o, c, ex, rfl, _⟩
   ·exact ⟨_, _, rfl, To.same s ka⟩
   ·exact ⟨_, _, by simp only [hs, cond_true], To.same s ka⟩
 | succ n =>
  simp only at e;unfold appendN at e;split at e
  case h_2 => cases e
  rename_i new hnew;rw [cond_eq_ite] at e;split at e
  case isFalse => cases e
  rename_i hf;obtain ⟨us, e1, k1⟩ := srcD_ok s kx hnew;obtain ⟨u, h', e2, t⟩ := appendCD_ok s (Nat.succ_pos n) ka k1 e;refine ⟨u, h', ?_, t⟩;simp only [appendV, hl, e1, flatsD_ok hf k1, cond_true];exact e2
theorem appendZD_ok (s : SR G ψ S H h) {a x d : D} {va vx : V} {zero : List V} {sz by_ : Nat} {H' : HpD} (ka : VD h ψ S a va) (kx : VD h ψ S x vx) (e : appendZD zero sz by_ H a x = some (d, H')) : ∃ u h', appendZ zero sz by_ h va vx = some (u, h') ∧ To G ψ S h d H' u h' := by
 unfold appendZD at e;split at e
 case h_1 => cases e
 rename_i n hn;have hl := natD_ok hn kx
 cases n with
 | zero =>
  simp only at e;unfold sameD at e;simp only [appendZ, hl];split at e
  case h_4 => cases e
  ·cases e;have k2 := ka;simp only [VD] at k2;rw [k2.1] at ka ⊢;exact ⟨_, _, rfl, To.same s ka⟩
  ·rw [cond_eq_ite] at e;split at e
   case isFalse => cases e
   rename_i hs;cases e;have k2 := ka;simp only [VD] at k2;obtain ⟨c, hc, rfl⟩ := k2;exact ⟨_, _, by simp only [hs, cond_true], To.same s ka⟩
  ·rw [cond_eq_ite] at e;split at e
   case isFalse => cases e
   rename_i hs;cases e;have k2 := ka;simp only [VD] at k2;rcases k2 with ⟨rfl, _⟩ | ⟨b, o, c, ex, rfl, _⟩
   ·exact ⟨_, _, rfl, To.same s ka⟩
   ·exact ⟨_, _, by simp only [hs, cond_true], To.same s ka⟩
 | succ n =>
  simp only at e;simp only [cond_eq_ite] at e
  repeat' (split at e)
  all_goals first | (cases e; done) | skip
  rename_i c1 c2 c3 c4;obtain ⟨u, h', e2, t⟩ := appendCD_ok s (Nat.succ_pos n) ka (repD_ok (dVs_ok zero) (n + 1)) e;refine ⟨u, h', ?_, t⟩;simp only [appendZ, hl, c1, c2, c4, cond_true];exact e2
theorem copyD_ok (s : SR G ψ S H h) {a x d : D} {va vx : V} {sz : Nat} {H' : HpD} (ka : VD h ψ S a va) (kx : VD h ψ S x vx) (e : copyD H sz a x = some (d, H')) {frv : Fr} {oa ox : Opd} (ha : ev frv oa = va) (hx : ev frv ox = vx) :
  ∃ u h', eW frv h (.copy sz oa ox) = some (u, h') ∧ To G ψ S h d H' u h' := by
 unfold copyD at e;split at e
 case h_1 => cases e
 rename_i n hn;have hl := lenD_ok kx hn;split at e
 case h_3 => cases e
 ·cases e;simp only [VD] at ka;simp only [eW, eV, ha, hx, hl, ka.1];exact ⟨_, _, rfl, To.lit s rfl⟩
 ·rename_i b o sz' len cp ex;simp only [VD] at ka;obtain ⟨c, hc, rfl⟩ := ka;rw [cond_eq_ite] at e;split at e
  case isFalse => cases e
  rename_i hs;unfold copyC at e;split at e
  case h_2 => cases e
  rename_i new hnew;obtain ⟨us, e1, k1⟩ := srcD_ok s kx hnew;split at e
  ·cases e;simp only [VDl] at k1;subst k1;simp only [eW, eV, ha, hx, hl, hs, cond_true, e1];exact ⟨_, _, rfl, To.lit s rfl⟩
  ·rename_i y r;split at e
   case h_2 => cases e
   rename_i H1 hw;cases e;obtain ⟨h', e2, x1, s1⟩ := writeD_ok s hc k1 hw;simp only [VDl] at k1;obtain ⟨v, r', rfl, _, _⟩ := k1;simp only [eW, eV, ha, hx, hl, hs, cond_true, e1, e2];exact ⟨_, _, rfl, _, _, x1, s1, by simp [VD, atomV]⟩
theorem VDm.find {k : V} : ∀ {l : List (V × D)} {l' : List (V × V)}, VDm h ψ S l l' → (mapFindD k l = none ∧ mapFind k l' = none) ∨ ∃ d v, mapFindD k l = some d ∧ mapFind k l' = some v ∧ VD h ψ S d v
 | [], _, kk => by simp only [VDm] at kk; subst kk; exact .inl ⟨rfl, rfl⟩
 | (a, d) :: l, _, kk => by
  simp only [VDm] at kk;obtain ⟨v, r, rfl, h1, kk⟩ := kk;simp only [mapFindD, mapFind]
  cases V.same a k with
  | true => exact .inr ⟨d, v, rfl, rfl, h1⟩
  | false => exact VDm.find kk
theorem VDm.set {k : V} {d : D} {v : V} (kd : VD h ψ S d v) : ∀ {l : List (V × D)} {l' : List (V × V)}, VDm h ψ S l l' → VDm h ψ S (mapSetD k d l) (mapSet k v l')
 | [], _, kk => by simp only [VDm] at kk; subst kk; simp only [mapSetD, mapSet, VDm]; exact ⟨v, [], rfl, kd, rfl⟩
 | (a, w) :: l, _, kk => by
  simp only [VDm] at kk;obtain ⟨v', r, rfl, h1, kk⟩ := kk;simp only [mapSetD, mapSet]
  cases V.same a k with
  | true => simp only [cond_true, VDm]; exact ⟨_, _, rfl, kd, kk⟩
  | false => simp only [cond_false, VDm]; exact ⟨_, _, rfl, h1, VDm.set kd kk⟩
theorem VDm.del {k : V} : ∀ {l : List (V × D)} {l' : List (V × V)}, VDm h ψ S l l' → VDm h ψ S (mapDelD k l) (mapDel k l')
 | [], _, kk => by simp only [VDm] at kk; subst kk; simp [mapDelD, mapDel, VDm]
 | (a, w) :: l, _, kk => by
  simp only [VDm] at kk;obtain ⟨v', r, rfl, h1, kk⟩ := kk;simp only [mapDelD, mapDel]
  cases V.same a k with
  | true => exact kk
  | false => simp only [cond_false, VDm]; exact ⟨_, _, rfl, h1, VDm.del kk⟩
theorem VDm.len : ∀ {l : List (V × D)} {l' : List (V × V)}, VDm h ψ S l l' → l'.length = l.length
 | [], _, kk => by simp only [VDm] at kk; subst kk; rfl
 | (a, w) :: l, _, kk => by
  simp only [VDm] at kk;obtain ⟨v', r, rfl, h1, kk⟩ := kk;simp [VDm.len kk]
theorem foundD_none {ok : Bool} {zero : V} : VD h ψ S (foundD ok (dV zero) none) (cond ok (.tup [zero, .bool false]) zero) := by
 cases ok
 ·exact dV_ok zero
 ·simp only [foundD, cond_true, VD, VDl];exact ⟨_, rfl, _, _, rfl, dV_ok zero, _, _, rfl, ⟨rfl, rfl⟩, rfl⟩
theorem foundD_some {ok : Bool} {zero v : V} {d : D} (k : VD h ψ S d v) : VD h ψ S (foundD ok (dV zero) (some d)) (cond ok (.tup [v, .bool true]) v) := by
 cases ok
 ·exact k
 ·simp only [foundD, cond_true, VD, VDl];exact ⟨_, rfl, _, _, rfl, k, _, _, rfl, ⟨rfl, rfl⟩, rfl⟩
theorem eD_ok (s : SR G ψ S H h) {fr : FrD} {frv : Fr} (k : FrR h ψ S fr frv) {o : EOp} {d : D} {H' : HpD} (e : eD fr H o = some (d, H')) : ∃ u h', eW frv h o = some (u, h') ∧ o.calls = false ∧ To G ψ S h d H' u h' := by
 cases o with
 | store sz a x =>
  obtain ⟨u, h', e1, t⟩ := storeD_ok s (evD_ok k a) (evD_ok k x) e;refine ⟨u, h', ?_, rfl, t⟩;simp only [eW, eV];unfold storeV at e1;split at e1
  case h_2 => cases e1
  rename_i b o hb;rw [hb];simp only [storeH] at e1 ⊢
  cases hc : Nat.beq (ev frv x).cells.length sz with
  | false => rw [hc] at e1; cases e1
  | true =>
   rw [hc] at e1;simp only [cond_true] at e1 ⊢
   cases hw : h.write b o (ev frv x).cells with
   | none => rw [hw] at e1; cases e1
   | some h1 => rw [hw] at e1; exact e1
 | call f a => cases e
 | callv x a => cases e
 | extern f a => cases e
 | stop => cases e
 | append sz by_ a x =>
  obtain ⟨u, h', e1, t⟩ := appendD_ok s (evD_ok k a) (evD_ok k x) e;exact ⟨u, h', e1, rfl, t⟩
 | appendz zero sz by_ a x =>
  obtain ⟨u, h', e1, t⟩ := appendZD_ok s (evD_ok k a) (evD_ok k x) e;exact ⟨u, h', e1, rfl, t⟩
 | copy sz a x =>
  obtain ⟨u, h', e1, t⟩ := copyD_ok s (evD_ok k a) (evD_ok k x) e rfl rfl;exact ⟨u, h', e1, rfl, t⟩
 | clear zero x =>
  have kx := evD_ok k x;simp only [eD] at e;unfold clearD at e;split at e
  case h_3 => cases e
  ·rename_i hx;rw [hx] at kx; simp only [VD] at kx;cases e;exact ⟨.tup [], h, by simp only [eW, eV, kx.1], rfl, To.same s (by simp [VD, VDl])⟩
  ·rename_i b o sz n cp ex hx;rw [hx] at kx; simp only [VD] at kx;obtain ⟨c, hc, hv⟩ := kx;split at e
   ·cases e;exact ⟨.tup [], h, by simp only [eW, eV, hv], rfl, To.same s (by simp [VD, VDl])⟩
   ·rename_i m;rw [cond_eq_ite] at e;split at e
    case isFalse => cases e
    rename_i hs;unfold tupO at e;split at e
    case h_2 => cases e
    rename_i H1 hw;cases e;obtain ⟨h', e1, x1, s1⟩ := writeD_ok s hc (repD_ok (dVs_ok zero) (m + 1)) hw;exact ⟨.tup [], h', by simp only [eW, eV, hv, hs, cond_true, e1], rfl, _, _, x1, s1, by simp [VD, VDl]⟩
 | text x =>
  have kx := evD_ok k x;simp only [eD] at e
  have fin : ∀ {o : Option (List D)} {b : Nat} {off n : Nat}, strD H o = some (d, H') → (∀ l, o = some l → ∃ l', h.read b off n = some l' ∧ VDl h ψ S l l') → ∃ l' t, h.read b off n = some l' ∧ eV.bytesOf l' = some t ∧ H' = H ∧ d = .lit (.str t) := by
   intro o b off n e hr;unfold strD at e;split at e
   case h_2 => cases e
   rename_i l;split at e
   case h_2 => cases e
   rename_i vs hvs;split at e
   case h_2 => cases e
   rename_i t ht;cases e;obtain ⟨l', e1, k1⟩ := hr l rfl;have := toVs_ok l hvs k1;subst this;exact ⟨_, t, e1, ht, rfl, rfl⟩
  unfold textD at e;split at e
  case h_4 => cases e
  ·rename_i hx;rw [hx] at kx; simp only [VD] at kx;cases e;exact ⟨_, _, by simp only [eW, eV, kx.1], rfl, To.lit s rfl⟩
  ·rename_i b o sz len cp ex hx;rw [hx] at kx; simp only [VD] at kx;obtain ⟨c, hc, hv⟩ := kx;rw [cond_eq_ite] at e;split at e
   case isFalse => cases e
   rename_i hs;obtain ⟨l', t, e1, e2, rfl, rfl⟩ := fin (b := c) (off := o) (n := len) e fun l hl => readD_ok s hc hl;exact ⟨_, _, by simp only [eW, eV, hv, hs, cond_true, e1, e2], rfl, To.lit s rfl⟩
  ·rename_i sz m l hx;rw [hx] at kx; simp only [VD] at kx;rw [cond_eq_ite] at e;split at e
   case isFalse => cases e
   rename_i hs;rw [nbeq] at hs;subst hs
   have hw : ¬ (m = .w ∧ l = []) := by
    rintro ⟨rfl, rfl⟩;cases e
   have e : strD H (some l.flatten) = some (d, H') := by
    split at e
    ·cases e
    ·exact e
   rcases kx with ⟨hv, rfl⟩ | ⟨b, o, c, ex, hv, h1, h2, kx⟩
   ·simp only [List.flatten_nil, strD, toVs, eV.bytesOf] at e;cases e;exact ⟨_, _, by simp only [eW, eV, hv], rfl, To.lit s rfl⟩
   ·rcases kx with kx | ⟨cs, ro, hS, hb, hp⟩
    ·exact absurd kx hw
    ·obtain ⟨l', t, e1, e2, rfl, rfl⟩ := fin (b := b) (off := o) (n := l.length) e fun l2 hl => by
      cases hl;obtain ⟨us, e1, k1⟩ := VDss.cells hp;rw [Nat.mul_one] at e1;exact ⟨us, by unfold Hp.read; rw [hb]; exact e1, k1⟩
     refine ⟨_, _, ?_, rfl, To.lit s rfl⟩;simp only [eW, eV, hv, e1, e2];rfl
 | lookup sk zero ok m kk =>
  have km := evD_ok k m;have kk' := evD_ok k kk;simp only [eD] at e;unfold lookupD at e;split at e
  case h_3 => cases e
  ·rename_i hx;rw [hx] at km; simp only [VD] at km;cases e;exact ⟨_, _, by simp only [eW, eV, km.1], rfl, To.same s foundD_none⟩
  ·rename_i b hx;rw [hx] at km; simp only [VD] at km;obtain ⟨c, hc, hv⟩ := km;unfold withH at e;split at e
   case h_2 => cases e
   rename_i d' hd;cases e;unfold lookupB at hd;split at hd
   case h_2 => cases hd
   rename_i kq l w hl hw;rw [hw] at kk'; simp only [VD] at kk';rw [cond_eq_ite] at hd;split at hd
   case isFalse => cases hd
   rename_i hki;cases hd;obtain ⟨hS, l', e1, k1⟩ := s.map hc hl;rcases VDm.find (k := w) k1 with ⟨f1, f2⟩ | ⟨d2, v2, f1, f2, f3⟩
   ·rw [f1];exact ⟨_, _, by simp only [eW, eV, hv, e1, kk'.1, hki, cond_true, f2], rfl, To.same s foundD_none⟩
   ·rw [f1];exact ⟨_, _, by simp only [eW, eV, hv, e1, kk'.1, hki, cond_true, f2], rfl, To.same s (foundD_some f3)⟩
 | mapput sk m kk x =>
  have km := evD_ok k m;have kk' := evD_ok k kk;simp only [eD] at e;unfold mapputD at e;split at e
  case h_2 => cases e
  rename_i b hx;rw [hx] at km; simp only [VD] at km;obtain ⟨c, hc, hv⟩ := km;unfold tupO putO' at e;split at e
  case h_2 => cases e
  rename_i H1 hh;cases e;split at hh
  case h_2 => cases hh
  rename_i y hy;cases hh;unfold mapputB at hy;split at hy
  case h_2 => cases hy
  rename_i kq l w hl hw;rw [hw] at kk'; simp only [VD] at kk';rw [cond_eq_ite] at hy;split at hy
  case isFalse => cases hy
  rename_i hki;cases hy;obtain ⟨hS, l', e1, k1⟩ := s.map hc hl;exact ⟨.tup [], _, by simp only [eW, eV, hv, e1, kk'.1, hki, cond_true], rfl, _, _, Ex.put hS, s.put hc hS ⟨_, rfl, VDm.set (evD_ok k x) k1⟩, by simp [VD, VDl]⟩
 | delete sk m kk =>
  have km := evD_ok k m;have kk' := evD_ok k kk;simp only [eD] at e;unfold mapdelD at e;split at e
  case h_3 => cases e
  ·rename_i hx;rw [hx] at km; simp only [VD] at km;cases e;exact ⟨.tup [], h, by simp only [eW, eV, km.1], rfl, To.same s (by simp [VD, VDl])⟩
  rename_i b hx;rw [hx] at km; simp only [VD] at km;obtain ⟨c, hc, hv⟩ := km;unfold tupO putO' at e;split at e
  case h_2 => cases e
  rename_i H1 hh;cases e;split at hh
  case h_2 => cases hh
  rename_i y hy;cases hh;unfold mapdelB at hy;split at hy
  case h_2 => cases hy
  rename_i kq l w hl hw;rw [hw] at kk'; simp only [VD] at kk';rw [cond_eq_ite] at hy;split at hy
  case isFalse => cases hy
  rename_i hki;cases hy;obtain ⟨hS, l', e1, k1⟩ := s.map hc hl;exact ⟨.tup [], _, by simp only [eW, eV, hv, e1, kk'.1, hki, cond_true], rfl, _, _, Ex.put hS, s.put hc hS ⟨_, rfl, VDm.del k1⟩, by simp [VD, VDl]⟩
 | lenm m =>
  have km := evD_ok k m;simp only [eD] at e;unfold lenmD at e;split at e
  case h_3 => cases e
  ·rename_i hx;rw [hx] at km; simp only [VD] at km;cases e;exact ⟨_, _, by simp only [eW, eV, km.1]; rfl, rfl, To.lit s rfl⟩
  ·rename_i b hx;rw [hx] at km; simp only [VD] at km;obtain ⟨c, hc, hv⟩ := km;unfold withH lenmB at e;split at e
   case h_2 => cases e
   rename_i d' hd;cases e;split at hd
   case h_2 => cases hd
   rename_i kq l hl;cases hd;obtain ⟨hS, l', e1, k1⟩ := s.map hc hl;exact ⟨.int .i64 (l.length : Int), h, by simp only [eW, eV, hv, e1, k1.len]; rfl, rfl, To.lit s rfl⟩
 | mark x =>
  have kx := evD_ok k x;simp only [eD] at e;unfold markD at e;split at e
  case h_2 => cases e
  rename_i b o sz len cp ex hx;rw [hx] at kx;have kx2 := kx;simp only [VD] at kx2;obtain ⟨c, hc, hv⟩ := kx2;split at e
  case h_2 => cases e
  rename_i l hl;rw [cond_eq_ite] at e;split at e
  case isFalse => cases e
  rename_i h0;cases e;obtain ⟨hS, l', e1, k1⟩ := s.cells hc hl;rw [hv] at kx;exact ⟨_, _, by simp only [eW, eV, hv, e1, h0, cond_true], rfl, To.same s kx⟩
end
end Go.Dv
end

section
namespace Go.Dv
open Go.Vm
inductive KC where
 | skip
 | region (l : List MO) (fz lv : List Nat)
 | dregion (l : List DO) (lv : List Nat)
 | seq (a b : KC)
 | cond (c : Opd) (a b : KC)
 | block (id : Nat) (c : KC)
 | loop (c : KC)
 | exit (id : Nat)
 | ret
def KC.erase : KC → MCode
 | .skip => .skip
 | .region l _ _ => .region l
 | .dregion l _ => .dregion l
 | .seq a b => .seq a.erase b.erase
 | .cond c a b => .cond c a.erase b.erase
 | .block id c => .block id c.erase
 | .loop c => .loop c.erase
 | .exit id => .exit id
 | .ret => .ret
def inWin (c : Nat) (w : Nat × Nat) : Bool := Nat.ble w.1 c && Nat.ble c w.2
def noWin (c : Nat) : List (Nat × Nat) → Bool
 | [] => true
 | w :: l => !inWin c w && noWin c l
def dirtyN (dst : Option Nat) : List (Nat × List Nat) → List (Nat × List Nat)
 | [] => []
 | (c, dl) :: cs => (c, match dst with | none => dl | some t => t :: dl) :: dirtyN dst cs
def dirtyL (t : Nat) (o : POp) (dl : List Nat) : List Nat := bif o.tmps.all (fun u => !dl.elem u) then dl.filter (fun u => !Nat.beq u t) else t :: dl
def dirtyP (dst : Option Nat) (o : POp) : List (Nat × List Nat) → List (Nat × List Nat)
 | [] => []
 | (c, dl) :: cs => (c, match dst with | none => dl | some t => dirtyL t o dl) :: dirtyP dst o cs
def cleanAll (w : Nat × Nat) (l : List Nat) : List (Nat × List Nat) → Bool
 | [] => true
 | (c, dl) :: cs => (!inWin c w || l.all fun u => !dl.elem u) && cleanAll w l cs
def drOk : List DO → Nat → List (Nat × List Nat) → List (Nat × Nat) → Bool
 | [], _, _, _ => true
 | d :: l, i, cs, ws => match d.o.op with
  | .load1 _ => drOk l (i + 1) (dirtyN d.o.dst cs) ((d.lo, d.hi) :: ws)
  | .loadn _ _ => drOk l (i + 1) (dirtyN d.o.dst cs) ((d.lo, d.hi) :: ws)
  | .e _ => noWin (i + 1) ws && drOk l (i + 1) ((i + 1, []) :: dirtyN d.o.dst cs) ws
  | .a _ => drOk l (i + 1) (dirtyN d.o.dst cs) ws
  | .p o => drOk l (i + 1) (dirtyP d.o.dst o cs) ws
theorem drOk_cs : ∀ {l : List DO} {i : Nat} {cs cs' : List (Nat × List Nat)} {ws : List (Nat × Nat)}, drOk l i cs ws = drOk l i cs' ws
 | [], _, _, _, _ => rfl
 | d :: l, i, cs, cs', ws => by
  unfold drOk
  cases d.o.op with
  | p o => exact drOk_cs
  | a o => exact drOk_cs
  | load1 x => exact drOk_cs
  | loadn n x => exact drOk_cs
  | e o => exact congrArg (noWin (i + 1) ws && ·) drOk_cs
def KC.ok : KC → Bool
 | .dregion l _ => drOk l 0 [(0, [])] []
 | .seq a b => a.ok && b.ok
 | .cond _ a b => a.ok && b.ok
 | .block _ c => c.ok
 | .loop c => c.ok
 | _ => true
inductive KD where
 | seq (b : KC)
 | block (id : Nat)
def KD.erase : KD → KF
 | .seq b => .seq b.erase
 | .block id => .block id
def KD.ok : KD → Bool
 | .seq b => b.ok
 | .block _ => true
def eraseK : List KD → List KF
 | [] => []
 | k :: K => k.erase :: eraseK K
def okK : List KD → Bool
 | [] => true
 | k :: K => k.ok && okK K
inductive ResD where
 | ok (fr : FrD) (H : HpD)
 | exit (id : Nat) (fr : FrD) (H : HpD)
 | ret (fr : FrD) (H : HpD)
inductive Tok {α : Type} (a : α) : Type where
 | mk
inductive Cfg where
 | code (c : KC) (K : List KD) (tk : Tok (c, K)) (fr : FrD) (H : HpD)
 | ops (l : List MO) (fz lv : List Nat) (K : List KD) (tk : Tok (l, fz, lv, K)) (fr : FrD) (H : HpD)
 | dops (l : List DO) (lv : List Nat) (K : List KD) (cs : List (Nat × List Nat)) (ws : List (Nat × Nat)) (tk : Tok (l, lv, K, cs, ws)) (i : Nat) (nx : Nat) (pst : List (Nat × HpD)) (fr : FrD) (H : HpD)
 | res (r : ResD) (K : List KD) (tk : Tok K)
 | call (f : Nat) (args : List D) (dst : Option Nat) (l : List MO) (fz lv : List Nat) (K : List KD) (tk : Tok (dst, l, fz, lv, K)) (fr : FrD) (H : HpD)
 | dcall (f : Nat) (args : List D) (dst : Option Nat) (l : List DO) (lv : List Nat) (K : List KD) (cs : List (Nat × List Nat)) (ws : List (Nat × Nat)) (tk : Tok (dst, l, lv, K, cs, ws)) (i : Nat) (pst : List (Nat × HpD)) (fr : FrD) (H : HpD)
 | need (P : Prop) (c : Cfg)
 | both (P : Prop) (a b : Cfg)
 | stuck
def optC (o : Option D) (k : D → Cfg) (_tk : Tok k := .mk) : Cfg := match o with
 | some d => k d
 | none => .stuck
def optH (o : Option (D × HpD)) (k : D → HpD → Cfg) (_tk : Tok k := .mk) : Cfg := match o with
 | some (d, H) => k d H
 | none => .stuck
def brC (t : Bool) (a b : Cfg) (_tk : Tok (a, b) := .mk) : Cfg := match t with
 | true => a
 | false => b
def boolC (d : D) (a b : Cfg) (_tk : Tok (a, b) := .mk) : Cfg := match d with
 | .lit (.bool t) => brC t a b
 | _ => .stuck
def gateC (d : D) (want : Bool) (a b : Cfg) (_tk : Tok (a, b) := .mk) : Cfg := match d with
 | .lit (.bool t) => brC (beqB t want) a b
 | .tup _ => b
 | _ => .stuck
def nilC (x y : D) (k : Bool → Cfg) (_tk : Tok k := .mk) : Cfg := match x, y with
 | .row _ _ l, .lit .nilslice => .both (l = []) (k true) (k false)
 | x, y => match isEq .slice x y with
  | some r => k r
  | none => .stuck
def funC (d : D) (k : Nat → List D → List D → Cfg) (_tk : Tok k := .mk) : Cfg := match d with
 | .func f a c => k f a c
 | _ => .stuck
mutual
def rigid : D → Bool
 | .lit _ | .ptr _ _ | .slice _ _ _ _ _ _ | .map _ => true
 | .agg l => rigids l
 | .tup l => rigids l
 | .func _ a c => rigids a && rigids c
 | .iface _ d => rigid d
 | _ => false
def rigids : List D → Bool
 | [] => true
 | d :: l => rigid d && rigids l
end
def stillP (lo hi : Nat) (ld : HpD → Option D) (x : D) : List (Nat × HpD) → Prop
 | [] => True
 | (c, H) :: l => (inWin c (lo, hi) = true → rigid x = true ∧ ld H = some x) ∧ stillP lo hi ld x l
def oldC (nx lo hi : Nat) (pst : List (Nat × HpD)) (ld : HpD → Option D) (x d : D) (a : Cfg) (_tk : Tok a := .mk) : Cfg := match d with
 | .ptr b _ => .need (b < nx ∧ stillP lo hi ld x pst.tail) a
 | _ => a
def isR : D → Bool
 | .rptr _ _ => true
 | _ => false
def dirtyR (d : Option Nat) (x : Opd) (r : Bool) (cs : List (Nat × List Nat)) : List (Nat × List Nat) := bif r then dirtyP d (.mov x) cs else dirtyN d cs
def cleanC (pst : List (Nat × HpD)) (w : Nat × Nat) (l : List Nat) (cs : List (Nat × List Nat)) (a : Cfg) (_tk : Tok a := .mk) : Cfg := match pst with
 | [] => a
 | _ :: _ => .need (cleanAll w l cs = true) a
def inL (t : Option Nat) (l : List Nat) : Bool := match t with
 | none => false
 | some t => l.elem t
def dirtyO (d : Option Nat) (o : MOp) (i : Nat) (cs : List (Nat × List Nat)) : List (Nat × List Nat) := match o with
 | .e _ => (i + 1, []) :: dirtyN d cs
 | .p o => dirtyP d o cs
 | _ => dirtyN d cs
def addWin (o : MOp) (lo hi : Nat) (ws : List (Nat × Nat)) : List (Nat × Nat) := match o with
 | .load1 _ => (lo, hi) :: ws
 | .loadn _ _ => (lo, hi) :: ws
 | _ => ws
def exitC (t : Bool) (a b : Cfg) (_tk : Tok (a, b) := .mk) : Cfg := match t with
 | true => a
 | false => b
def runI (env : Env) : Nat → Cfg → Cfg
 | 0, c => c
 | n + 1, .code .skip K .mk fr H => runI env n (.res (.ok fr H) K .mk)
 | n + 1, .code (.region l fz lv) K .mk fr H => runI env n (.ops l fz lv K .mk fr H)
 | n + 1, .code (.dregion l lv) K .mk fr H => runI env n (.dops l lv K [(0, [])] [] .mk 0 H.next [(0, H)] fr H)
 | n + 1, .code (.seq a b) K .mk fr H => runI env n (.code a (.seq b :: K) .mk fr H)
 | n + 1, .code (.cond c a b) K .mk fr H => boolC (evD fr c) (runI env n (.code a K .mk fr H)) (runI env n (.code b K .mk fr H))
 | n + 1, .code (.block id c) K .mk fr H => runI env n (.code c (.block id :: K) .mk fr H)
 | _ + 1, .code (.loop c) K .mk fr H => .code (.loop c) K .mk fr H
 | n + 1, .code (.exit id) K .mk fr H => runI env n (.res (.exit id fr H) K .mk)
 | n + 1, .res (.exit id fr H) (.seq _ :: K) .mk => runI env n (.res (.exit id fr H) K .mk)
 | n + 1, .res (.exit id fr H) (.block id' :: K) .mk => exitC (Nat.beq id id') (runI env n (.res (.ok fr H) K .mk)) (runI env n (.res (.exit id fr H) K .mk))
 | _ + 1, .code .ret _ .mk fr H => .res (.ret fr H) [] .mk
 | n + 1, .res (.ok fr H) (.seq b :: K) .mk => runI env n (.code b K .mk fr H)
 | n + 1, .res (.ok fr H) (.block _ :: K) .mk => runI env n (.res (.ok fr H) K .mk)
 | _ + 1, .res r K .mk => .res r K .mk
 | n + 1, .ops [] _ lv K .mk fr H => runI env n (.res (.ok (keep lv fr) H) K .mk)
 | n + 1, .ops (⟨d, o, some (t, w)⟩ :: l) fz lv K .mk fr H => gateC (lk fr t) w (runI env n (.ops (⟨d, o, none⟩ :: l) fz lv K .mk fr H)) (runI env n (.ops l fz lv K .mk (putD fr d (.tup [])) H))
 | n + 1, .ops (⟨d, .p (.eq .slice neg x y), none⟩ :: l) fz lv K .mk fr H => nilC (evD fr x) (evD fr y) fun r => runI env n (.ops l fz lv K .mk (putD fr d (.lit (.bool (cond neg (!r) r)))) H)
 | n + 1, .ops (⟨d, .p o, none⟩ :: l) fz lv K .mk fr H => optC (pD env fr o) fun x => runI env n (.ops l fz lv K .mk (putD fr d x) H)
 | n + 1, .ops (⟨d, .a o, none⟩ :: l) fz lv K .mk fr H => optH (aD fr H (inL d fz) o) fun x H' => runI env n (.ops l fz lv K .mk (putD fr d x) H')
 | n + 1, .ops (⟨d, .load1 x, none⟩ :: l) fz lv K .mk fr H => optC (loadD H (evD fr x)) fun x => runI env n (.ops l fz lv K .mk (putD fr d x) H)
 | n + 1, .ops (⟨d, .loadn m x, none⟩ :: l) fz lv K .mk fr H => optC (loadnD H m (evD fr x)) fun x => runI env n (.ops l fz lv K .mk (putD fr d x) H)
 | _ + 1, .ops (⟨d, .e (.call f a), none⟩ :: l) fz lv K .mk fr H => .call f (evsD fr a) d l fz lv K .mk fr H
 | _ + 1, .ops (⟨d, .e (.extern f a), none⟩ :: l) fz lv K .mk fr H => .call f (evsD fr a) d l fz lv K .mk fr H
 | _ + 1, .ops (⟨d, .e (.callv x a), none⟩ :: l) fz lv K .mk fr H => funC (evD fr x) fun f fi ca => .call f (fi ++ evsD fr a ++ ca) d l fz lv K .mk fr H
 | n + 1, .ops (⟨d, .e o, none⟩ :: l) fz lv K .mk fr H => optH (eD fr H o) fun x H' => runI env n (.ops l fz lv K .mk (putD fr d x) H')
 | n + 1, .dops [] lv K _ _ .mk _ _ _ fr H => runI env n (.res (.ok (keep lv fr) H) K .mk)
 | n + 1, .dops (⟨⟨d, o, some (t, w)⟩, lo, hi⟩ :: l) lv K cs ws .mk i nx pst fr H => gateC (lk fr t) w (runI env n (.dops (⟨⟨d, o, none⟩, lo, hi⟩ :: l) lv K cs ws .mk i nx pst fr H))
   (runI env n (.dops l lv K (dirtyO d o i cs) (addWin o lo hi ws) .mk (i + 1) (bif isE o then H.next else nx) (bif isE o then (i + 1, H) :: pst else pst) (putD fr d (.tup [])) H))
 | n + 1, .dops (⟨⟨d, .p (.eq .slice neg x y), none⟩, _, _⟩ :: l) lv K cs ws .mk i nx pst fr H => nilC (evD fr x) (evD fr y) fun r => runI env n (.dops l lv K (dirtyP d (.eq .slice neg x y) cs) ws .mk (i + 1) nx pst (putD fr d (.lit (.bool (cond neg (!r) r)))) H)
 | n + 1, .dops (⟨⟨d, .p o, none⟩, _, _⟩ :: l) lv K cs ws .mk i nx pst fr H => optC (pD env fr o) fun x => runI env n (.dops l lv K (dirtyP d o cs) ws .mk (i + 1) nx pst (putD fr d x) H)
 | n + 1, .dops (⟨⟨d, .a o, none⟩, _, _⟩ :: l) lv K cs ws .mk i nx pst fr H => optH (aD fr H false o) fun x H' => runI env n (.dops l lv K (dirtyN d cs) ws .mk (i + 1) nx pst (putD fr d x) H')
 | n + 1, .dops (⟨⟨d, .load1 x, none⟩, lo, hi⟩ :: l) lv K cs ws .mk i nx pst fr H => optC (loadD H (evD fr x)) fun y => cleanC pst.tail (lo, hi) (tmpO x) cs.tail (oldC nx lo hi pst (fun H => loadD H (evD fr x)) y (evD fr x) (runI env n (.dops l lv K (dirtyR d x (isR (evD fr x)) cs) ((lo, hi) :: ws) .mk (i + 1) nx pst (putD fr d y) H)))
 | n + 1, .dops (⟨⟨d, .loadn m x, none⟩, lo, hi⟩ :: l) lv K cs ws .mk i nx pst fr H => optC (loadnD H m (evD fr x)) fun y => cleanC pst.tail (lo, hi) (tmpO x) cs.tail (oldC nx lo hi pst (fun H => loadnD H m (evD fr x)) y (evD fr x) (runI env n (.dops l lv K (dirtyR d x (isR (evD fr x)) cs) ((lo, hi) :: ws) .mk (i + 1) nx pst (putD fr d y) H)))
 | _ + 1, .dops (⟨⟨d, .e (.call f a), none⟩, _, _⟩ :: l) lv K cs ws .mk i _ pst fr H => .dcall f (evsD fr a) d l lv K cs ws .mk i pst fr H
 | _ + 1, .dops (⟨⟨d, .e (.extern f a), none⟩, _, _⟩ :: l) lv K cs ws .mk i _ pst fr H => .dcall f (evsD fr a) d l lv K cs ws .mk i pst fr H
 | _ + 1, .dops (⟨⟨d, .e (.callv x a), none⟩, _, _⟩ :: l) lv K cs ws .mk i _ pst fr H => funC (evD fr x) fun f fi ca => .dcall f (fi ++ evsD fr a ++ ca) d l lv K cs ws .mk i pst fr H
 | n + 1, .dops (⟨⟨d, .e o, none⟩, _, _⟩ :: l) lv K cs ws .mk i _ pst fr H => optH (eD fr H o) fun x H' => runI env n (.dops l lv K ((i + 1, []) :: dirtyN d cs) ws .mk (i + 1) H'.next ((i + 1, H') :: pst) (putD fr d x) H')
 | _ + 1, .call f a d l fz lv K .mk fr H => .call f a d l fz lv K .mk fr H
 | _ + 1, .dcall f a d l lv K cs ws .mk i pst fr H => .dcall f a d l lv K cs ws .mk i pst fr H
 | n + 1, .need P c => .need P (runI env n c)
 | n + 1, .both P a b => .both P (runI env n a) (runI env n b)
 | _ + 1, .stuck => .stuck
theorem run_ex : ∃ r : Env → Nat → Cfg → Cfg, r = runI := ⟨_, rfl⟩
noncomputable def run : Env → Nat → Cfg → Cfg := Classical.choose run_ex
theorem run_eq : run = runI := Classical.choose_spec run_ex
section
variable {p : Prog} {ext : Ext} {G : Nat → Option (Blk → Prop)}
def RR (G : Nat → Option (Blk → Prop)) (ψ : Nat → Option Nat) (S : Fz) (h : Hp) : Res → ResD → Prop
 | .ok fv h', .ok fr H => ∃ ψ' S', Ex h ψ S h' ψ' S' ∧ SR G ψ' S' H h' ∧ FrR h' ψ' S' fr fv
 | .exit id fv h', .exit id' fr H => id = id' ∧ ∃ ψ' S', Ex h ψ S h' ψ' S' ∧ SR G ψ' S' H h' ∧ FrR h' ψ' S' fr fv
 | .ret fv h', .ret fr H => ∃ ψ' S', Ex h ψ S h' ψ' S' ∧ SR G ψ' S' H h' ∧ FrR h' ψ' S' fr fv
 | _, _ => False
def Post (G : Nat → Option (Blk → Prop)) (ψ : Nat → Option Nat) (S : Fz) (h : Hp) (Q : ResD → Prop) (r : Res) : Prop := ∃ r', RR G ψ S h r r' ∧ Q r'
theorem RR.up {ψ ψ1 : Nat → Option Nat} {S S1 : Fz} {h h1 : Hp} (x : Ex h ψ S h1 ψ1 S1) : ∀ {r : Res} {r' : ResD}, RR G ψ1 S1 h1 r r' → RR G ψ S h r r'
 | .ok _ _, .ok _ _, k => by obtain ⟨ψ', S', x1, k⟩ := k; exact ⟨ψ', S', x.trans x1, k⟩
 | .exit _ _ _, .exit _ _ _, k => by obtain ⟨e, ψ', S', x1, k⟩ := k; exact ⟨e, ψ', S', x.trans x1, k⟩
 | .ret _ _, .ret _ _, k => by obtain ⟨ψ', S', x1, k⟩ := k; exact ⟨ψ', S', x.trans x1, k⟩
 | .ok _ _, .exit _ _ _, k => k.elim
 | .ok _ _, .ret _ _, k => k.elim
 | .exit _ _ _, .ok _ _, k => k.elim
 | .exit _ _ _, .ret _ _, k => k.elim
 | .ret _ _, .ok _ _, k => k.elim
 | .ret _ _, .exit _ _ _, k => k.elim
 | .fail, .ok _ _, k => k.elim
 | .fail, .exit _ _ _, k => k.elim
 | .fail, .ret _ _, k => k.elim
theorem Post.up {ψ ψ1 : Nat → Option Nat} {S S1 : Fz} {h h1 : Hp} (x : Ex h ψ S h1 ψ1 S1) {Q : ResD → Prop} {r : Res} (k : Post G ψ1 S1 h1 Q r) : Post G ψ S h Q r := by
 obtain ⟨r', k1, k2⟩ := k;exact ⟨r', k1.up x, k2⟩
def Past (G : Nat → Option (Blk → Prop)) (ψ : Nat → Option Nat) (S : Fz) (h : Hp) (fr : FrD) (fv : Fr) : List (Nat × List Nat) → List (Nat × Hp) → List (Nat × HpD) → Prop
 | [], [], [] => True
 | (c, dl) :: cs, (c', hc) :: st, (c'', Hc) :: pst => c' = c ∧ c'' = c ∧ (∃ ψc Sc, SR G ψc Sc Hc hc ∧ Ex hc ψc Sc h ψ S ∧ ∀ t, dl.elem t = false → VD hc ψc Sc (lk fr t) (ev fv (.tmp t))) ∧ Past G ψ S h fr fv cs st pst
 | _, _, _ => False
structure DI (G : Nat → Option (Blk → Prop)) (ψ : Nat → Option Nat) (S : Fz) (h : Hp) (fr : FrD) (fv : Fr) (cs : List (Nat × List Nat)) (ws : List (Nat × Nat)) (nx : Nat) (pst : List (Nat × HpD)) (st : List (Nat × Hp)) (rds : List Rd) : Prop where
 past : Past G ψ S h fr fv cs st pst
 rds : ∀ r, r ∈ rds → (r.lo, r.hi) ∈ ws ∧ stillAll r st = true
 last : ∀ c hc st', st = (c, hc) :: st' → (∀ x, x < hc.next → h.blk x = hc.blk x) ∧ (∀ b x, ψ b = some x → b < nx → x < hc.next) ∧ (∀ x, S x → x < hc.next) ∧ hc.next ≤ h.next
 ne : st ≠ []
def Sem (p : Prog) (ext : Ext) (Q : ResD → Prop) : Cfg → Prop
 | .code c K .mk fr H => c.ok = true → okK K = true → ∀ ψ S h fv (P : Res → Prop), SR p.gl ψ S H h → FrR h ψ S fr fv → (∀ r, Post p.gl ψ S h Q r → P r) → WS p ext c.erase (eraseK K) fv h P
 | .ops l _ _ K .mk fr H => okK K = true → ∀ ψ S h fv (P : Res → Prop), SR p.gl ψ S H h → (FrR h ψ S fr fv) → (∀ r, Post p.gl ψ S h Q r → P r) → OS p ext l (eraseK K) fv h P
 | .dops l _ K cs ws .mk i nx pst fr H => okK K = true → drOk l i cs ws = true → nx ≤ H.next → ∀ ψ S h fv st rds (P : Res → Prop), SR p.gl ψ S H h → (FrR h ψ S fr fv) → DI p.gl ψ S h fr fv cs ws nx pst st rds → (∀ r, Post p.gl ψ S h Q r → P r) → DS p ext l (eraseK K) i fv h st rds P
 | .res (.ok fr H) K .mk => okK K = true → ∀ ψ S h fv (P : Res → Prop), SR p.gl ψ S H h → FrR h ψ S fr fv → (∀ r, Post p.gl ψ S h Q r → P r) → RK p ext (eraseK K) (.ok fv h) P
 | .res (.exit id fr H) K .mk => okK K = true → ∀ ψ S h fv (P : Res → Prop), SR p.gl ψ S H h → FrR h ψ S fr fv → (∀ r, Post p.gl ψ S h Q r → P r) → RK p ext (eraseK K) (.exit id fv h) P
 | .res (.ret fr H) K .mk => okK K = true → ∀ ψ S h fv (P : Res → Prop), SR p.gl ψ S H h → FrR h ψ S fr fv → (∀ r, Post p.gl ψ S h Q r → P r) → RK p ext (eraseK K) (.ret fv h) P
 | .call f args dst l _ _ K .mk fr H => okK K = true → ∀ ψ S h fv vs (P : Res → Prop), SR p.gl ψ S H h → FrR h ψ S fr fv → VDl h ψ S args vs → (∀ r, Post p.gl ψ S h Q r → P r) → callS p ext f vs h dst l (eraseK K) fv P
 | .dcall f args dst l _ K cs ws .mk i pst fr H => okK K = true → noWin (i + 1) ws = true → drOk l (i + 1) ((i + 1, []) :: dirtyN dst cs) ws = true → ∀ ψ S h fv vs st rds nx (P : Res → Prop), SR p.gl ψ S H h → FrR h ψ S fr fv → DI p.gl ψ S h fr fv cs ws nx pst st rds → VDl h ψ S args vs →
   (∀ r, Post p.gl ψ S h Q r → P r) → WPc p ext f vs h fun v h1 => DS p ext l (eraseK K) (i + 1) (putO fv dst v) h1 ((i + 1, h1) :: st) rds P
 | .need P c => P ∧ Sem p ext Q c
 | .both P a b => (P → Sem p ext Q a) ∧ Sem p ext Q b
 | .stuck => False
variable {Q : ResD → Prop}
theorem sem_optC {o : Option D} {k : D → Cfg} (hs : Sem p ext Q (optC o k)) : ∃ d, o = some d ∧ Sem p ext Q (k d) := by
 cases o with
 | none => exact hs.elim
 | some d => exact ⟨d, rfl, hs⟩
theorem sem_optH {o : Option (D × HpD)} {k : D → HpD → Cfg} (hs : Sem p ext Q (optH o k)) : ∃ d H, o = some (d, H) ∧ Sem p ext Q (k d H) := by
 cases o with
 | none => exact hs.elim
 | some d => exact ⟨d.1, d.2, rfl, hs⟩
theorem sem_gateC {d : D} {w : Bool} {a b : Cfg} (hs : Sem p ext Q (gateC d w a b)) : (∃ t, d = .lit (.bool t) ∧ (t = w → Sem p ext Q a) ∧ (t = !w → Sem p ext Q b)) ∨ ((∃ l, d = .tup l) ∧ Sem p ext Q b) := by
 unfold gateC at hs;split at hs
 ·rename_i t;refine .inl ⟨t, rfl, fun e => ?_, fun e => ?_⟩
  ·subst e; cases t <;> exact hs
  ·subst e; cases w <;> exact hs
 ·exact .inr ⟨⟨_, rfl⟩, hs⟩
 ·exact hs.elim
theorem sem_nilC {ψ : Nat → Option Nat} {S : Fz} {h : Hp} {x y : D} {v w : V} {k : Bool → Cfg} (kx : VD h ψ S x v) (ky : VD h ψ S y w) (hs : Sem p ext Q (nilC x y k)) : ∃ r, eqV .slice v w = some r ∧ Sem p ext Q (k r) := by
 unfold nilC at hs;split at hs
 ·rename_i sz m l;simp only [VD] at kx ky;rw [ky.1];rcases kx with ⟨rfl, rfl⟩ | ⟨b, o, c, ex, rfl, _⟩
  ·exact ⟨true, rfl, hs.1 rfl⟩
  ·exact ⟨false, rfl, hs.2⟩
 ·split at hs
  ·rename_i r hr;exact ⟨r, isEq_ok hr kx ky, hs⟩
  ·exact hs.elim
theorem sem_funC {d : D} {k : Nat → List D → List D → Cfg} (hs : Sem p ext Q (funC d k)) : ∃ f a c, d = .func f a c ∧ Sem p ext Q (k f a c) := by
 unfold funC at hs;split at hs
 ·exact ⟨_, _, _, rfl, hs⟩
 ·exact hs.elim
theorem sem_oldC {nx lo hi : Nat} {pst : List (Nat × HpD)} {ld : HpD → Option D} {x d : D} {a : Cfg} (hs : Sem p ext Q (oldC nx lo hi pst ld x d a)) : (∀ b o, d = .ptr b o → b < nx ∧ stillP lo hi ld x pst.tail) ∧ Sem p ext Q a := by
 unfold oldC at hs;split at hs
 ·rename_i b o;exact ⟨fun b' o' e => by cases e; exact hs.1, hs.2⟩
 ·rename_i hne; exact ⟨fun b o e => absurd e (hne b o), hs⟩
theorem sem_cleanC {pst : List (Nat × HpD)} {w : Nat × Nat} {l : List Nat} {cs : List (Nat × List Nat)} {a : Cfg} (hs : Sem p ext Q (cleanC pst w l cs a)) : (pst = [] ∨ cleanAll w l cs = true) ∧ Sem p ext Q a := by
 unfold cleanC at hs;split at hs
 ·exact ⟨.inl rfl, hs⟩
 ·exact ⟨.inr hs.1, hs.2⟩
theorem okK_cons {k : KD} {K : List KD} (h : okK (k :: K) = true) : k.ok = true ∧ okK K = true := by
 simp only [okK, Bool.and_eq_true] at h; exact h
theorem RK_ret {fv : Fr} {h : Hp} {P : Res → Prop} : ∀ {K : List KD}, RK p ext [] (.ret fv h) P → RK p ext (eraseK K) (.ret fv h) P
 | [], hk => hk
 | .seq _b :: K, hk => RK.seq_ret.2 (RK_ret (K := K) hk)
 | .block _id' :: K, hk => RK.block_ret.2 (RK_ret (K := K) hk)
theorem stillAll_add {r : Rd} {c : Nat} {h : Hp} {st : List (Nat × Hp)} (hw : inWin c (r.lo, r.hi) = false) (hs : stillAll r st = true) : stillAll r ((c, h) :: st) = true := by
 rw [stillAll_cons];refine ⟨fun h1 h2 => ?_, hs⟩;simp only [inWin, nble_d, Bool.and_eq_false_iff, decide_eq_false_iff_not] at hw;omega
theorem noWin_mem {c : Nat} {w : Nat × Nat} : ∀ {ws : List (Nat × Nat)}, noWin c ws = true → w ∈ ws → inWin c w = false
 | _ :: ws, h, hm => by
  simp only [noWin, Bool.and_eq_true, Bool.not_eq_true'] at h;rcases List.mem_cons.1 hm with rfl | hm
  ·exact h.1
  ·exact noWin_mem h.2 hm
theorem allStill_of {st : List (Nat × Hp)} : ∀ {rds : List Rd}, (∀ r, r ∈ rds → stillAll r st = true) → allStill st rds = true
 | [], _ => rfl
 | r :: _rds, h => allStill_cons.2 ⟨h r (List.mem_cons_self ..), allStill_of fun r' hr => h r' (List.mem_cons_of_mem _ hr)⟩
variable {ψ ψ' : Nat → Option Nat} {S S' : Fz} {h h' : Hp} {fr : FrD} {fv : Fr} {cs : List (Nat × List Nat)} {ws : List (Nat × Nat)} {nx : Nat} {pst : List (Nat × HpD)} {st : List (Nat × Hp)} {rds : List Rd}
theorem elem_tail {t u : Nat} {dl : List Nat} (h : (u :: dl).elem t = false) : dl.elem t = false := by
 simp only [List.elem_eq_mem, decide_eq_false_iff_not, List.mem_cons, not_or] at h ⊢;exact h.2
theorem lk_put {d : Option Nat} {x : D} {t : Nat} (ht : d ≠ some t) : lk (putD fr d x) t = lk fr t := by
 cases d with
 | none => rfl
 | some u =>
  simp only [putD, lk];rw [show Nat.beq u t = false from by rw [nbeq_d]; exact decide_eq_false fun e => ht (by rw [e])];rfl
theorem ev_putO {d : Option Nat} {v : V} {t : Nat} (ht : d ≠ some t) : ev (putO fv d v) (.tmp t) = ev fv (.tmp t) := by
 cases d with
 | none => rfl
 | some u => simp only [ev_put]; rw [if_neg fun e => ht (by rw [e])]
theorem Past.up (x0 : Ex h ψ S h' ψ' S') {d : Option Nat} {x : D} {v : V} : ∀ {cs : List (Nat × List Nat)} {st : List (Nat × Hp)} {pst : List (Nat × HpD)}, Past p.gl ψ S h fr fv cs st pst → Past p.gl ψ' S' h' (putD fr d x) (putO fv d v) (dirtyN d cs) st pst
 | [], [], [], _ => trivial
 | (c, dl) :: cs, (c', hc) :: st, (c'', Hc) :: pst, k => by
  obtain ⟨e1, e2, ⟨ψc, Sc, s, x1, kt⟩, k⟩ := k;refine ⟨e1, e2, ⟨ψc, Sc, s, x1.trans x0, fun t ht => ?_⟩, Past.up x0 k⟩
  have hd : d ≠ some t := by
   rintro rfl;simp at ht
  rw [lk_put hd, ev_putO hd];refine kt t ?_
  cases d with
  | none => exact ht
  | some u => exact elem_tail ht
 | [], _ :: _, _, k => k.elim
 | [], [], _ :: _, k => k.elim
 | _ :: _, [], _, k => k.elim
 | _ :: _, _ :: _, [], k => k.elim
def dim (dl : List Nat) : FrD → FrD
 | [] => []
 | (t, d) :: fr => (t, bif dl.elem t then .any else d) :: dim dl fr
theorem lk_dim {dl : List Nat} {t : Nat} : ∀ {fr : FrD}, lk (dim dl fr) t = bif dl.elem t then .any else lk fr t
 | [] => by simp [dim, lk]
 | (u, d) :: fr => by
  simp only [dim, lk]
  by_cases e : u = t
  ·subst e; rw [show Nat.beq u u = true from nbeq.2 rfl]; rfl
  ·rw [show Nat.beq u t = false from by rw [nbeq_d]; exact decide_eq_false e];exact lk_dim
theorem evD_congr {fr fr' : FrD} : ∀ {x : Opd}, (∀ t, t ∈ tmpO x → lk fr t = lk fr' t) → evD fr x = evD fr' x
 | .tmp t, k => k t (List.mem_singleton.2 rfl)
 | .val _, _ => rfl
theorem evsD_congr {fr fr' : FrD} : ∀ {l : List Opd}, (∀ t, t ∈ tmpsL l → lk fr t = lk fr' t) → evsD fr l = evsD fr' l
 | [], _ => rfl
 | x :: l, k => by
  simp only [evsD, tmpsL, List.mem_append] at k ⊢;rw [evD_congr fun t ht => k t (.inl ht), evsD_congr fun t ht => k t (.inr ht)]
theorem evoD_congr {fr fr' : FrD} : ∀ {x : Option Opd}, (∀ t, t ∈ tmpOo x → lk fr t = lk fr' t) → evoD fr x = evoD fr' x
 | none, _ => rfl
 | some x, k => by simp only [evoD]; rw [evD_congr k]
theorem evPartsD_congr {fr fr' : FrD} : ∀ {l : List (Nat × Nat × Opd)}, (∀ t, t ∈ tmpsP l → lk fr t = lk fr' t) → evPartsD fr l = evPartsD fr' l
 | [], _ => rfl
 | (o, n, x) :: l, k => by
  simp only [evPartsD, tmpsP, List.mem_append] at k ⊢;rw [evD_congr fun t ht => k t (.inl ht), evPartsD_congr fun t ht => k t (.inr ht)]
theorem pD_congr {env : Env} {fr fr' : FrD} {o : POp} (k : ∀ t, t ∈ o.tmps → lk fr t = lk fr' t) : pD env fr o = pD env fr' o := by
 cases o <;> simp only [POp.tmps, List.mem_append] at k <;> simp only [pD]
 case mov x => rw [evD_congr k]
 case pick c a b => rw [evD_congr (x := c) fun t ht => k t (.inl ht), evD_congr (x := a) fun t ht => k t (.inr (.inl ht)), evD_congr (x := b) fun t ht => k t (.inr (.inr ht))]
 case build z ps => rw [evPartsD_congr k]
 case nilchk x => rw [evD_congr k]
 case bin op x y => rw [evD_congr (x := x) fun t ht => k t (.inl ht), evD_congr (x := y) fun t ht => k t (.inr ht)]
 case eq ty n x y => rw [evD_congr (x := x) fun t ht => k t (.inl ht), evD_congr (x := y) fun t ht => k t (.inr ht)]
 case eqi l n x y => rw [evD_congr (x := x) fun t ht => k t (.inl ht), evD_congr (x := y) fun t ht => k t (.inr ht)]
 case neg x => rw [evD_congr k]
 case not x => rw [evD_congr k]
 case compl x => rw [evD_congr k]
 case conv c x => rw [evD_congr k]
 case mkiface t x => rw [evD_congr k]
 case mkfunc f a b => rw [evsD_congr (l := a) fun t ht => k t (.inl ht), evsD_congr (l := b) fun t ht => k t (.inr ht)]
 case slc n x a b c => rw [evD_congr (x := x) fun t ht => k t (.inl ht), evoD_congr (x := a) fun t ht => k t (.inr (.inl ht)), evoD_congr (x := b) fun t ht => k t (.inr (.inr (.inl ht))), evoD_congr (x := c) fun t ht => k t (.inr (.inr (.inr ht)))]
 case sls x a b => rw [evD_congr (x := x) fun t ht => k t (.inl ht), evoD_congr (x := a) fun t ht => k t (.inr (.inl ht)), evoD_congr (x := b) fun t ht => k t (.inr (.inr ht))]
 case sla n s x a b c => rw [evD_congr (x := x) fun t ht => k t (.inl ht), evoD_congr (x := a) fun t ht => k t (.inr (.inl ht)), evoD_congr (x := b) fun t ht => k t (.inr (.inr (.inl ht))), evoD_congr (x := c) fun t ht => k t (.inr (.inr (.inr ht)))]
 case faddr n x => rw [evD_congr k]
 case field1 n x => rw [evD_congr k]
 case fieldn n m x => rw [evD_congr k]
 case iaddr n x i => rw [evD_congr (x := x) fun t ht => k t (.inl ht), evD_congr (x := i) fun t ht => k t (.inr ht)]
 case iaddra n m x i => rw [evD_congr (x := x) fun t ht => k t (.inl ht), evD_congr (x := i) fun t ht => k t (.inr ht)]
 case idxs x i => rw [evD_congr (x := x) fun t ht => k t (.inl ht), evD_congr (x := i) fun t ht => k t (.inr ht)]
 case idx1 n x i => rw [evD_congr (x := x) fun t ht => k t (.inl ht), evD_congr (x := i) fun t ht => k t (.inr ht)]
 case idxn n m x i => rw [evD_congr (x := x) fun t ht => k t (.inl ht), evD_congr (x := i) fun t ht => k t (.inr ht)]
 case ext x i => rw [evD_congr k]
 case lens x => rw [evD_congr k]
 case lenb x => rw [evD_congr k]
 case caps x => rw [evD_congr k]
 case min l => rw [evsD_congr k]
 case max l => rw [evsD_congr k]
theorem Past.pure {env : Env} {d : Option Nat} {o : POp} {x : D} {v : V} (e : pD env fr o = some x) (ev1 : pV env fv o = some v) :
  ∀ {cs : List (Nat × List Nat)} {st : List (Nat × Hp)} {pst : List (Nat × HpD)}, Past p.gl ψ S h fr fv cs st pst → Past p.gl ψ S h (putD fr d x) (putO fv d v) (dirtyP d o cs) st pst
 | [], [], [], _ => trivial
 | (c, dl) :: cs, (c', hc) :: st, (c'', Hc) :: pst, k => by
  obtain ⟨e1, e2, ⟨ψc, Sc, s, x1, kt⟩, k⟩ := k;refine ⟨e1, e2, ⟨ψc, Sc, s, x1, fun t ht => ?_⟩, Past.pure e ev1 k⟩
  cases d with
  | none => exact kt t ht
  | some u =>
   simp only at ht
   by_cases hut : u = t
   ·subst hut;simp only [putD, lk, ev_put, if_true, show Nat.beq u u = true from nbeq.2 rfl, cond_true];unfold dirtyL at ht
    cases hall : o.tmps.all (fun u => !dl.elem u) with
    | false => rw [hall] at ht; simp at ht
    | true =>
     rw [List.all_eq_true] at hall
     have kc : FrR hc ψc Sc (dim dl fr) fv := by
      intro w;rw [lk_dim]
      cases hw : dl.elem w with
      | true => simp [VD]
      | false => exact kt w hw
     have hpd : pD env (dim dl fr) o = some x := by
      rw [← e];refine pD_congr fun w hw => ?_;have := hall w hw;rw [lk_dim]
      cases h1 : dl.elem w with
      | true => rw [h1] at this; cases this
      | false => rfl
     obtain ⟨v', e', kv⟩ := pD_ok kc hpd;rw [ev1] at e';cases e';exact kv
   ·have hd : (some u : Option Nat) ≠ some t := fun e => hut (by cases e; rfl);rw [lk_put hd, ev_putO hd];refine kt t ?_;unfold dirtyL at ht
    cases hall : o.tmps.all (fun u => !dl.elem u) with
    | false => rw [hall] at ht; exact elem_tail ht
    | true =>
     rw [hall] at ht;simp only [cond_true, List.elem_eq_mem, decide_eq_false_iff_not, List.mem_filter, not_and] at ht ⊢;intro hm;have := ht hm;rw [show Nat.beq t u = false from by rw [nbeq_d]; exact decide_eq_false (Ne.symm hut)] at this;simp at this
 | [], _ :: _, _, k => k.elim
 | [], [], _ :: _, k => k.elim
 | _ :: _, [], _, k => k.elim
 | _ :: _, _ :: _, [], k => k.elim
theorem Past.loadR {d : Option Nat} {x : Opd} {y : D} {v : V} (hk : ∀ {ψc : Nat → Option Nat} {Sc : Fz} {Hc : HpD} {hc : Hp}, SR p.gl ψc Sc Hc hc → Ex hc ψc Sc h ψ S → VD hc ψc Sc (evD fr x) (ev fv x) → VD hc ψc Sc y v) :
  ∀ {cs : List (Nat × List Nat)} {st : List (Nat × Hp)} {pst : List (Nat × HpD)}, Past p.gl ψ S h fr fv cs st pst → Past p.gl ψ S h (putD fr d y) (putO fv d v) (dirtyP d (.mov x) cs) st pst
 | [], [], [], _ => trivial
 | (c, dl) :: cs, (c', hc) :: st, (c'', Hc) :: pst, k => by
  obtain ⟨e1, e2, ⟨ψc, Sc, s, x1, kt⟩, k⟩ := k;refine ⟨e1, e2, ⟨ψc, Sc, s, x1, fun t ht => ?_⟩, Past.loadR hk k⟩
  cases d with
  | none => exact kt t ht
  | some u =>
   simp only at ht;unfold dirtyL at ht
   by_cases hut : u = t
   ·subst hut;simp only [putD, lk, ev_put, if_true, show Nat.beq u u = true from nbeq.2 rfl, cond_true]
    cases hall : (POp.mov x).tmps.all (fun w => !dl.elem w) with
    | false => rw [hall] at ht; simp at ht
    | true =>
     refine hk s x1 ?_;simp only [List.all_eq_true] at hall
     cases x with
     | val w => exact dV_ok w
     | tmp w =>
      refine kt w ?_;have := hall w (List.mem_singleton.2 rfl)
      cases e : dl.elem w with
      | true => rw [e] at this; cases this
      | false => rfl
   ·have hd : (some u : Option Nat) ≠ some t := fun e => hut (by cases e; rfl);rw [lk_put hd, ev_putO hd];refine kt t ?_
    cases hall : (POp.mov x).tmps.all (fun w => !dl.elem w) with
    | false => rw [hall] at ht; exact elem_tail ht
    | true =>
     rw [hall] at ht;simp only [cond_true, List.elem_eq_mem, decide_eq_false_iff_not, List.mem_filter, not_and] at ht ⊢;intro hm;have := ht hm;rw [show Nat.beq t u = false from by rw [nbeq_d]; exact decide_eq_false (Ne.symm hut)] at this;simp at this
 | [], _ :: _, _, k => k.elim
 | [], [], _ :: _, k => k.elim
 | _ :: _, [], _, k => k.elim
 | _ :: _, _ :: _, [], k => k.elim
theorem Past.all {d : Option Nat} {o : POp} {x : D} {v : V} (kx : ∀ ψ S h, VD h ψ S x v) : ∀ {cs : List (Nat × List Nat)} {st : List (Nat × Hp)} {pst : List (Nat × HpD)}, Past p.gl ψ S h fr fv cs st pst → Past p.gl ψ S h (putD fr d x) (putO fv d v) (dirtyP d o cs) st pst
 | [], [], [], _ => trivial
 | (c, dl) :: cs, (c', hc) :: st, (c'', Hc) :: pst, k => by
  obtain ⟨e1, e2, ⟨ψc, Sc, s, x1, kt⟩, k⟩ := k;refine ⟨e1, e2, ⟨ψc, Sc, s, x1, fun t ht => ?_⟩, Past.all kx k⟩
  cases d with
  | none => exact kt t ht
  | some u =>
   simp only at ht
   by_cases hut : u = t
   ·subst hut;simp only [putD, lk, ev_put, if_true, show Nat.beq u u = true from nbeq.2 rfl, cond_true];exact kx _ _ _
   ·have hd : (some u : Option Nat) ≠ some t := fun e => hut (by cases e; rfl);rw [lk_put hd, ev_putO hd];refine kt t ?_;unfold dirtyL at ht
    cases hall : o.tmps.all (fun u => !dl.elem u) with
    | false => rw [hall] at ht; exact elem_tail ht
    | true =>
     rw [hall] at ht;simp only [cond_true, List.elem_eq_mem, decide_eq_false_iff_not, List.mem_filter, not_and] at ht ⊢;intro hm;have := ht hm;rw [show Nat.beq t u = false from by rw [nbeq_d]; exact decide_eq_false (Ne.symm hut)] at this;simp at this
 | [], _ :: _, _, k => k.elim
 | [], [], _ :: _, k => k.elim
 | _ :: _, [], _, k => k.elim
 | _ :: _, _ :: _, [], k => k.elim
theorem DI.pure (di : DI p.gl ψ S h fr fv cs ws nx pst st rds) {env : Env} {d : Option Nat} {o : POp} {x : D} {v : V} (e : pD env fr o = some x) (ev1 : pV env fv o = some v) : DI p.gl ψ S h (putD fr d x) (putO fv d v) (dirtyP d o cs) ws nx pst st rds :=
 ⟨di.past.pure e ev1, di.rds, di.last, di.ne⟩
theorem DI.tup (di : DI p.gl ψ S h fr fv cs ws nx pst st rds) {d : Option Nat} {o : POp} : DI p.gl ψ S h (putD fr d (.tup [])) (putO fv d (.tup [])) (dirtyP d o cs) ws nx pst st rds :=
 ⟨di.past.all fun _ _ _ => by simp [VD, VDl], di.rds, di.last, di.ne⟩
theorem DI.bool (di : DI p.gl ψ S h fr fv cs ws nx pst st rds) {d : Option Nat} {o : POp} {b : Bool} : DI p.gl ψ S h (putD fr d (.lit (.bool b))) (putO fv d (.bool b)) (dirtyP d o cs) ws nx pst st rds :=
 ⟨di.past.all fun _ _ _ => by simp [VD, atomV], di.rds, di.last, di.ne⟩
theorem DI.load (di : DI p.gl ψ S h fr fv cs ws nx pst st rds) {d : Option Nat} {x : D} {v : V} : DI p.gl ψ S h (putD fr d x) (putO fv d v) (dirtyN d cs) ws nx pst st rds :=
 ⟨di.past.up .refl, di.rds, di.last, di.ne⟩
theorem DI.loadR (di : DI p.gl ψ S h fr fv cs ws nx pst st rds) {d : Option Nat} {x : Opd} {y : D} {v : V} (hk : ∀ {ψc : Nat → Option Nat} {Sc : Fz} {Hc : HpD} {hc : Hp}, SR p.gl ψc Sc Hc hc → Ex hc ψc Sc h ψ S → isR (evD fr x) = true → VD hc ψc Sc (evD fr x) (ev fv x) → VD hc ψc Sc y v) :
  DI p.gl ψ S h (putD fr d y) (putO fv d v) (dirtyR d x (isR (evD fr x)) cs) ws nx pst st rds := by
 cases e : isR (evD fr x) with
 | true => exact ⟨di.past.loadR fun s x1 kx => hk s x1 e kx, di.rds, di.last, di.ne⟩
 | false => exact di.load
theorem DI.alloc (di : DI p.gl ψ S h fr fv cs ws nx pst st rds) (x0 : Ex h ψ S h' ψ' S') (hk : ∀ x, x < h.next → h'.blk x = h.blk x) (hψ : ∀ b x, ψ' b = some x → b < nx → ψ b = some x) (hS : ∀ x, S' x → S x) (hle : h.next ≤ h'.next) {d : Option Nat} {x : D} {v : V} : DI p.gl ψ' S' h' (putD fr d x) (putO fv d v) (dirtyN d cs) ws nx pst st rds :=
 ⟨di.past.up x0, di.rds, fun c hc st' e => by
  obtain ⟨a, b, d, g⟩ := di.last c hc st' e
  exact ⟨fun x hx => (hk x (Nat.lt_of_lt_of_le hx g)).trans (a x hx), fun b' x hb hl => b b' x (hψ b' x hb hl) hl, fun x hx => d x (hS x hx), Nat.le_trans g hle⟩, di.ne⟩
theorem DI.stage {i : Nat} {H' : HpD} (di : DI p.gl ψ S h fr fv cs ws nx pst st rds) (hw : noWin (i + 1) ws = true) (x0 : Ex h ψ S h' ψ' S') (s : SR p.gl ψ' S' H' h') {d : Option Nat} {x : D} {v : V} (kf : FrR h' ψ' S' (putD fr d x) (putO fv d v)) :
  DI p.gl ψ' S' h' (putD fr d x) (putO fv d v) ((i + 1, []) :: dirtyN d cs) ws H'.next ((i + 1, H') :: pst) ((i + 1, h') :: st) rds :=
 ⟨⟨rfl, rfl, ⟨ψ', S', s, .refl, fun t _ => kf t⟩, di.past.up x0⟩, fun r hr => ⟨(di.rds r hr).1, stillAll_add (noWin_mem hw (di.rds r hr).1) (di.rds r hr).2⟩, fun c hc st' e => by
  cases e
  exact ⟨fun _ _ => rfl, fun b x hb _ => (s.dom b x hb).2, s.frz, Nat.le_refl _⟩, by simp⟩
mutual
theorem rigid_eq {h : Hp} {ψ : Nat → Option Nat} {S : Fz} : ∀ (d : D) {u v : V}, rigid d = true → VD h ψ S d u → VD h ψ S d v → u = v
 | .lit _, _, _, _, a, b => by simp only [VD] at a b; rw [a.1, b.1]
 | .ptr _ _, _, _, _, a, b => by
  simp only [VD] at a b; obtain ⟨c, e, rfl⟩ := a; obtain ⟨c', e', rfl⟩ := b; rw [e] at e'; cases e'; rfl
 | .slice _ _ _ _ _ _, _, _, _, a, b => by
  simp only [VD] at a b; obtain ⟨c, e, rfl⟩ := a; obtain ⟨c', e', rfl⟩ := b; rw [e] at e'; cases e'; rfl
 | .map _, _, _, _, a, b => by
  simp only [VD] at a b; obtain ⟨c, e, rfl⟩ := a; obtain ⟨c', e', rfl⟩ := b; rw [e] at e'; cases e'; rfl
 | .agg l, _, _, r, a, b => by
  simp only [rigid] at r;simp only [VD] at a b; obtain ⟨c, rfl, a⟩ := a; obtain ⟨c', rfl, b⟩ := b; rw [rigids_eq l r a b]
 | .tup l, _, _, r, a, b => by
  simp only [rigid] at r;simp only [VD] at a b; obtain ⟨c, rfl, a⟩ := a; obtain ⟨c', rfl, b⟩ := b; rw [rigids_eq l r a b]
 | .func f x y, _, _, r, a, b => by
  simp only [rigid, Bool.and_eq_true] at r;simp only [VD] at a b; obtain ⟨c, d, rfl, a1, a2⟩ := a; obtain ⟨c', d', rfl, b1, b2⟩ := b; rw [rigids_eq x r.1 a1 b1, rigids_eq y r.2 a2 b2]
 | .iface t d, _, _, r, a, b => by
  simp only [rigid] at r;simp only [VD] at a b; obtain ⟨c, rfl, a⟩ := a; obtain ⟨c', rfl, b⟩ := b; rw [rigid_eq d r a b]
 | .any, _, _, r, _, _ | .rptr _ _, _, _, r, _, _ | .row _ _ _, _, _, r, _, _ => by simp [rigid] at r
theorem rigids_eq {h : Hp} {ψ : Nat → Option Nat} {S : Fz} : ∀ (l : List D) {us vs : List V}, rigids l = true → VDl h ψ S l us → VDl h ψ S l vs → us = vs
 | [], _, _, _, a, b => by simp only [VDl] at a b; rw [a, b]
 | d :: l, _, _, r, a, b => by
  simp only [rigids, Bool.and_eq_true] at r;simp only [VDl] at a b;obtain ⟨v, x, rfl, a1, a2⟩ := a;obtain ⟨v', x', rfl, b1, b2⟩ := b;rw [rigid_eq d r.1 a1 b1, rigids_eq l r.2 a2 b2]
end
theorem DI.read {lo hi b o : Nat} {l : List V} (di : DI p.gl ψ S h fr fv cs ws nx pst st rds) (hr : h.read b o l.length = some l) (hb : ∀ c hc st', st = (c, hc) :: st' → b < hc.next) (ht : stillAll ⟨lo, hi, b, o, l⟩ st.tail = true) : DI p.gl ψ S h fr fv cs ((lo, hi) :: ws) nx pst st (⟨lo, hi, b, o, l⟩ :: rds) :=
 ⟨di.past, fun r hr' => by
  rcases List.mem_cons.1 hr' with rfl | hr'
  ·refine ⟨List.mem_cons_self .., ?_⟩
   cases st with
   | nil => exact absurd rfl di.ne
   | cons q st' =>
    obtain ⟨c, hc⟩ := q;obtain ⟨a, _⟩ := di.last c hc st' rfl;rw [stillAll_cons];refine ⟨fun _ _ => ?_, ht⟩;simp only [stillAt]
    have : hc.read b o l.length = some l := by
     rw [← hr]; unfold Hp.read; rw [a b (hb c hc st' rfl)]
    rw [this];exact sames_self l
  ·exact ⟨List.mem_cons_of_mem _ (di.rds r hr').1, (di.rds r hr').2⟩, di.last, di.ne⟩
theorem DI.unread {lo hi : Nat} (di : DI p.gl ψ S h fr fv cs ws nx pst st rds) : DI p.gl ψ S h fr fv cs ((lo, hi) :: ws) nx pst st rds :=
 ⟨di.past, fun r hr => ⟨List.mem_cons_of_mem _ (di.rds r hr).1, (di.rds r hr).2⟩, di.last, di.ne⟩
theorem still_past {lo hi b o : Nat} {l : List V} {x : Opd} {y : D} {ld : HpD → Option D} (hl : h.read b o l.length = some l)
  (hptr : ∀ c k, evD fr x = .ptr c k → ∀ {ψc : Nat → Option Nat} {Sc : Fz} {Hc : HpD} {hc : Hp}, SR p.gl ψc Sc Hc hc → Ex hc ψc Sc h ψ S → VD hc ψc Sc (.ptr c k) (.ptr b o) → rigid y = true → ld Hc = some y → hc.read b o l.length = some l)
  (hk : (∃ c k, evD fr x = .ptr c k) ∨ ∃ c k, evD fr x = .rptr c k) (hv : ev fv x = .ptr b o) :
  ∀ {cs : List (Nat × List Nat)} {st : List (Nat × Hp)} {pst : List (Nat × HpD)}, Past p.gl ψ S h fr fv cs st pst → cleanAll (lo, hi) (tmpO x) cs = true → (∀ c k, evD fr x = .ptr c k → stillP lo hi ld y pst) → stillAll ⟨lo, hi, b, o, l⟩ st = true
 | [], [], [], _, _, _ => rfl
 | (c, dl) :: cs, (c', hc) :: st, (c'', Hc) :: pst, k, hcl, hst => by
  obtain ⟨rfl, rfl, ⟨ψc, Sc, s, x1, kt⟩, k⟩ := k;simp only [cleanAll, Bool.and_eq_true] at hcl;rw [stillAll_cons];refine ⟨fun h1 h2 => ?_, still_past hl hptr hk hv k hcl.2 fun a b e => (hst a b e).2⟩;have hw : inWin c'' (lo, hi) = true := (by simp only [inWin, nble_d, Bool.and_eq_true, decide_eq_true_eq]; exact ⟨h1, h2⟩);have hcl1 := hcl.1;rw [hw] at hcl1;simp only [Bool.not_true, Bool.false_or, List.all_eq_true] at hcl1
  have hvd : VD hc ψc Sc (evD fr x) (ev fv x) := by
   cases x with
   | val w => exact dV_ok w
   | tmp t =>
    refine kt t ?_;have := hcl1 t (List.mem_singleton.2 rfl)
    cases e : dl.elem t with
    | true => rw [e] at this; cases this
    | false => rfl
  rw [hv] at hvd
  have hrd : hc.read b o l.length = some l := by
   rcases hk with ⟨a, k', e⟩ | ⟨a, k', e⟩
   ·rw [e] at hvd;obtain ⟨hr, hld⟩ := (hst a k' e).1 hw;exact hptr a k' e s x1 hvd hr hld
   ·rw [e] at hvd;simp only [VD] at hvd;obtain ⟨c2, o2, cs2, ro, hS, e2, _, _⟩ := hvd;have : b = c2 := (by injection e2);subst this;rw [← hl];unfold Hp.read;rw [(x1.frz b hS).2]
  simp only [stillAt, hrd];exact sames_self l
 | [], _ :: _, _, k, _, _ => k.elim
 | [], [], _ :: _, k, _, _ => k.elim
 | _ :: _, [], _, k, _, _ => k.elim
 | _ :: _, _ :: _, [], k, _, _ => k.elim
theorem Past.tail : ∀ {cs : List (Nat × List Nat)} {st : List (Nat × Hp)} {pst : List (Nat × HpD)}, Past p.gl ψ S h fr fv cs st pst → Past p.gl ψ S h fr fv cs.tail st.tail pst.tail
 | [], [], [], k => k
 | _ :: _, _ :: _, _ :: _, k => k.2.2.2
 | [], _ :: _, _, k => k.elim
 | [], [], _ :: _, k => k.elim
 | _ :: _, [], _, k => k.elim
 | _ :: _, _ :: _, [], k => k.elim
end
end Go.Dv
end
