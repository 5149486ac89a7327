/-
  Texts that the claim's last one rests on, joined.
-/
import Derived.Test.YtnbmmnjihipahaaBapb
import Derived.Test.YtnbmmnjihipahaaBapa

section
namespace Go.Dv
open Go.Vm
section
variable {h : Hp} {ψ : Nat → Option Nat} {S : Nat → Prop} {env : Env}
theorem lit1_ok {f : V → Option V} {x d : D} {v : V} (e : lit1 f x = some d) (k : VD h ψ S x v) : ∃ w, f v = some w ∧ VD h ψ S d w := by
  cases x <;> simp only [lit1] at e <;> first | cases e | skip
  simp only [VD] at k
  obtain ⟨w, e1, rfl, e2⟩ := litO_some (h := h) (ψ := ψ) (S := S) e
  rw [k.1]
  exact ⟨w, e1, e2⟩
theorem foldD_ok {f : V → V → Option V} {l : List D} {d : D} {vs : List V} (e : foldD f l = some d) (k : VDl h ψ S l vs) : ∃ x r w, vs = x :: r ∧ foldV f x r = some w ∧ VD h ψ S d w := by
  unfold foldD at e
  split at e
  · rename_i x r hr
    obtain ⟨w, e1, rfl, e2⟩ := litO_some (h := h) (ψ := ψ) (S := S) e
    exact ⟨x, r, w, toVs_ok l hr k, e1, e2⟩
  · cases e
theorem isEq_ok {ty : ETy} {x y : D} {v w : V} {r : Bool} (e : isEq ty x y = some r) (k1 : VD h ψ S x v) (k2 : VD h ψ S y w) : eqV ty v w = some r := by
  unfold isEq at e
  split at e
  · rename_i a b ha hb
    rw [toV_ok x ha k1, toV_ok y hb k2]; exact e
  · split at e
    all_goals try (cases e; done)
    all_goals simp only [VD] at k1 k2
    · obtain ⟨rfl, _⟩ := k1; obtain ⟨c, _, rfl⟩ := k2; cases e; rfl
    · obtain ⟨rfl, _⟩ := k1; obtain ⟨_, _, _, _, _, rfl, _⟩ := k2; cases e; rfl
    · obtain ⟨rfl, _⟩ := k2; obtain ⟨c, _, rfl⟩ := k1; cases e; rfl
    · obtain ⟨rfl, _⟩ := k2; obtain ⟨_, _, _, _, _, rfl, _⟩ := k1; cases e; rfl
    · rename_i b o b' o' _
      obtain ⟨c, hc, rfl⟩ := k1
      obtain ⟨c', hc', rfl⟩ := k2
      rw [cond_eq_ite] at e
      split at e
      · rename_i hb
        rw [nbeq] at hb
        subst hb
        rw [hc] at hc'; cases hc'
        cases e
        simp only [eqV]
        rw [show Nat.beq c c = true from nbeq.2 rfl]; rfl
      · cases e
    · obtain ⟨rfl, _⟩ := k1; obtain ⟨_, _, rfl, _⟩ := k2; cases e; rfl
    · obtain ⟨rfl, _⟩ := k2; obtain ⟨_, _, rfl, _⟩ := k1; cases e; rfl
theorem isEqi_ok {ints : List Nat} {lit : Bool} {x y : D} {v w : V} {r : Bool} (e : isEqi ints lit x y = some r) (k1 : VD h ψ S x v) (k2 : VD h ψ S y w) : eqiV ints lit v w = some r := by
  unfold isEqi at e
  split at e
  · rename_i a b ha hb
    rw [toV_ok x ha k1, toV_ok y hb k2]; exact e
  · split at e
    all_goals try (cases e; done)
    all_goals simp only [VD] at k1 k2
    · obtain ⟨rfl, _⟩ := k1; obtain ⟨_, rfl, _⟩ := k2; cases e; rfl
    · obtain ⟨rfl, _⟩ := k2; obtain ⟨_, rfl, _⟩ := k1; cases e; rfl
theorem getX_eq {α : Type} : ∀ (l : List α) (n : Nat), getX l n = l[n]?
  | [], _ => rfl
  | _ :: _, 0 => rfl
  | _ :: l, n + 1 => by simp only [getX, List.getElem?_cons_succ]; exact getX_eq l n
theorem takes_ok {l : List D} {vs : List V} {a n : Nat} (k : VDl h ψ S l vs) (hn : a + n ≤ l.length) : takeX n (vs.drop a) = some ((vs.drop a).take n) ∧ VDl h ψ S ((l.drop a).take n) ((vs.drop a).take n) := by
  have := k.length
  exact ⟨takeX_of (by simp; omega), VDl.take n (VDl.drop a k)⟩
theorem iaddrD_ok {sz : Nat} {x i d : D} {v w : V} (e : iaddrD sz x i = some d) (k1 : VD h ψ S x v) (k2 : VD h ψ S i w) : ∃ u, iaddrV sz v w = some u ∧ VD h ψ S d u := by
  unfold iaddrD at e
  split at e
  case h_2 => cases e
  rename_i n hn
  have hw := natD_ok hn k2
  split at e
  case h_3 => cases e
  · simp only [VD] at k1
    obtain ⟨c, hc, rfl⟩ := k1
    simp only [iaddrV, hw]
    rw [cond_eq_ite] at e ⊢
    split at e
    case isFalse => cases e
    rename_i h1
    rw [cond_eq_ite] at e
    split at e
    case isFalse => cases e
    rename_i h2
    rw [if_pos h1, cond_eq_ite, if_pos h2]
    cases e
    exact ⟨_, rfl, by simp only [VD]; exact ⟨c, hc, rfl⟩⟩
  · rw [cond_eq_ite] at e
    split at e
    case isFalse => cases e
    rename_i h1
    rw [nbeq] at h1
    subst h1
    unfold elemD at e
    split at e
    case h_2 => cases e
    rename_i el hel
    cases e
    simp only [VD] at k1
    rcases k1 with ⟨_, rfl⟩ | ⟨b, o, c, ex, rfl, h1, h2, k1⟩
    · simp at hel
    rcases k1 with ⟨_, rfl⟩ | ⟨cs, ro, hs, hb, hp⟩
    · simp at hel
    obtain ⟨a1, a2⟩ := VDss.get hp hel
    have hlt := (List.getElem?_eq_some_iff.1 hel).1
    refine ⟨.ptr b (o + n * sz), ?_, ?_⟩
    · simp only [iaddrV, hw]
      rw [show Nat.blt n _ = true from nblt.2 hlt, show Nat.beq sz sz = true from nbeq.2 rfl]
      rfl
    · simp only [VD]
      rw [List.drop_drop] at a2
      exact ⟨b, o + n * sz, cs, ro, hs, rfl, hb, a2⟩
theorem boundL_le {lo : Option V} {h j : Nat} (e : boundL lo h = some j) : j ≤ h := by
  unfold boundL at e
  split at e
  · cases e; omega
  · split at e
    · rw [cond_eq_ite] at e; split at e
      · rename_i hh; cases e; rwa [nble] at hh
      · cases e
    · cases e
def mSel (mx : Option V) (c k : Nat) : Nat := match mx with | none => c | some _ => k
theorem slcD_ok {sz : Nat} {x d : D} {v : V} {lo hi mx : Option V} {lo' hi' mx' : Option D} (b1 : bndD lo' = some lo) (b2 : bndD hi' = some hi) (b3 : bndD mx' = some mx) (e : slcD sz x lo' hi' mx' = some d) (k : VD h ψ S x v) :
    ∃ u, slcV sz v lo hi mx = some u ∧ VD h ψ S d u := by
  unfold slcD at e
  rw [b1, b2, b3] at e
  simp only at e
  split at e
  case h_4 => cases e
  · simp only [VD] at k
    obtain ⟨rfl, _⟩ := k
    simp only [slcV] at e ⊢
    cases hn : needH hi mx <;> rw [hn] at e <;> simp only [cond_true, cond_false, sliceO] at e ⊢
    · cases e
    · cases hb : boundM mx 0 true with
      | none => rw [hb] at e; cases e
      | some r =>
        rw [hb] at e
        simp only at e ⊢
        cases hh : boundH hi 0 r.1 with
        | none => rw [hh] at e; cases e
        | some a =>
          rw [hh] at e
          simp only at e ⊢
          cases hl : boundL lo a with
          | none => rw [hl] at e; cases e
          | some j => rw [hl] at e; cases e; exact ⟨_, rfl, by simp [VD, atomV]⟩
  · simp only [VD] at k
    obtain ⟨c, hc, rfl⟩ := k
    rename_i b o sz' len cap ex
    simp only [slcV] at e ⊢
    rw [cond_eq_ite] at e ⊢
    split at e
    case isFalse => cases e
    rename_i h1
    rw [if_pos h1]
    cases hn : needH hi mx <;> rw [hn] at e <;> simp only [cond_true, cond_false, sliceO] at e ⊢
    · cases e
    · cases hb : boundM mx cap ex with
      | none => rw [hb] at e; cases e
      | some r =>
        rw [hb] at e
        simp only at e ⊢
        cases hh : boundH hi len r.1 with
        | none => rw [hh] at e; cases e
        | some a =>
          rw [hh] at e
          simp only at e ⊢
          cases hl : boundL lo a with
          | none => rw [hl] at e; cases e
          | some j => rw [hl] at e; cases e; exact ⟨_, rfl, by simp only [VD]; exact ⟨c, hc, rfl⟩⟩
  · rename_i sz' m l
    rw [cond_eq_ite] at e
    split at e
    case isFalse => cases e
    rename_i h1
    rw [nbeq] at h1
    subst h1
    cases hn : needH hi mx <;> rw [hn] at e <;> simp only [cond_true, cond_false] at e
    · cases e
    unfold slcRow at e
    split at e
    case h_2 => cases e
    rename_i kk ee hm
    split at e
    case h_2 => cases e
    rename_i hh2 hh
    split at e
    case h_2 => cases e
    rename_i j hj
    cases e
    have hjle := boundL_le hj
    have hkk : kk ≤ l.length := by
      unfold boundM at hm
      split at hm
      · cases hm; exact Nat.le_refl _
      · split at hm
        · rw [cond_eq_ite] at hm; split at hm
          · rename_i q; cases hm; rwa [nble] at q
          · cases hm
        · cases hm
    have hhle : hh2 ≤ l.length := by
      unfold boundH at hh
      split at hh
      · cases hh; exact Nat.le_refl _
      · split at hh
        · rw [cond_eq_ite] at hh; split at hh
          · rename_i q; cases hh; rw [nble] at q; omega
          · cases hh
        · cases hh
    simp only [VD] at k
    rcases k with ⟨rfl, rfl⟩ | ⟨b, o, c, ex, rfl, h1, h2, k⟩
    · simp only [slcV, hn, cond_true]
      simp only [List.length_nil] at hm hh
      rw [hm]
      simp only
      rw [hh]
      simp only
      rw [hj]
      exact ⟨_, rfl, by simp [VD]⟩
    · have hM : ∃ e', boundM mx c ex = some (mSel mx c kk, e') ∧ (mx ≠ none → e' = true) := by
        unfold boundM at hm ⊢
        cases mx with
        | none => exact ⟨ex, rfl, fun h => absurd rfl h⟩
        | some w =>
          simp only at hm ⊢
          split at hm
          · rename_i q hq
            rw [cond_eq_ite] at hm; split at hm
            · rename_i q2; cases hm; rw [nble] at q2
              refine ⟨true, ?_, fun _ => rfl⟩
              show cond (Nat.ble kk c) _ _ = _
              rw [show Nat.ble kk c = true from nble.2 (by omega)]
              rfl
            · cases hm
          · cases hm
      obtain ⟨e', hM, he'⟩ := hM
      have hH : boundH hi l.length (mSel mx c kk) = some hh2 := by
        cases mx with
        | some w => exact hh
        | none =>
          have hkk2 : kk = l.length := by simp only [boundM] at hm; cases hm; rfl
          subst hkk2
          unfold boundH at hh ⊢
          cases hi with
          | none => exact hh
          | some w =>
            simp only [mSel] at hh ⊢
            split at hh
            · rename_i q hq
              rw [cond_eq_ite] at hh; split at hh
              · rename_i q2; cases hh; rw [nble] at q2
                rw [show Nat.ble hh2 c = true from nble.2 (by omega)]
                rfl
              · cases hh
            · cases hh
      have hlen : ((l.take hh2).drop j).length = hh2 - j := by simp; omega
      refine ⟨.slice b (o + j * sz) sz (hh2 - j) ((mSel mx c kk) - j) e', ?_, ?_⟩
      · simp only [slcV]
        rw [show Nat.beq sz sz = true from nbeq.2 rfl, hn, hM]
        simp only [cond_true]
        rw [hH]
        simp only
        rw [hj]
      · simp only [VD]
        refine .inr ⟨b, o + j * sz, _, e', by rw [hlen], ?_, ?_, ?_⟩
        · rw [hlen]
          have : hh2 ≤ (mSel mx c kk) := by
            unfold boundH at hH
            split at hH
            · cases hH
              cases mx with
              | none => exact h1
              | some w =>
                simp only [needH] at hn
                cases hn
            · split at hH
              · rw [cond_eq_ite] at hH; split at hH
                · rename_i q; cases hH; rwa [nble] at q
                · cases hH
              · cases hH
          omega
        · intro hc
          rw [hlen]
          cases mx with
          | none => unfold cutMd at hc; split at hc <;> cases hc
          | some w =>
            simp only [mSel]
            refine ⟨?_, he' (by simp)⟩
            have hw : natOf w = some kk := by
              simp only [boundM] at hm
              split at hm
              · rename_i q hq
                rw [hq]
                rw [cond_eq_ite] at hm; split at hm
                · cases hm; rfl
                · cases hm
              · cases hm
            have : kk = hh2 := by
              unfold cutMd at hc
              split at hc
              · cases hc
              · simp only [hw] at hc
                rw [cond_eq_ite] at hc
                split at hc
                · rename_i q; rwa [nbeq] at q
                · cases hc
            omega
        · rcases k with ⟨rfl, rfl⟩ | ⟨cs, ro, hs, hb, hp⟩
          · exact .inl ⟨rfl, by simp⟩
          · refine .inr ⟨cs, ro, hs, hb, ?_⟩
            have := VDss.drop (n := j) (VDss.take (n := hh2) hp)
            rwa [List.drop_drop] at this
theorem slaD_ok {n sz : Nat} {x d : D} {v : V} {lo hi mx : Option V} {lo' hi' mx' : Option D} (b1 : bndD lo' = some lo) (b2 : bndD hi' = some hi) (b3 : bndD mx' = some mx) (e : slaD n sz x lo' hi' mx' = some d) (k : VD h ψ S x v) :
    ∃ u, slaV n sz v lo hi mx = some u ∧ VD h ψ S d u := by
  unfold slaD at e
  rw [b1, b2, b3] at e
  simp only at e
  split at e
  case h_2 => cases e
  simp only [VD] at k
  obtain ⟨c, hc, rfl⟩ := k
  simp only [slaV] at e ⊢
  cases hn : needH hi mx <;> rw [hn] at e <;> simp only [cond_true, cond_false, sliceO] at e ⊢
  · cases e
  · cases hb : boundM mx n true with
    | none => rw [hb] at e; cases e
    | some r =>
      rw [hb] at e
      simp only at e ⊢
      cases hh : boundH hi n r.1 with
      | none => rw [hh] at e; cases e
      | some a =>
        rw [hh] at e
        simp only at e ⊢
        cases hl : boundL lo a with
        | none => rw [hl] at e; cases e
        | some j => rw [hl] at e; cases e; exact ⟨_, rfl, by simp only [VD]; exact ⟨c, hc, rfl⟩⟩
theorem slcD_b {sz : Nat} {x d : D} {lo hi mx : Option D} (e : slcD sz x lo hi mx = some d) : ∃ a b c, bndD lo = some a ∧ bndD hi = some b ∧ bndD mx = some c := by
  unfold slcD at e
  split at e
  · exact ⟨_, _, _, by assumption, by assumption, by assumption⟩
  · cases e
theorem slaD_b {n sz : Nat} {x d : D} {lo hi mx : Option D} (e : slaD n sz x lo hi mx = some d) : ∃ a b c, bndD lo = some a ∧ bndD hi = some b ∧ bndD mx = some c := by
  unfold slaD at e
  split at e
  · exact ⟨_, _, _, by assumption, by assumption, by assumption⟩
  · cases e
theorem pD_ok {fr : FrD} {frv : Fr} (k : FrR h ψ S fr frv) {o : POp} {d : D} (e : pD env fr o = some d) : ∃ v, pV env frv o = some v ∧ VD h ψ S d v := by
  cases o with
  | mov x => cases e; exact ⟨_, rfl, evD_ok k x⟩
  | pick c a b =>
    simp only [pD] at e
    split at e
    case h_2 => cases e
    rename_i t ht
    have := evD_ok k c
    rw [ht] at this
    simp only [VD] at this
    simp only [pV_pick]
    rw [this.1]
    cases e
    cases t
    · exact ⟨_, rfl, evD_ok k b⟩
    · exact ⟨_, rfl, evD_ok k a⟩
  | build zero parts =>
    simp only [pD, aggD] at e
    split at e
    case h_2 => cases e
    rename_i r hr
    cases e
    obtain ⟨us, e1, k1⟩ := fillD_ok k parts (dVs_ok zero) hr
    simp only [pV_build, e1]
    exact ⟨_, rfl, by simp only [VD]; exact ⟨us, rfl, k1⟩⟩
  | nilchk x =>
    have := evD_ok k x
    simp only [pD] at e
    simp only [pV_nilchk]
    cases hx : evD fr x <;> rw [hx] at e this <;> simp only [nilchkD] at e <;> first | (cases e; done) | skip
    all_goals cases e
    all_goals (have kk := this; simp only [VD] at kk)
    · obtain ⟨c, _, hv⟩ := kk; rw [hv] at this ⊢; exact ⟨_, rfl, this⟩
    · obtain ⟨_, _, _, _, _, hv, _⟩ := kk; rw [hv] at this ⊢; exact ⟨_, rfl, this⟩
    · obtain ⟨_, _, hv, _⟩ := kk; rw [hv] at this ⊢; exact ⟨_, rfl, this⟩
  | bin op x y =>
    have k1 := evD_ok k x
    have k2 := evD_ok k y
    simp only [pD] at e
    simp only [pV_bin]
    unfold binD at e
    split at e
    case h_2 => cases e
    rename_i a b ha hb
    rw [ha] at k1; rw [hb] at k2
    simp only [VD] at k1 k2
    rw [k1.1, k2.1]
    obtain ⟨w, e1, rfl, e2⟩ := litO_some (h := h) (ψ := ψ) (S := S) e
    exact ⟨w, e1, e2⟩
  | eq ty neg x y =>
    simp only [pD, eqD] at e
    split at e
    case h_2 => cases e
    rename_i r hr
    cases e
    simp only [pV_eq]
    rw [eqP_some (isEq_ok hr (evD_ok k x) (evD_ok k y))]
    exact ⟨_, rfl, by simp [VD, atomV]⟩
  | eqi lit neg x y =>
    simp only [pD, eqiD] at e
    split at e
    case h_2 => cases e
    rename_i r hr
    cases e
    simp only [pV_eqi, eqiP]
    rw [isEqi_ok hr (evD_ok k x) (evD_ok k y)]
    exact ⟨_, rfl, by simp [VD, atomV]⟩
  | neg x => exact lit1_ok e (evD_ok k x)
  | not x => exact lit1_ok e (evD_ok k x)
  | compl x => exact lit1_ok e (evD_ok k x)
  | conv c x => exact lit1_ok e (evD_ok k x)
  | mkiface t x => cases e; exact ⟨_, rfl, by simp only [VD]; exact ⟨_, rfl, evD_ok k x⟩⟩
  | mkfunc f a c => cases e; exact ⟨_, rfl, by simp only [VD]; exact ⟨_, _, rfl, evsD_ok k a, evsD_ok k c⟩⟩
  | slc sz x lo hi mx =>
    simp only [pD] at e
    obtain ⟨a, b, c, e1, e2, e3⟩ := slcD_b e
    simp only [pV_slc]
    rw [bnd_ok k lo e1, bnd_ok k hi e2, bnd_ok k mx e3]
    exact slcD_ok e1 e2 e3 e (evD_ok k x)
  | sla n sz x lo hi mx =>
    simp only [pD] at e
    obtain ⟨a, b, c, e1, e2, e3⟩ := slaD_b e
    simp only [pV_sla]
    rw [bnd_ok k lo e1, bnd_ok k hi e2, bnd_ok k mx e3]
    exact slaD_ok e1 e2 e3 e (evD_ok k x)
  | sls x lo hi =>
    simp only [pD, slsD] at e
    split at e
    case h_2 => cases e
    rename_i a b e1 e2
    split at e
    case h_2 => cases e
    rename_i v hv
    have := evD_ok k x
    rw [hv] at this
    simp only [VD] at this
    simp only [pV_sls]
    rw [bnd_ok k lo e1, bnd_ok k hi e2, this.1]
    obtain ⟨w, e1, rfl, e2⟩ := litO_some (h := h) (ψ := ψ) (S := S) e
    exact ⟨w, e1, e2⟩
  | faddr off x =>
    have := evD_ok k x
    simp only [pD] at e
    simp only [pV_faddr]
    cases hx : evD fr x <;> rw [hx] at e this <;> simp only [faddrD] at e <;> first | (cases e; done) | skip
    all_goals cases e
    all_goals simp only [VD] at this
    · obtain ⟨c, hc, hv⟩ := this; rw [hv]; exact ⟨_, rfl, by simp only [VD]; exact ⟨c, hc, rfl⟩⟩
    · obtain ⟨c, o, cs, ro, hs, hv, hb, hp⟩ := this; rw [hv]; exact ⟨_, rfl, by simp only [VD]; exact ⟨c, o, cs, ro, hs, by rw [Nat.add_assoc], hb, hp⟩⟩
  | field1 off x =>
    have := evD_ok k x
    simp only [pD] at e
    simp only [pV_field1]
    cases hx : evD fr x <;> rw [hx] at e this <;> simp only [field1D] at e <;> first | (cases e; done) | skip
    simp only [VD] at this
    obtain ⟨l', hv, kl⟩ := this
    rw [hv, field1V_agg, getX_eq]
    exact VDl.get kl e
  | fieldn off n x =>
    have := evD_ok k x
    simp only [pD] at e
    simp only [pV_fieldn]
    cases hx : evD fr x <;> rw [hx] at e this <;> simp only [fieldnD] at e <;> first | (cases e; done) | skip
    simp only [VD] at this
    obtain ⟨l', hv, kl⟩ := this
    rw [cond_eq_ite] at e
    split at e
    case isFalse => cases e
    rename_i hn
    rw [nble] at hn
    cases e
    obtain ⟨a1, a2⟩ := takes_ok kl hn
    rw [hv]
    simp only [fieldnV, a1]
    exact ⟨_, rfl, by simp only [VD]; exact ⟨_, rfl, a2⟩⟩
  | iaddr sz x i => exact iaddrD_ok e (evD_ok k x) (evD_ok k i)
  | iaddra len sz x i =>
    have k1 := evD_ok k x
    simp only [pD, iaddraD] at e
    simp only [pV_iaddra]
    split at e
    case h_2 => cases e
    rename_i n hn
    have hw := natD_ok hn (evD_ok k i)
    split at e
    case h_2 => cases e
    rename_i b o hx
    rw [hx] at k1
    simp only [VD] at k1
    obtain ⟨c, hc, hv⟩ := k1
    rw [hv]
    simp only [iaddraV, hw]
    rw [cond_eq_ite] at e ⊢
    split at e
    case isFalse => cases e
    rename_i h1
    rw [if_pos h1]
    cases e
    exact ⟨_, rfl, by simp only [VD]; exact ⟨c, hc, rfl⟩⟩
  | idx1 len x i =>
    have k1 := evD_ok k x
    simp only [pD, idx1D] at e
    simp only [pV_idx1]
    split at e
    case h_2 => cases e
    rename_i n hn
    have hw := natD_ok hn (evD_ok k i)
    split at e
    case h_2 => cases e
    rename_i l hx
    rw [hx] at k1
    simp only [VD] at k1
    obtain ⟨l', hv, kl⟩ := k1
    rw [hv]
    simp only [idx1V, hw]
    rw [cond_eq_ite] at e ⊢
    split at e
    case isFalse => cases e
    rename_i h1
    rw [if_pos h1, getX_eq]
    exact VDl.get kl e
  | idxn len sz x i =>
    have k1 := evD_ok k x
    simp only [pD, idxnD] at e
    simp only [pV_idxn]
    split at e
    case h_2 => cases e
    rename_i n hn
    have hw := natD_ok hn (evD_ok k i)
    split at e
    case h_2 => cases e
    rename_i l hx
    rw [hx] at k1
    simp only [VD] at k1
    obtain ⟨l', hv, kl⟩ := k1
    rw [hv]
    simp only [idxnV, hw]
    rw [cond_eq_ite] at e ⊢
    split at e
    case isFalse => cases e
    rename_i h1
    rw [if_pos h1]
    rw [cond_eq_ite] at e
    split at e
    case isFalse => cases e
    rename_i h2
    rw [nble] at h2
    obtain ⟨a1, a2⟩ := takes_ok kl h2
    rw [a1]
    cases e
    exact ⟨_, rfl, by simp only [VD]; exact ⟨_, rfl, a2⟩⟩
  | idxs x i =>
    have k1 := evD_ok k x
    have k2 := evD_ok k i
    simp only [pD] at e
    simp only [pV_idxs]
    unfold idxsD at e
    split at e
    case h_2 => cases e
    rename_i a b ha hb
    rw [ha] at k1; rw [hb] at k2
    simp only [VD] at k1 k2
    rw [k1.1, k2.1]
    obtain ⟨w, e1, rfl, e2⟩ := litO_some (h := h) (ψ := ψ) (S := S) e
    exact ⟨w, e1, e2⟩
  | ext x i =>
    have := evD_ok k x
    simp only [pD] at e
    simp only [pV_ext]
    cases hx : evD fr x <;> rw [hx] at e this <;> simp only [extD] at e <;> first | (cases e; done) | skip
    simp only [VD] at this
    obtain ⟨l', hv, kl⟩ := this
    rw [hv, extV'_tup, getX_eq]
    exact VDl.get kl e
  | lens x => exact lit1_ok e (evD_ok k x)
  | lenb x =>
    have := evD_ok k x
    simp only [pD] at e
    simp only [pV_lenb]
    unfold lenbD at e
    split at e
    case h_4 => cases e
    all_goals (rename_i hx; rw [hx] at this; simp only [VD] at this; cases e)
    · rw [this.1]; exact ⟨_, rfl, by simp [VD, atomV]⟩
    · obtain ⟨c, _, hv⟩ := this; rw [hv]; exact ⟨_, rfl, by simp [VD, atomV]⟩
    · rcases this with ⟨hv, rfl⟩ | ⟨b, o, c, ex, hv, _⟩ <;> rw [hv] <;> exact ⟨_, rfl, by simp [VD, atomV]⟩
  | lena n => cases e; exact ⟨_, rfl, by simp [VD, atomV]⟩
  | caps x =>
    have := evD_ok k x
    simp only [pD] at e
    simp only [pV_caps]
    unfold capsD at e
    split at e
    case h_4 => cases e
    all_goals (rename_i hx; rw [hx] at this; simp only [VD] at this; cases e)
    · rw [this.1]; exact ⟨_, rfl, by simp [VD, atomV]⟩
    · obtain ⟨c, _, hv⟩ := this; rw [hv]; exact ⟨_, rfl, by simp [VD, atomV]⟩
    · rcases this with ⟨hv, rfl⟩ | ⟨b, o, c, ex, hv, h1, h2, _⟩
      · rw [hv]; exact ⟨_, rfl, by simp [VD, atomV]⟩
      · obtain ⟨rfl, rfl⟩ := h2 trivial
        rw [hv]; exact ⟨_, rfl, by simp [VD, atomV]⟩
  | min l =>
    obtain ⟨x, r, w, e1, e2, e3⟩ := foldD_ok e (evsD_ok k l)
    simp only [pV]
    rw [e1]
    exact ⟨w, e2, e3⟩
  | max l =>
    obtain ⟨x, r, w, e1, e2, e3⟩ := foldD_ok e (evsD_ok k l)
    simp only [pV]
    rw [e1]
    exact ⟨w, e2, e3⟩
end
end Go.Dv
end

section
namespace Go.Dv
open Go.Vm
def flatD : D → Bool
  | .any | .agg _ | .tup _ => false
  | _ => true
def flatsD : List D → Bool
  | [] => true
  | d :: l => flatD d && flatsD l
def chunkD (sz : Nat) : Nat → List D → List (List D)
  | 0, _ => []
  | n + 1, l => l.take sz :: chunkD sz n (l.drop sz)
def repD (zero : List D) : Nat → List D
  | 0 => []
  | n + 1 => zero ++ repD zero n
def bytesD (s : List Nat) : List D := s.map fun c => .lit (.int .u8 (.ofNat c))
def readD (H : HpD) (b o n : Nat) : Option (List D) :=
  match H.blk b with
  | .cells l _ => cond (Nat.ble (o + n) l.length) (some ((l.drop o).take n)) none
  | _ => none
def writeBD (x : BD) (o : Nat) (vs : List D) : Option BD :=
  match x with
  | .cells l false => cond (Nat.ble (o + vs.length) l.length) (cond (flatsD vs) (some (.cells (spliceD l o vs) false)) none) none
  | _ => none
def putO' (H : HpD) (b : Nat) (x : Option BD) : Option HpD :=
  match x with
  | some x => some (H.put b x)
  | none => none
def writeD (H : HpD) (b o : Nat) (vs : List D) : Option HpD := putO' H b (writeBD (H.blk b) o vs)
def boxD (H : HpD) (fz : Bool) (o : Option (List D)) : Option (D × HpD) :=
  match o with
  | some cs => cond (flatsD cs) (some (match fz with
      | true => (.rptr cs 0, H)
      | false => (.ptr H.next 0, H.new (.cells cs false)))) none
  | none => none
def bsliceD (H : HpD) (fz : Bool) (sz len : Nat) (o : Option (List D)) : Option (D × HpD) :=
  match o with
  | some c => cond (flatsD c) (cond (Nat.beq c.length (len * sz)) (some (match fz with
      | true => (.row sz .c (chunkD sz len c), H)
      | false => (.slice H.next 0 sz len len true, H.new (.cells c false)))) none) none
  | none => none
def mksliceD (H : HpD) (zero : List V) (sz bytes : Nat) (l c : Option Nat) : Option (D × HpD) :=
  match l, c with
  | some n, some m => cond (Nat.ble n m) (cond (Nat.ble (bytes * m) 1099511627776) (cond (Nat.ble m 1099511627776) (cond (allFlat zero) (cond (Nat.beq zero.length sz)
        (some (.slice H.next 0 sz n m true, H.new (.cells (repD (dVs zero) m) false))) none) none) none) none) none
  | _, _ => none
def toBytesD (H : HpD) (fz : Bool) (x : D) : Option (D × HpD) :=
  match x with
  | .lit (.str s) => some (match fz with
      | true => (.row 1 .p (s.map fun c => [.lit (.int .u8 (.ofNat c))]), H)
      | false => (.slice H.next 0 1 s.length s.length false, H.new (.cells (bytesD s) false)))
  | _ => none
def aD (fr : FrD) (H : HpD) (fz : Bool) : AOp → Option (D × HpD)
  | .new zero => cond (allFlat zero) (some (.ptr H.next 0, H.new (.cells (dVs zero) false))) none
  | .box x => boxD H fz (cellsD (evD fr x))
  | .bslice zero sz len parts => bsliceD H fz sz len (fillD (dVs zero) (evPartsD fr parts))
  | .mkslice zero sz bytes l c => mksliceD H zero sz bytes (natD (evD fr l)) (natD (evD fr c))
  | .mkmap kk => some (.map H.next, H.new (.map kk []))
  | .bytes x => toBytesD H fz (evD fr x)
def cellD (x : BD) (o : Nat) : Option D :=
  match x with
  | .cells l _ => l[o]?
  | _ => none
def loadD (H : HpD) (x : D) : Option D :=
  match x with
  | .ptr b o => cellD (H.blk b) o
  | .rptr l o => l[o]?
  | _ => none
def loadnD (H : HpD) (n : Nat) (x : D) : Option D :=
  match x with
  | .ptr b o => aggD (readD H b o n)
  | .rptr l o => cond (Nat.ble (o + n) l.length) (some (.agg ((l.drop o).take n))) none
  | _ => none
def tupO (o : Option HpD) : Option (D × HpD) :=
  match o with
  | some H => some (.tup [], H)
  | none => none
def storeC (H : HpD) (sz : Nat) (b o : Nat) (c : Option (List D)) : Option (D × HpD) :=
  match c with
  | some cs => cond (Nat.beq cs.length sz) (tupO (writeD H b o cs)) none
  | none => none
def storeD (H : HpD) (sz : Nat) (a x : D) : Option (D × HpD) :=
  match a with
  | .ptr b o => storeC H sz b o (cellsD x)
  | _ => none
def lenD (x : D) : Option Nat :=
  match x with
  | .lit .nilslice => some 0
  | .lit (.str s) => some s.length
  | .slice _ _ _ len _ _ => some len
  | .row _ _ l => some l.length
  | _ => none
def srcD (H : HpD) (sz n : Nat) (x : D) : Option (List D) :=
  match x with
  | .lit .nilslice => cond (Nat.beq n 0) (some []) none
  | .lit (.str s) => cond (Nat.beq sz 1) (cond (Nat.ble n s.length) (some (bytesD (s.take n))) none) none
  | .slice b o sz' len _ _ => cond (Nat.beq sz sz') (cond (Nat.ble n len) (readD H b o (n * sz)) none) none
  | .row sz' m l => cond (Nat.beq sz sz') (cond (Nat.ble n l.length) (match m, n with
    | .w, 0 => none
    | _, _ => some (l.take n).flatten) none) none
  | _ => none
def growD (sz : Nat) (H : HpD) (n : Nat) (o : Option (List D)) (new : List D) : Option (D × HpD) :=
  match o with
  | some old => some (.slice H.next 0 sz n n false, H.new (.cells (old ++ new) false))
  | none => none
def appendCD (sz bytes : Nat) (H : HpD) (s : D) (n : Nat) (new : List D) : Option (D × HpD) :=
  match s with
  | .lit .nilslice => cond (roomy bytes n) (some (.slice H.next 0 sz n n false, H.new (.cells new false))) none
  | .slice b o sz' len c ex => cond (Nat.beq sz sz')
      (cond (Nat.ble (len + n) c)
        (match writeD H b (o + len * sz) new with
        | some H' => some (.slice b o sz (len + n) c ex, H')
        | none => none)
        (cond (roomy bytes (len + n))
          (match ex with
          | true => growD sz H (len + n) (readD H b o (len * sz)) new
          | false => cond (Nat.beq o 0) (match H.blk b with
              | .cells _ false => growD sz (H.put b .gone) (len + n) (readD H b o (len * sz)) new
              | _ => none) none)
          none))
      none
  | .row sz' .c l => cond (Nat.beq sz sz') (cond (roomy bytes (l.length + n)) (growD sz H (l.length + n) (some l.flatten) new) none) none
  | _ => none
def sameD (sz : Nat) (H : HpD) (s : D) : Option (D × HpD) :=
  match s with
  | .lit .nilslice => some (.lit .nilslice, H)
  | .slice b o sz' len c ex => cond (Nat.beq sz sz') (some (.slice b o sz' len c ex, H)) none
  | .row sz' m l => cond (Nat.beq sz sz') (some (.row sz' m l, H)) none
  | _ => none
def appendN (sz bytes : Nat) (H : HpD) (s : D) (n : Nat) (o : Option (List D)) : Option (D × HpD) :=
  match o with
  | some new => cond (flatsD new) (appendCD sz bytes H s n new) none
  | none => none
def appendD (sz bytes : Nat) (H : HpD) (s x : D) : Option (D × HpD) :=
  match lenD x with
  | none => none
  | some n => match n with
    | 0 => sameD sz H s
    | n' + 1 => appendN sz bytes H s (n' + 1) (srcD H sz (n' + 1) x)
def appendZD (zero : List V) (sz bytes : Nat) (H : HpD) (s x : D) : Option (D × HpD) :=
  match natD x with
  | none => none
  | some n => match n with
    | 0 => sameD sz H s
    | n' + 1 => cond (Nat.beq zero.length sz) (cond (allFlat zero) (cond (flatsD (dVs zero)) (cond (roomy bytes (n' + 1)) (appendCD sz bytes H s (n' + 1) (repD (dVs zero) (n' + 1))) none) none) none) none
def copyC (H : HpD) (m b o : Nat) (c : Option (List D)) : Option (D × HpD) :=
  match c with
  | some new => match new with
    | [] => some (.lit (.int .i64 (m : Int)), H)
    | c :: r => match writeD H b o (c :: r) with
      | some H' => some (.lit (.int .i64 (m : Int)), H')
      | none => none
  | none => none
def copyD (H : HpD) (sz : Nat) (d s : D) : Option (D × HpD) :=
  match lenD s with
  | none => none
  | some n => match d with
    | .lit .nilslice => some (.lit (.int .i64 0), H)
    | .slice b o sz' len _ _ => cond (Nat.beq sz sz') (copyC H (minN n len) b o (srcD H sz (minN n len) s)) none
    | _ => none
def clearD (H : HpD) (zero : List V) (x : D) : Option (D × HpD) :=
  match x with
  | .lit .nilslice => some (.tup [], H)
  | .slice b o sz n _ _ => match n with
    | 0 => some (.tup [], H)
    | n + 1 => cond (Nat.beq zero.length sz) (tupO (writeD H b o (repD (dVs zero) (n + 1)))) none
  | _ => none
def strD (H : HpD) (o : Option (List D)) : Option (D × HpD) :=
  match o with
  | some l => match toVs l with
    | some vs => match eV.bytesOf vs with
      | some s => some (.lit (.str s), H)
      | none => none
    | none => none
  | none => none
def textD (H : HpD) (x : D) : Option (D × HpD) :=
  match x with
  | .lit .nilslice => some (.lit (.str []), H)
  | .slice b o sz len _ _ => cond (Nat.beq sz 1) (strD H (readD H b o len)) none
  | .row sz m l => cond (Nat.beq sz 1) (match m, l with
    | .w, [] => none
    | _, _ => strD H (some l.flatten)) none
  | _ => none
def mapFindD (k : V) : List (V × D) → Option D
  | [] => none
  | (a, v) :: l => cond (V.same a k) (some v) (mapFindD k l)
def mapSetD (k : V) (d : D) : List (V × D) → List (V × D)
  | [] => [(k, d)]
  | (a, w) :: l => cond (V.same a k) ((a, d) :: l) ((a, w) :: mapSetD k d l)
def mapDelD (k : V) : List (V × D) → List (V × D)
  | [] => []
  | (a, w) :: l => cond (V.same a k) l ((a, w) :: mapDelD k l)
def foundD (ok : Bool) (zero : D) (o : Option D) : D :=
  match o with
  | some d => cond ok (.tup [d, .lit (.bool true)]) d
  | none => cond ok (.tup [zero, .lit (.bool false)]) zero
def lookupB (sk : Bool) (zero : V) (ok : Bool) (x : BD) (k : D) : Option D :=
  match x, k with
  | .map kk l, .lit v => cond (keyIs sk kk v) (some (foundD ok (dV zero) (mapFindD v l))) none
  | _, _ => none
def withH (H : HpD) (o : Option D) : Option (D × HpD) :=
  match o with
  | some d => some (d, H)
  | none => none
def lookupD (H : HpD) (sk : Bool) (zero : V) (ok : Bool) (m k : D) : Option (D × HpD) :=
  match m with
  | .lit .nilmap => some (foundD ok (dV zero) none, H)
  | .map b => withH H (lookupB sk zero ok (H.blk b) k)
  | _ => none
def mapputB (sk : Bool) (x : BD) (k d : D) : Option BD :=
  match x, k with
  | .map kk l, .lit v => cond (keyIs sk kk v) (some (.map kk (mapSetD v d l))) none
  | _, _ => none
def mapputD (H : HpD) (sk : Bool) (m k v : D) : Option (D × HpD) :=
  match m with
  | .map b => tupO (putO' H b (mapputB sk (H.blk b) k v))
  | _ => none
def mapdelB (sk : Bool) (x : BD) (k : D) : Option BD :=
  match x, k with
  | .map kk l, .lit v => cond (keyIs sk kk v) (some (.map kk (mapDelD v l))) none
  | _, _ => none
def mapdelD (H : HpD) (sk : Bool) (m k : D) : Option (D × HpD) :=
  match m with
  | .lit .nilmap => some (.tup [], H)
  | .map b => tupO (putO' H b (mapdelB sk (H.blk b) k))
  | _ => none
def lenmB (x : BD) : Option D :=
  match x with
  | .map _ l => some (.lit (.int .i64 (l.length : Int)))
  | _ => none
def lenmD (H : HpD) (m : D) : Option (D × HpD) :=
  match m with
  | .lit .nilmap => some (.lit (.int .i64 0), H)
  | .map b => withH H (lenmB (H.blk b))
  | _ => none
def markD (H : HpD) (x : D) : Option (D × HpD) :=
  match x with
  | .slice b o sz len c ex => match H.blk b with
    | .cells _ false => cond (Nat.blt 0 c) (some (.slice b o sz len c ex, H)) none
    | _ => none
  | _ => none
def eD (fr : FrD) (H : HpD) : EOp → Option (D × HpD)
  | .store sz a x => storeD H sz (evD fr a) (evD fr x)
  | .append sz bytes s x => appendD sz bytes H (evD fr s) (evD fr x)
  | .appendz zero sz bytes s x => appendZD zero sz bytes H (evD fr s) (evD fr x)
  | .copy sz d s => copyD H sz (evD fr d) (evD fr s)
  | .clear zero x => clearD H zero (evD fr x)
  | .text x => textD H (evD fr x)
  | .lookup sk zero ok m k => lookupD H sk zero ok (evD fr m) (evD fr k)
  | .mapput sk m k v => mapputD H sk (evD fr m) (evD fr k) (evD fr v)
  | .delete sk m k => mapdelD H sk (evD fr m) (evD fr k)
  | .lenm x => lenmD H (evD fr x)
  | .mark x => markD H (evD fr x)
  | _ => none
section
variable {h : Hp} {ψ : Nat → Option Nat} {S : Nat → Prop} {H : HpD}
theorem Ex.new {y : Blk} (hf : ∀ c, S c → c < h.next) : Ex h ψ S (h.new y) ψ S := ⟨fun _ _ e => e, fun c k => ⟨k, by rw [blk_new, if_neg]; have := hf c k; omega⟩⟩
theorem Ex.put {y : Blk} {b : Nat} (hf : ¬ S b) : Ex h ψ S (h.put b y) ψ S := ⟨fun _ _ e => e, fun c k => ⟨k, by rw [blk_put, if_neg]; rintro rfl; exact hf k⟩⟩
theorem SR.put (s : SR ψ S H h) {b c : Nat} (hb : ψ b = some c) (hS : ¬ S c) {x : BD} {y : Blk} (hr : BR h ψ S x y) : SR ψ S (H.put b x) (h.put c y) := by
  have x0 : Ex h ψ S (h.put c y) ψ S := Ex.put hS
  refine ⟨s.inj, s.dom, s.frz, fun b' hl => ?_⟩
  rw [put_blk] at hl ⊢
  by_cases e : b' = b
  · subst e
    rw [if_pos rfl] at hl ⊢
    exact ⟨c, hb, hS, by rw [blk_put, if_pos rfl]; exact hr.mono x0⟩
  · rw [if_neg e] at hl ⊢
    obtain ⟨c', h1, h2, h3⟩ := s.live b' hl
    refine ⟨c', h1, h2, ?_⟩
    rw [blk_put, if_neg]
    · exact h3.mono x0
    · rintro rfl; exact e (s.inj _ _ _ h1 hb)
def addE (ψ : Nat → Option Nat) (b c : Nat) : Nat → Option Nat := fun x => if x = b then some c else ψ x
theorem SR.addExt (s : SR ψ S H h) {y : Blk} : Ex h ψ S (h.new y) (addE ψ H.next h.next) S := by
  refine ⟨fun b c e => ?_, (Ex.new (ψ := ψ) s.frz).frz⟩
  unfold addE
  rw [if_neg]; exact e
  have := (s.dom b c e).1; omega
theorem SR.new (s : SR ψ S H h) {x : BD} {y : Blk} (hr : BR h ψ S x y) : SR (addE ψ H.next h.next) S (H.new x) (h.new y) := by
  have x0 : Ex h ψ S (h.new y) (addE ψ H.next h.next) S := s.addExt
  refine ⟨fun b b' c h1 h2 => ?_, fun b c e => ?_, fun c k => Nat.lt_succ_of_lt (s.frz c k), fun b hl => ?_⟩
  · unfold addE at h1 h2
    split at h1 <;> split at h2
    · omega
    · cases h1; have := (s.dom _ _ h2).2; omega
    · cases h2; have := (s.dom _ _ h1).2; omega
    · exact s.inj _ _ _ h1 h2
  · unfold addE at e
    rw [new_next, Go.Vm.new_next]
    split at e
    · cases e; omega
    · have := s.dom _ _ e; omega
  · rw [new_blk] at hl ⊢
    by_cases e : b = H.next
    · subst e
      rw [if_pos rfl] at hl ⊢
      refine ⟨h.next, by unfold addE; rw [if_pos rfl], fun k => by have := s.frz _ k; omega, ?_⟩
      rw [blk_new, if_pos rfl]; exact hr.mono x0
    · rw [if_neg e] at hl ⊢
      obtain ⟨c', h1, h2, h3⟩ := s.live b hl
      refine ⟨c', by unfold addE; rw [if_neg e]; exact h1, h2, ?_⟩
      rw [blk_new, if_neg]
      · exact h3.mono x0
      · have := (s.dom _ _ h1).2; omega
theorem SR.newF (s : SR ψ S H h) {y : Blk} : Ex h ψ S (h.new y) ψ (fun c => S c ∨ c = h.next) ∧ SR ψ (fun c => S c ∨ c = h.next) H (h.new y) := by
  have x0 : Ex h ψ S (h.new y) ψ (fun c => S c ∨ c = h.next) := ⟨fun _ _ e => e, fun c k => ⟨.inl k, ((Ex.new (ψ := ψ) s.frz).frz c k).2⟩⟩
  refine ⟨x0, s.inj, fun b c e => ?_, fun c k => ?_, fun b hl => ?_⟩
  · have := s.dom _ _ e; rw [Go.Vm.new_next]; omega
  · rw [Go.Vm.new_next]; rcases k with k | rfl
    · have := s.frz c k; omega
    · omega
  · obtain ⟨c', h1, h2, h3⟩ := s.live b hl
    have hlt := (s.dom _ _ h1).2
    refine ⟨c', h1, fun k => ?_, ?_⟩
    · rcases k with k | k
      · exact h2 k
      · omega
    · rw [blk_new, if_neg (by omega)]
      exact h3.mono x0
theorem SR.drop (s : SR ψ S H h) (b : Nat) : SR ψ S (H.put b .gone) h := by
  refine ⟨s.inj, s.dom, s.frz, fun b' hl => ?_⟩
  rw [put_blk] at hl ⊢
  by_cases e : b' = b
  · subst e; rw [if_pos rfl] at hl; cases hl
  · rw [if_neg e] at hl ⊢; exact s.live b' hl
theorem SR.cells (s : SR ψ S H h) {b c : Nat} (hb : ψ b = some c) {l : List D} {ro : Bool} (hl : H.blk b = .cells l ro) : ¬ S c ∧ ∃ l', h.blk c = .cells l' ro ∧ VDl h ψ S l l' := by
  obtain ⟨c', h1, h2, h3⟩ := s.live b (by rw [hl]; rfl)
  rw [hb] at h1; cases h1
  rw [hl] at h3
  exact ⟨h2, h3⟩
theorem SR.map (s : SR ψ S H h) {b c : Nat} (hb : ψ b = some c) {kk : Option IntKind} {l : List (V × D)} (hl : H.blk b = .map kk l) : ¬ S c ∧ ∃ l', h.blk c = .map kk l' ∧ VDm h ψ S l l' := by
  obtain ⟨c', h1, h2, h3⟩ := s.live b (by rw [hl]; rfl)
  rw [hb] at h1; cases h1
  rw [hl] at h3
  exact ⟨h2, h3⟩
theorem flatD_ok {d : D} {v : V} (e : flatD d = true) (k : VD h ψ S d v) : v.flat = true := by
  cases d <;> first | (cases e; done) | skip
  all_goals simp only [VD] at k
  · obtain ⟨rfl, ha⟩ := k; cases v <;> first | rfl | (cases ha; done)
  · obtain ⟨c, _, rfl⟩ := k; rfl
  · obtain ⟨_, _, _, _, _, rfl, _⟩ := k; rfl
  · obtain ⟨c, _, rfl⟩ := k; rfl
  · rcases k with ⟨rfl, _⟩ | ⟨_, _, _, _, rfl, _⟩ <;> rfl
  · obtain ⟨c, _, rfl⟩ := k; rfl
  · obtain ⟨_, _, rfl, _⟩ := k; rfl
  · obtain ⟨_, rfl, _⟩ := k; rfl
theorem flatsD_ok : ∀ {l : List D} {vs : List V}, flatsD l = true → VDl h ψ S l vs → allFlat vs = true
  | [], _, _, k => by simp only [VDl] at k; subst k; rfl
  | d :: l, _, e, k => by
    simp only [flatsD, Bool.and_eq_true] at e
    simp only [VDl] at k
    obtain ⟨v, r, rfl, h1, k⟩ := k
    rw [allFlat_cons, flatD_ok e.1 h1, flatsD_ok e.2 k]; rfl
theorem repD_ok {zero : List D} {vs : List V} (k : VDl h ψ S zero vs) : ∀ n : Nat, VDl h ψ S (repD zero n) (repX vs n)
  | 0 => by simp [repD, repX, VDl]
  | n + 1 => VDl.append k (repD_ok k n)
theorem bytesD_ok : ∀ s : List Nat, VDl h ψ S (bytesD s) (s.map fun c => V.int .u8 (.ofNat c))
  | [] => by simp [bytesD, VDl]
  | c :: s => by
    simp only [bytesD, List.map_cons, VDl]
    exact ⟨_, _, rfl, by simp [VD, atomV], bytesD_ok s⟩
theorem chunk_flatten {sz : Nat} : ∀ {n : Nat} {l : List D}, l.length = n * sz → (chunkD sz n l).flatten = l ∧ (∀ e, e ∈ chunkD sz n l → e.length = sz) ∧ (chunkD sz n l).length = n
  | 0, l, e => by
    rw [Nat.zero_mul] at e
    have := List.eq_nil_of_length_eq_zero e
    subst this; simp [chunkD]
  | n + 1, l, e => by
    rw [Nat.succ_mul] at e
    obtain ⟨h1, h2, h3⟩ := chunk_flatten (sz := sz) (n := n) (l := l.drop sz) (by rw [List.length_drop]; omega)
    simp only [chunkD, List.flatten_cons, h1, List.take_append_drop, List.mem_cons, List.length_cons, h3]
    refine ⟨trivial, ?_, trivial⟩
    rintro x (rfl | hx)
    · rw [List.length_take]; omega
    · exact h2 x hx
theorem row_new (s : SR ψ S H h) {sz : Nat} {l : List (List D)} {cs : List V} {m : Md} {ex : Bool} (he : ∀ e, e ∈ l → e.length = sz) (k : VDl h ψ S l.flatten cs) (hm : m = .c → ex = true) :
    Ex h ψ S (h.new (.cells cs false)) ψ (fun c => S c ∨ c = h.next) ∧ SR ψ (fun c => S c ∨ c = h.next) H (h.new (.cells cs false)) ∧
      VD (h.new (.cells cs false)) ψ (fun c => S c ∨ c = h.next) (.row sz m l) (.slice h.next 0 sz l.length l.length ex) := by
  obtain ⟨x0, s1⟩ := s.newF (y := .cells cs false)
  refine ⟨x0, s1, ?_⟩
  simp only [VD]
  refine .inr ⟨h.next, 0, l.length, ex, rfl, Nat.le_refl _, fun e => ⟨rfl, hm e⟩, .inr ⟨cs, false, .inr rfl, by rw [blk_new, if_pos rfl], ?_⟩⟩
  have := VDss.of (us := []) he (VDl.mono x0 _ k)
  simpa using this
theorem readD_ok (s : SR ψ S H h) {b c o n : Nat} (hb : ψ b = some c) {l : List D} (e : readD H b o n = some l) : ∃ l', h.read c o n = some l' ∧ VDl h ψ S l l' := by
  unfold readD at e
  split at e
  case h_2 => cases e
  rename_i cs ro hcs
  rw [cond_eq_ite] at e
  split at e
  case isFalse => cases e
  rename_i hn
  rw [nble] at hn
  cases e
  obtain ⟨_, l', e1, k⟩ := s.cells hb hcs
  exact ⟨_, read_cells e1 (by rw [k.length]; exact hn), VDl.take n (VDl.drop o k)⟩
theorem writeD_ok (s : SR ψ S H h) {b c o : Nat} (hb : ψ b = some c) {cs : List D} {vs : List V} (k : VDl h ψ S cs vs) {H' : HpD} (e : writeD H b o cs = some H') : ∃ h', h.write c o vs = some h' ∧ Ex h ψ S h' ψ S ∧ SR ψ S H' h' := by
  unfold writeD putO' at e
  split at e
  case h_2 => cases e
  rename_i x hx
  cases e
  unfold writeBD at hx
  split at hx
  case h_2 => cases hx
  rename_i l hl
  rw [cond_eq_ite] at hx
  split at hx
  case isFalse => cases hx
  rename_i hn
  rw [nble] at hn
  rw [cond_eq_ite] at hx
  split at hx
  case isFalse => cases hx
  rename_i hf
  cases hx
  obtain ⟨hS, l', e1, kl⟩ := s.cells hb hl
  refine ⟨_, write_cells e1 (by rw [kl.length, k.length]; exact hn) (flatsD_ok hf k), Ex.put hS, s.put hb hS ⟨_, rfl, spliceD_ok kl k hn⟩⟩
end
end Go.Dv
end

section
namespace Go.Dv
open Go.Vm
section
variable {h : Hp} {ψ : Nat → Option Nat} {S : Nat → Prop} {H : HpD}
def To (ψ : Nat → Option Nat) (S : Nat → Prop) (h : Hp) (d : D) (H' : HpD) (v : V) (h' : Hp) : Prop :=
  ∃ ψ' S', Ex h ψ S h' ψ' S' ∧ SR ψ' S' H' h' ∧ VD h' ψ' S' d v
theorem To.same (s : SR ψ S H h) {d : D} {v : V} (k : VD h ψ S d v) : To ψ S h d H v h := ⟨ψ, S, .refl, s, k⟩
theorem To.lit (s : SR ψ S H h) {a : V} (ha : atomV a = true) : To ψ S h (.lit a) H a h := To.same s (by simp [VD, ha])
theorem addE_self {b c : Nat} : addE ψ b c b = some c := by unfold addE; rw [if_pos rfl]
theorem To.newPtr (s : SR ψ S H h) {l : List D} {vs : List V} (k : VDl h ψ S l vs) {ro : Bool} : To ψ S h (.ptr H.next 0) (H.new (.cells l ro)) (.ptr h.next 0) (h.new (.cells vs ro)) :=
  ⟨_, S, s.addExt, s.new ⟨vs, rfl, k⟩, by simp only [VD]; exact ⟨_, addE_self, rfl⟩⟩
theorem To.newSlice (s : SR ψ S H h) {l : List D} {vs : List V} (k : VDl h ψ S l vs) {ro : Bool} {sz n c : Nat} {ex : Bool} : To ψ S h (.slice H.next 0 sz n c ex) (H.new (.cells l ro)) (.slice h.next 0 sz n c ex) (h.new (.cells vs ro)) :=
  ⟨_, S, s.addExt, s.new ⟨vs, rfl, k⟩, by simp only [VD]; exact ⟨_, addE_self, rfl⟩⟩
theorem To.row (s : SR ψ S H h) {sz : Nat} {l : List (List D)} {cs : List V} {m : Md} {ex : Bool} (he : ∀ e, e ∈ l → e.length = sz) (k : VDl h ψ S l.flatten cs) (hm : m = .c → ex = true) {n : Nat} (hn : l.length = n) :
    To ψ S h (.row sz m l) H (.slice h.next 0 sz n n ex) (h.new (.cells cs false)) := by
  subst hn
  obtain ⟨x, s1, kv⟩ := row_new s he k hm
  exact ⟨_, _, x, s1, kv⟩
theorem flat_bytes : ∀ t : List Nat, (t.map fun c => [D.lit (.int .u8 (.ofNat c))]).flatten = bytesD t
  | [] => rfl
  | c :: t => by simp only [List.map_cons, List.flatten_cons, flat_bytes t, bytesD]; rfl
theorem aD_ok (s : SR ψ S H h) {fr : FrD} {frv : Fr} (k : FrR h ψ S fr frv) {fz : Bool} {o : AOp} {d : D} {H' : HpD} (e : aD fr H fz o = some (d, H')) : ∃ y mk, aV frv o = some (y, mk) ∧ To ψ S h d H' (mk h.next) (h.new y) := by
  cases o with
  | new zero =>
    simp only [aD] at e
    rw [cond_eq_ite] at e
    split at e
    case isFalse => cases e
    rename_i hf
    cases e
    exact ⟨.cells zero false, fun b => .ptr b 0, by simp only [aV, hf, cond_true], To.newPtr s (dVs_ok zero)⟩
  | box x =>
    simp only [aD, boxD] at e
    split at e
    case h_2 => cases e
    rename_i cs hcs
    rw [cond_eq_ite] at e
    split at e
    case isFalse => cases e
    rename_i hf
    have kk := cellsD_ok hcs (evD_ok k x)
    refine ⟨.cells (ev frv x).cells false, fun b => .ptr b 0, by simp only [aV, flatsD_ok hf kk, cond_true], ?_⟩
    cases fz with
    | false => cases e; exact To.newPtr s kk
    | true =>
      cases e
      obtain ⟨x0, s1⟩ := s.newF (y := .cells (ev frv x).cells false)
      refine ⟨_, _, x0, s1, ?_⟩
      simp only [VD]
      refine ⟨h.next, 0, _, false, .inr rfl, rfl, by rw [blk_new, if_pos rfl], ?_⟩
      have := VDp.of (us := []) (VDl.mono x0 _ kk)
      simpa using this
  | bslice zero sz len parts =>
    simp only [aD, bsliceD] at e
    split at e
    case h_2 => cases e
    rename_i c hc
    rw [cond_eq_ite] at e
    split at e
    case isFalse => cases e
    rename_i hf
    rw [cond_eq_ite] at e
    split at e
    case isFalse => cases e
    rename_i hl
    rw [nbeq] at hl
    obtain ⟨us, e1, k1⟩ := fillD_ok k parts (dVs_ok zero) hc
    refine ⟨.cells us false, fun b => .slice b 0 sz len len true, ?_, ?_⟩
    · simp only [aV, e1, flatsD_ok hf k1, cond_true]
      rw [show Nat.beq us.length (len * sz) = true from nbeq.2 (by rw [k1.length, hl])]
      rfl
    · cases fz with
      | true =>
        cases e
        obtain ⟨a1, a2, a3⟩ := chunk_flatten hl
        exact To.row s a2 (by rw [a1]; exact k1) (fun _ => rfl) a3
      | false => cases e; exact To.newSlice s k1
  | mkslice zero sz bytes l c =>
    simp only [aD, mksliceD] at e
    split at e
    case h_2 => cases e
    rename_i n m hn hm
    have h1 := natD_ok hn (evD_ok k l)
    have h2 := natD_ok hm (evD_ok k c)
    simp only [cond_eq_ite] at e
    repeat' (split at e)
    all_goals first | (cases e; done) | skip
    rename_i c1 c2 c3 c4 c5
    cases e
    refine ⟨.cells (repX zero m) false, fun b => .slice b 0 sz n m true, ?_, To.newSlice s (repD_ok (dVs_ok zero) m)⟩
    simp only [aV, h1, h2, c1, c2, c3, c4, c5, cond_true]
  | mkmap kk =>
    cases e
    exact ⟨_, _, rfl, _, S, s.addExt, s.new ⟨[], rfl, rfl⟩, by simp only [VD]; exact ⟨_, addE_self, rfl⟩⟩
  | bytes x =>
    have hx := evD_ok k x
    simp only [aD] at e
    unfold toBytesD at e
    split at e
    case h_2 => cases e
    rename_i t ht
    rw [ht] at hx
    simp only [VD] at hx
    refine ⟨.cells (t.map fun c => .int .u8 (.ofNat c)) false, fun b => .slice b 0 1 t.length t.length false, by simp only [aV, hx.1], ?_⟩
    cases fz with
    | true =>
      cases e
      refine To.row s (fun e he => ?_) ?_ (fun e => by cases e) (by simp)
      · obtain ⟨_, _, rfl⟩ := List.mem_map.1 he; rfl
      · have := bytesD_ok (h := h) (ψ := ψ) (S := S) t
        rwa [flat_bytes]
    | false => cases e; exact To.newSlice s (bytesD_ok t)
theorem aD_new {fr : FrD} {frv : Fr} (k : FrR h ψ S fr frv) {o : AOp} {d : D} {H' : HpD} (e : aD fr H false o = some (d, H')) : ∃ y mk x, aV frv o = some (y, mk) ∧ H' = H.new x ∧ BR h ψ S x y ∧ VD (h.new y) (addE ψ H.next h.next) S d (mk h.next) := by
  cases o with
  | new zero =>
    simp only [aD] at e
    rw [cond_eq_ite] at e
    split at e
    case isFalse => cases e
    rename_i hf
    cases e
    exact ⟨.cells zero false, fun b => .ptr b 0, _, by simp only [aV, hf, cond_true], rfl, ⟨_, rfl, dVs_ok zero⟩, by simp only [VD]; exact ⟨_, addE_self, rfl⟩⟩
  | box x =>
    simp only [aD, boxD] at e
    split at e
    case h_2 => cases e
    rename_i cs hcs
    rw [cond_eq_ite] at e
    split at e
    case isFalse => cases e
    rename_i hf
    cases e
    have kk := cellsD_ok hcs (evD_ok k x)
    exact ⟨.cells (ev frv x).cells false, fun b => .ptr b 0, _, by simp only [aV, flatsD_ok hf kk, cond_true], rfl, ⟨_, rfl, kk⟩, by simp only [VD]; exact ⟨_, addE_self, rfl⟩⟩
  | bslice zero sz len parts =>
    simp only [aD, bsliceD] at e
    split at e
    case h_2 => cases e
    rename_i c hc
    rw [cond_eq_ite] at e
    split at e
    case isFalse => cases e
    rename_i hf
    rw [cond_eq_ite] at e
    split at e
    case isFalse => cases e
    rename_i hl
    rw [nbeq] at hl
    obtain ⟨us, e1, k1⟩ := fillD_ok k parts (dVs_ok zero) hc
    cases e
    refine ⟨.cells us false, fun b => .slice b 0 sz len len true, _, ?_, rfl, ⟨_, rfl, k1⟩, by simp only [VD]; exact ⟨_, addE_self, rfl⟩⟩
    simp only [aV, e1, flatsD_ok hf k1, cond_true]
    rw [show Nat.beq us.length (len * sz) = true from nbeq.2 (by rw [k1.length, hl])]
    rfl
  | mkslice zero sz bytes l c =>
    simp only [aD, mksliceD] at e
    split at e
    case h_2 => cases e
    rename_i n m hn hm
    have h1 := natD_ok hn (evD_ok k l)
    have h2 := natD_ok hm (evD_ok k c)
    simp only [cond_eq_ite] at e
    repeat' (split at e)
    all_goals first | (cases e; done) | skip
    rename_i c1 c2 c3 c4 c5
    cases e
    refine ⟨.cells (repX zero m) false, fun b => .slice b 0 sz n m true, _, ?_, rfl, ⟨_, rfl, repD_ok (dVs_ok zero) m⟩, by simp only [VD]; exact ⟨_, addE_self, rfl⟩⟩
    simp only [aV, h1, h2, c1, c2, c3, c4, c5, cond_true]
  | mkmap kk =>
    cases e
    exact ⟨.map kk [], fun b => .map b, _, rfl, rfl, ⟨[], rfl, rfl⟩, by simp only [VD]; exact ⟨_, addE_self, rfl⟩⟩
  | bytes x =>
    have hx := evD_ok k x
    simp only [aD] at e
    unfold toBytesD at e
    split at e
    case h_2 => cases e
    rename_i t ht
    rw [ht] at hx
    simp only [VD] at hx
    cases e
    exact ⟨.cells (t.map fun c => .int .u8 (.ofNat c)) false, fun b => .slice b 0 1 t.length t.length false, _, by simp only [aV, hx.1], rfl, ⟨_, rfl, bytesD_ok t⟩, by simp only [VD]; exact ⟨_, addE_self, rfl⟩⟩
theorem loadD_ok (s : SR ψ S H h) {x d : D} {v : V} (k : VD h ψ S x v) (e : loadD H x = some d) : ∃ u, loadV h v = some u ∧ VD h ψ S d u := by
  cases x <;> simp only [loadD] at e <;> first | (cases e; done) | skip
  · simp only [VD] at k
    obtain ⟨c, hc, rfl⟩ := k
    unfold cellD at e
    split at e
    case h_2 => cases e
    rename_i l ro hl
    obtain ⟨_, l', e1, k⟩ := s.cells hc hl
    simp only [loadV, e1, cellAt]
    exact VDl.get k e
  · simp only [VD] at k
    rename_i l i
    obtain ⟨c, o, cs, ro, _, rfl, hb, hp⟩ := k
    have hlt := (List.getElem?_eq_some_iff.1 e).1
    obtain ⟨us, e1, k1⟩ := VDp.take (n := l.length) hp (Nat.le_refl _)
    rw [List.take_length] at k1
    obtain ⟨a1, a2⟩ := takeX_eq e1
    obtain ⟨u, e2, k2⟩ := VDl.get k1 e
    refine ⟨u, ?_, k2⟩
    simp only [loadV, hb, cellAt]
    rw [a1, List.getElem?_take, if_pos hlt, List.getElem?_drop] at e2
    exact e2
theorem loadnD_ok (s : SR ψ S H h) {x d : D} {v : V} {n : Nat} (k : VD h ψ S x v) (e : loadnD H n x = some d) : ∃ u, loadnV h n v = some u ∧ VD h ψ S d u := by
  cases x <;> simp only [loadnD] at e <;> first | (cases e; done) | skip
  · simp only [VD] at k
    obtain ⟨c, hc, rfl⟩ := k
    unfold aggD at e
    split at e
    case h_2 => cases e
    rename_i l hl
    cases e
    obtain ⟨l', e1, k⟩ := readD_ok s hc hl
    simp only [loadnV, e1, aggO_some]
    exact ⟨_, rfl, by simp only [VD]; exact ⟨_, rfl, k⟩⟩
  · simp only [VD] at k
    rename_i l i
    obtain ⟨c, o, cs, ro, _, rfl, hb, hp⟩ := k
    rw [cond_eq_ite] at e
    split at e
    case isFalse => cases e
    rename_i hn
    rw [nble] at hn
    cases e
    obtain ⟨us, e1, k1⟩ := VDp.take (n := n) (VDp.drop (n := i) hp) (by rw [List.length_drop]; omega)
    rw [List.drop_drop] at e1
    have hr : h.read c (o + i) n = some us := by unfold Hp.read; rw [hb]; exact e1
    simp only [loadnV, hr, aggO_some]
    exact ⟨_, rfl, by simp only [VD]; exact ⟨_, rfl, k1⟩⟩
theorem storeD_ok (s : SR ψ S H h) {a x d : D} {va vx : V} {sz : Nat} {H' : HpD} (ka : VD h ψ S a va) (kx : VD h ψ S x vx) (e : storeD H sz a x = some (d, H')) : ∃ u h', storeV h sz va vx = some (u, h') ∧ To ψ S h d H' u h' := by
  unfold storeD at e
  split at e
  case h_2 => cases e
  rename_i b o
  simp only [VD] at ka
  obtain ⟨c, hc, rfl⟩ := ka
  unfold storeC at e
  split at e
  case h_2 => cases e
  rename_i cs hcs
  have kk := cellsD_ok hcs kx
  rw [cond_eq_ite] at e
  split at e
  case isFalse => cases e
  rename_i hl
  rw [nbeq] at hl
  unfold tupO at e
  split at e
  case h_2 => cases e
  rename_i H1 hw
  cases e
  obtain ⟨h', e1, x1, s1⟩ := writeD_ok s hc kk hw
  refine ⟨.tup [], h', ?_, _, _, x1, s1, by simp [VD, VDl]⟩
  simp only [storeV, storeH]
  rw [show Nat.beq vx.cells.length sz = true from nbeq.2 (by rw [kk.length, hl]), e1]
  rfl
theorem lenD_ok {x : D} {v : V} {n : Nat} (k : VD h ψ S x v) (e : lenD x = some n) : lenV v = some n := by
  unfold lenD at e
  split at e
  all_goals first | (cases e; done) | skip
  all_goals (cases e; simp only [VD] at k)
  · rw [k.1]; rfl
  · rw [k.1]; rfl
  · obtain ⟨c, _, rfl⟩ := k; rfl
  · rcases k with ⟨rfl, rfl⟩ | ⟨_, _, _, _, rfl, _⟩ <;> rfl
theorem take_flatten {sz : Nat} : ∀ {l : List (List D)} {n : Nat}, (∀ e, e ∈ l → e.length = sz) → (l.take n).flatten = l.flatten.take (n * sz)
  | [], n, _ => by simp
  | x :: l, 0, _ => by simp
  | x :: l, n + 1, he => by
    rw [List.take_succ_cons, List.flatten_cons, List.flatten_cons, take_flatten fun e k => he e (List.mem_cons_of_mem _ k)]
    have hx := he x (List.mem_cons_self ..)
    rw [List.take_append, hx, show (n + 1) * sz - sz = n * sz from by rw [Nat.succ_mul]; omega]
    rw [show x.take ((n + 1) * sz) = x from List.take_of_length_le (by rw [Nat.succ_mul]; omega)]
theorem VDss.len : ∀ {l : List (List D)} {cs : List V} {sz : Nat}, VDss h ψ S sz l cs → ∀ e, e ∈ l → e.length = sz
  | [], _, _, _, e, he => by cases he
  | x :: l, cs, sz, k, e, he => by
    simp only [VDss] at k
    rcases List.mem_cons.1 he with rfl | he
    · exact k.1
    · exact VDss.len k.2.2 e he
theorem srcD_ok (s : SR ψ S H h) {x : D} {v : V} {sz n : Nat} {new : List D} (k : VD h ψ S x v) (e : srcD H sz n x = some new) : ∃ us, srcCells h sz n v = some us ∧ VDl h ψ S new us := by
  unfold srcD at e
  split at e
  case h_5 => cases e
  · simp only [VD] at k
    rw [k.1]
    rw [cond_eq_ite] at e
    split at e
    case isFalse => cases e
    rename_i hn
    cases e
    exact ⟨[], by simp only [srcCells, hn, cond_true], by simp [VDl]⟩
  · simp only [VD] at k
    rw [k.1]
    rw [cond_eq_ite] at e
    split at e
    case isFalse => cases e
    rename_i hs
    rw [cond_eq_ite] at e
    split at e
    case isFalse => cases e
    rename_i hn
    cases e
    exact ⟨_, by simp only [srcCells, hs, hn, cond_true], bytesD_ok _⟩
  · simp only [VD] at k
    obtain ⟨c, hc, rfl⟩ := k
    rw [cond_eq_ite] at e
    split at e
    case isFalse => cases e
    rename_i hs
    rw [cond_eq_ite] at e
    split at e
    case isFalse => cases e
    rename_i hn
    obtain ⟨us, e1, k1⟩ := readD_ok s hc e
    exact ⟨us, by simp only [srcCells, hs, hn, cond_true, e1], k1⟩
  · rename_i sz' m l
    rw [cond_eq_ite] at e
    split at e
    case isFalse => cases e
    rename_i hs
    rw [nbeq] at hs
    subst hs
    rw [cond_eq_ite] at e
    split at e
    case isFalse => cases e
    rename_i hn
    rw [nble] at hn
    have hw : ¬ (m = .w ∧ n = 0) := by
      rintro ⟨rfl, rfl⟩
      cases e
    have e : (l.take n).flatten = new := by
      cases m <;> cases n <;> first | (cases e; rfl) | (exact absurd ⟨rfl, rfl⟩ hw)
    subst e
    simp only [VD] at k
    rcases k with ⟨rfl, rfl⟩ | ⟨b, o, c, ex, rfl, h1, h2, k⟩
    · have : n = 0 := by simpa using hn
      subst this
      exact ⟨[], rfl, by simp [VDl]⟩
    · rcases k with ⟨rfl, rfl⟩ | ⟨cs, ro, hS, hb, hp⟩
      · exact absurd ⟨rfl, by simpa using hn⟩ hw
      · obtain ⟨us, e1, k1⟩ := VDss.cells hp
        obtain ⟨a1, a2⟩ := takeX_eq e1
        have hle : n * sz ≤ l.length * sz := Nat.mul_le_mul_right _ hn
        refine ⟨us.take (n * sz), ?_, ?_⟩
        · simp only [srcCells]
          rw [show Nat.beq sz sz = true from nbeq.2 rfl, show Nat.ble n l.length = true from nble.2 hn]
          simp only [cond_true]
          rw [show h.read b o (n * sz) = takeX (n * sz) (cs.drop o) from by unfold Hp.read; rw [hb]]
          rw [takeX_of (by omega), a1, List.take_take, Nat.min_eq_left hle]
        · rw [take_flatten (VDss.len hp)]
          exact VDl.take _ k1
theorem growD_ok (s : SR ψ S H h) {sz n m : Nat} (hm : n = m) {old new : List D} {vo vn : List V} (k1 : VDl h ψ S old vo) (k2 : VDl h ψ S new vn) {d : D} {H' : HpD} (e : growD sz H n (some old) new = some (d, H')) :
    To ψ S h d H' (.slice h.next 0 sz m m false) (h.new (.cells (vo ++ vn) false)) := by
  subst hm
  cases e
  exact To.newSlice s (VDl.append k1 k2)
theorem appendCD_ok (s : SR ψ S H h) {x : D} {v : V} {sz by_ n : Nat} {new : List D} {us : List V} {d : D} {H' : HpD} (hn : 0 < n) (k : VD h ψ S x v) (kn : VDl h ψ S new us) (e : appendCD sz by_ H x n new = some (d, H')) :
    ∃ u h', appendC sz by_ h v n us = some (u, h') ∧ To ψ S h d H' u h' := by
  unfold appendCD at e
  split at e
  case h_4 => cases e
  · simp only [VD] at k
    rw [k.1]
    rw [cond_eq_ite] at e
    split at e
    case isFalse => cases e
    rename_i hr
    cases e
    exact ⟨_, _, by simp only [appendC, hr, cond_true], To.newSlice s kn⟩
  · rename_i b o sz' len c ex
    simp only [VD] at k
    obtain ⟨c', hc, rfl⟩ := k
    rw [cond_eq_ite] at e
    split at e
    case isFalse => cases e
    rename_i hs
    rw [nbeq] at hs
    subst hs
    simp only [appendC]
    rw [show Nat.beq sz sz = true from nbeq.2 rfl]
    simp only [cond_true]
    cases hle : Nat.ble (len + n) c with
    | true =>
      rw [hle] at e
      simp only [cond_true] at e ⊢
      split at e
      case h_2 => cases e
      rename_i H1 hw
      cases e
      obtain ⟨h', e1, x1, s1⟩ := writeD_ok s hc kn hw
      exact ⟨_, h', by rw [e1], _, _, x1, s1, by simp only [VD]; exact ⟨c', hc, rfl⟩⟩
    | false =>
      rw [hle] at e
      simp only [cond_false] at e ⊢
      cases hr : roomy by_ (len + n) with
      | false => rw [hr] at e; cases e
      | true =>
        rw [hr] at e
        simp only [cond_true] at e ⊢
        cases ex with
        | true =>
          simp only at e
          cases hrd : readD H b o (len * sz) with
          | none => rw [hrd] at e; cases e
          | some old =>
            rw [hrd] at e
            obtain ⟨vo, e1, k1⟩ := readD_ok s hc hrd
            rw [e1]
            exact ⟨_, _, rfl, growD_ok s rfl k1 kn e⟩
        | false =>
          simp only at e
          rw [cond_eq_ite] at e
          split at e
          case isFalse => cases e
          rename_i ho
          rw [ho]
          split at e
          case h_2 => cases e
          rename_i l hl
          cases hrd : readD H b o (len * sz) with
          | none => rw [hrd] at e; cases e
          | some old =>
            rw [hrd] at e
            obtain ⟨vo, e1, k1⟩ := readD_ok s hc hrd
            obtain ⟨hS, l', e2, kl⟩ := s.cells hc hl
            rw [e1, e2]
            have x1 : Ex h ψ S (h.put c' .gone) ψ S := Ex.put hS
            have s1 : SR ψ S (H.put b .gone) (h.put c' .gone) := s.put hc hS trivial
            obtain ⟨ψ', S', x2, s2, k2⟩ := growD_ok s1 rfl (VDl.mono x1 _ k1) (VDl.mono x1 _ kn) e
            exact ⟨_, _, rfl, ψ', S', x1.trans x2, s2, k2⟩
  · rename_i sz' l
    rw [cond_eq_ite] at e
    split at e
    case isFalse => cases e
    rename_i hs
    rw [nbeq] at hs
    subst hs
    rw [cond_eq_ite] at e
    split at e
    case isFalse => cases e
    rename_i hr
    simp only [VD] at k
    rcases k with ⟨rfl, rfl⟩ | ⟨b, o, c, ex, rfl, h1, h2, k⟩
    · simp only [List.length_nil, Nat.zero_add, List.flatten_nil] at e hr
      refine ⟨.slice h.next 0 sz n n false, h.new (.cells us false), by simp only [appendC, hr, cond_true], ?_⟩
      have := growD_ok s rfl (old := []) (vo := []) (by simp [VDl]) kn e
      exact this
    · obtain ⟨rfl, rfl⟩ := h2 trivial
      rcases k with ⟨hw, _⟩ | ⟨cs, ro, hS, hb, hp⟩
      · cases hw
      · obtain ⟨vo, e1, k1⟩ := VDss.cells hp
        have hrd : h.read b o (l.length * sz) = some vo := by unfold Hp.read; rw [hb]; exact e1
        refine ⟨_, _, ?_, growD_ok s rfl k1 kn e⟩
        simp only [appendC]
        rw [show Nat.beq sz sz = true from nbeq.2 rfl, show Nat.ble (l.length + n) l.length = false from by rw [nble_d]; exact decide_eq_false (by omega), hr, hrd]
        rfl
theorem appendD_ok (s : SR ψ S H h) {a x d : D} {va vx : V} {sz by_ : Nat} {H' : HpD} (ka : VD h ψ S a va) (kx : VD h ψ S x vx) (e : appendD sz by_ H a x = some (d, H')) : ∃ u h', appendV sz by_ h va vx = some (u, h') ∧ To ψ S h d H' u h' := by
  unfold appendD at e
  split at e
  case h_1 => cases e
  rename_i n hn
  have hl := lenD_ok kx hn
  cases n with
  | zero =>
    simp only at e
    unfold sameD at e
    simp only [appendV, hl]
    split at e
    case h_4 => cases e
    · cases e
      have k2 := ka
      simp only [VD] at k2
      rw [k2.1] at ka ⊢
      exact ⟨_, _, rfl, To.same s ka⟩
    · rw [cond_eq_ite] at e
      split at e
      case isFalse => cases e
      rename_i hs
      cases e
      have k2 := ka
      simp only [VD] at k2
      obtain ⟨c, hc, rfl⟩ := k2
      exact ⟨_, _, by simp only [hs, cond_true], To.same s ka⟩
    · rw [cond_eq_ite] at e
      split at e
      case isFalse => cases e
      rename_i hs
      cases e
      have k2 := ka
      simp only [VD] at k2
      rcases k2 with ⟨rfl, _⟩ | ⟨b, o, c, ex, rfl, _⟩
      · exact ⟨_, _, rfl, To.same s ka⟩
      · exact ⟨_, _, by simp only [hs, cond_true], To.same s ka⟩
  | succ n =>
    simp only at e
    unfold appendN at e
    split at e
    case h_2 => cases e
    rename_i new hnew
    rw [cond_eq_ite] at e
    split at e
    case isFalse => cases e
    rename_i hf
    obtain ⟨us, e1, k1⟩ := srcD_ok s kx hnew
    obtain ⟨u, h', e2, t⟩ := appendCD_ok s (Nat.succ_pos n) ka k1 e
    refine ⟨u, h', ?_, t⟩
    simp only [appendV, hl, e1, flatsD_ok hf k1, cond_true]
    exact e2
theorem appendZD_ok (s : SR ψ S H h) {a x d : D} {va vx : V} {zero : List V} {sz by_ : Nat} {H' : HpD} (ka : VD h ψ S a va) (kx : VD h ψ S x vx) (e : appendZD zero sz by_ H a x = some (d, H')) : ∃ u h', appendZ zero sz by_ h va vx = some (u, h') ∧ To ψ S h d H' u h' := by
  unfold appendZD at e
  split at e
  case h_1 => cases e
  rename_i n hn
  have hl := natD_ok hn kx
  cases n with
  | zero =>
    simp only at e
    unfold sameD at e
    simp only [appendZ, hl]
    split at e
    case h_4 => cases e
    · cases e
      have k2 := ka
      simp only [VD] at k2
      rw [k2.1] at ka ⊢
      exact ⟨_, _, rfl, To.same s ka⟩
    · rw [cond_eq_ite] at e
      split at e
      case isFalse => cases e
      rename_i hs
      cases e
      have k2 := ka
      simp only [VD] at k2
      obtain ⟨c, hc, rfl⟩ := k2
      exact ⟨_, _, by simp only [hs, cond_true], To.same s ka⟩
    · rw [cond_eq_ite] at e
      split at e
      case isFalse => cases e
      rename_i hs
      cases e
      have k2 := ka
      simp only [VD] at k2
      rcases k2 with ⟨rfl, _⟩ | ⟨b, o, c, ex, rfl, _⟩
      · exact ⟨_, _, rfl, To.same s ka⟩
      · exact ⟨_, _, by simp only [hs, cond_true], To.same s ka⟩
  | succ n =>
    simp only at e
    simp only [cond_eq_ite] at e
    repeat' (split at e)
    all_goals first | (cases e; done) | skip
    rename_i c1 c2 c3 c4
    obtain ⟨u, h', e2, t⟩ := appendCD_ok s (Nat.succ_pos n) ka (repD_ok (dVs_ok zero) (n + 1)) e
    refine ⟨u, h', ?_, t⟩
    simp only [appendZ, hl, c1, c2, c4, cond_true]
    exact e2
theorem copyD_ok (s : SR ψ S H h) {a x d : D} {va vx : V} {sz : Nat} {H' : HpD} (ka : VD h ψ S a va) (kx : VD h ψ S x vx) (e : copyD H sz a x = some (d, H')) {frv : Fr} {oa ox : Opd} (ha : ev frv oa = va) (hx : ev frv ox = vx) :
    ∃ u h', eW frv h (.copy sz oa ox) = some (u, h') ∧ To ψ S h d H' u h' := by
  unfold copyD at e
  split at e
  case h_1 => cases e
  rename_i n hn
  have hl := lenD_ok kx hn
  split at e
  case h_3 => cases e
  · cases e
    simp only [VD] at ka
    simp only [eW, eV, ha, hx, hl, ka.1]
    exact ⟨_, _, rfl, To.lit s rfl⟩
  · rename_i b o sz' len cp ex
    simp only [VD] at ka
    obtain ⟨c, hc, rfl⟩ := ka
    rw [cond_eq_ite] at e
    split at e
    case isFalse => cases e
    rename_i hs
    unfold copyC at e
    split at e
    case h_2 => cases e
    rename_i new hnew
    obtain ⟨us, e1, k1⟩ := srcD_ok s kx hnew
    split at e
    · cases e
      simp only [VDl] at k1
      subst k1
      simp only [eW, eV, ha, hx, hl, hs, cond_true, e1]
      exact ⟨_, _, rfl, To.lit s rfl⟩
    · rename_i y r
      split at e
      case h_2 => cases e
      rename_i H1 hw
      cases e
      obtain ⟨h', e2, x1, s1⟩ := writeD_ok s hc k1 hw
      simp only [VDl] at k1
      obtain ⟨v, r', rfl, _, _⟩ := k1
      simp only [eW, eV, ha, hx, hl, hs, cond_true, e1, e2]
      exact ⟨_, _, rfl, _, _, x1, s1, by simp [VD, atomV]⟩
theorem VDm.find {k : V} : ∀ {l : List (V × D)} {l' : List (V × V)}, VDm h ψ S l l' → (mapFindD k l = none ∧ mapFind k l' = none) ∨ ∃ d v, mapFindD k l = some d ∧ mapFind k l' = some v ∧ VD h ψ S d v
  | [], _, kk => by simp only [VDm] at kk; subst kk; exact .inl ⟨rfl, rfl⟩
  | (a, d) :: l, _, kk => by
    simp only [VDm] at kk
    obtain ⟨v, r, rfl, h1, kk⟩ := kk
    simp only [mapFindD, mapFind]
    cases V.same a k with
    | true => exact .inr ⟨d, v, rfl, rfl, h1⟩
    | false => exact VDm.find kk
theorem VDm.set {k : V} {d : D} {v : V} (kd : VD h ψ S d v) : ∀ {l : List (V × D)} {l' : List (V × V)}, VDm h ψ S l l' → VDm h ψ S (mapSetD k d l) (mapSet k v l')
  | [], _, kk => by simp only [VDm] at kk; subst kk; simp only [mapSetD, mapSet, VDm]; exact ⟨v, [], rfl, kd, rfl⟩
  | (a, w) :: l, _, kk => by
    simp only [VDm] at kk
    obtain ⟨v', r, rfl, h1, kk⟩ := kk
    simp only [mapSetD, mapSet]
    cases V.same a k with
    | true => simp only [cond_true, VDm]; exact ⟨_, _, rfl, kd, kk⟩
    | false => simp only [cond_false, VDm]; exact ⟨_, _, rfl, h1, VDm.set kd kk⟩
theorem VDm.del {k : V} : ∀ {l : List (V × D)} {l' : List (V × V)}, VDm h ψ S l l' → VDm h ψ S (mapDelD k l) (mapDel k l')
  | [], _, kk => by simp only [VDm] at kk; subst kk; simp [mapDelD, mapDel, VDm]
  | (a, w) :: l, _, kk => by
    simp only [VDm] at kk
    obtain ⟨v', r, rfl, h1, kk⟩ := kk
    simp only [mapDelD, mapDel]
    cases V.same a k with
    | true => exact kk
    | false => simp only [cond_false, VDm]; exact ⟨_, _, rfl, h1, VDm.del kk⟩
theorem VDm.len : ∀ {l : List (V × D)} {l' : List (V × V)}, VDm h ψ S l l' → l'.length = l.length
  | [], _, kk => by simp only [VDm] at kk; subst kk; rfl
  | (a, w) :: l, _, kk => by
    simp only [VDm] at kk
    obtain ⟨v', r, rfl, h1, kk⟩ := kk
    simp [VDm.len kk]
theorem foundD_none {ok : Bool} {zero : V} : VD h ψ S (foundD ok (dV zero) none) (cond ok (.tup [zero, .bool false]) zero) := by
  cases ok
  · exact dV_ok zero
  · simp only [foundD, cond_true, VD, VDl]
    exact ⟨_, rfl, _, _, rfl, dV_ok zero, _, _, rfl, ⟨rfl, rfl⟩, rfl⟩
theorem foundD_some {ok : Bool} {zero v : V} {d : D} (k : VD h ψ S d v) : VD h ψ S (foundD ok (dV zero) (some d)) (cond ok (.tup [v, .bool true]) v) := by
  cases ok
  · exact k
  · simp only [foundD, cond_true, VD, VDl]
    exact ⟨_, rfl, _, _, rfl, k, _, _, rfl, ⟨rfl, rfl⟩, rfl⟩
theorem eD_ok (s : SR ψ S H h) {fr : FrD} {frv : Fr} (k : FrR h ψ S fr frv) {o : EOp} {d : D} {H' : HpD} (e : eD fr H o = some (d, H')) : ∃ u h', eW frv h o = some (u, h') ∧ o.calls = false ∧ To ψ S h d H' u h' := by
  cases o with
  | store sz a x =>
    obtain ⟨u, h', e1, t⟩ := storeD_ok s (evD_ok k a) (evD_ok k x) e
    refine ⟨u, h', ?_, rfl, t⟩
    simp only [eW, eV]
    unfold storeV at e1
    split at e1
    case h_2 => cases e1
    rename_i b o hb
    rw [hb]
    simp only [storeH] at e1 ⊢
    cases hc : Nat.beq (ev frv x).cells.length sz with
    | false => rw [hc] at e1; cases e1
    | true =>
      rw [hc] at e1
      simp only [cond_true] at e1 ⊢
      cases hw : h.write b o (ev frv x).cells with
      | none => rw [hw] at e1; cases e1
      | some h1 => rw [hw] at e1; exact e1
  | call f a => cases e
  | callv x a => cases e
  | extern f a => cases e
  | stop => cases e
  | append sz by_ a x =>
    obtain ⟨u, h', e1, t⟩ := appendD_ok s (evD_ok k a) (evD_ok k x) e
    exact ⟨u, h', e1, rfl, t⟩
  | appendz zero sz by_ a x =>
    obtain ⟨u, h', e1, t⟩ := appendZD_ok s (evD_ok k a) (evD_ok k x) e
    exact ⟨u, h', e1, rfl, t⟩
  | copy sz a x =>
    obtain ⟨u, h', e1, t⟩ := copyD_ok s (evD_ok k a) (evD_ok k x) e rfl rfl
    exact ⟨u, h', e1, rfl, t⟩
  | clear zero x =>
    have kx := evD_ok k x
    simp only [eD] at e
    unfold clearD at e
    split at e
    case h_3 => cases e
    · rename_i hx
      rw [hx] at kx; simp only [VD] at kx
      cases e
      exact ⟨.tup [], h, by simp only [eW, eV, kx.1], rfl, To.same s (by simp [VD, VDl])⟩
    · rename_i b o sz n cp ex hx
      rw [hx] at kx; simp only [VD] at kx
      obtain ⟨c, hc, hv⟩ := kx
      split at e
      · cases e
        exact ⟨.tup [], h, by simp only [eW, eV, hv], rfl, To.same s (by simp [VD, VDl])⟩
      · rename_i m
        rw [cond_eq_ite] at e
        split at e
        case isFalse => cases e
        rename_i hs
        unfold tupO at e
        split at e
        case h_2 => cases e
        rename_i H1 hw
        cases e
        obtain ⟨h', e1, x1, s1⟩ := writeD_ok s hc (repD_ok (dVs_ok zero) (m + 1)) hw
        exact ⟨.tup [], h', by simp only [eW, eV, hv, hs, cond_true, e1], rfl, _, _, x1, s1, by simp [VD, VDl]⟩
  | text x =>
    have kx := evD_ok k x
    simp only [eD] at e
    have fin : ∀ {o : Option (List D)} {b : Nat} {off n : Nat}, strD H o = some (d, H') → (∀ l, o = some l → ∃ l', h.read b off n = some l' ∧ VDl h ψ S l l') → ∃ l' t, h.read b off n = some l' ∧ eV.bytesOf l' = some t ∧ H' = H ∧ d = .lit (.str t) := by
      intro o b off n e hr
      unfold strD at e
      split at e
      case h_2 => cases e
      rename_i l
      split at e
      case h_2 => cases e
      rename_i vs hvs
      split at e
      case h_2 => cases e
      rename_i t ht
      cases e
      obtain ⟨l', e1, k1⟩ := hr l rfl
      have := toVs_ok l hvs k1
      subst this
      exact ⟨_, t, e1, ht, rfl, rfl⟩
    unfold textD at e
    split at e
    case h_4 => cases e
    · rename_i hx
      rw [hx] at kx; simp only [VD] at kx
      cases e
      exact ⟨_, _, by simp only [eW, eV, kx.1], rfl, To.lit s rfl⟩
    · rename_i b o sz len cp ex hx
      rw [hx] at kx; simp only [VD] at kx
      obtain ⟨c, hc, hv⟩ := kx
      rw [cond_eq_ite] at e
      split at e
      case isFalse => cases e
      rename_i hs
      obtain ⟨l', t, e1, e2, rfl, rfl⟩ := fin (b := c) (off := o) (n := len) e fun l hl => readD_ok s hc hl
      exact ⟨_, _, by simp only [eW, eV, hv, hs, cond_true, e1, e2], rfl, To.lit s rfl⟩
    · rename_i sz m l hx
      rw [hx] at kx; simp only [VD] at kx
      rw [cond_eq_ite] at e
      split at e
      case isFalse => cases e
      rename_i hs
      rw [nbeq] at hs
      subst hs
      have hw : ¬ (m = .w ∧ l = []) := by
        rintro ⟨rfl, rfl⟩
        cases e
      have e : strD H (some l.flatten) = some (d, H') := by
        split at e
        · cases e
        · exact e
      rcases kx with ⟨hv, rfl⟩ | ⟨b, o, c, ex, hv, h1, h2, kx⟩
      · simp only [List.flatten_nil, strD, toVs, eV.bytesOf] at e
        cases e
        exact ⟨_, _, by simp only [eW, eV, hv], rfl, To.lit s rfl⟩
      · rcases kx with kx | ⟨cs, ro, hS, hb, hp⟩
        · exact absurd kx hw
        · obtain ⟨l', t, e1, e2, rfl, rfl⟩ := fin (b := b) (off := o) (n := l.length) e fun l2 hl => by
            cases hl
            obtain ⟨us, e1, k1⟩ := VDss.cells hp
            rw [Nat.mul_one] at e1
            exact ⟨us, by unfold Hp.read; rw [hb]; exact e1, k1⟩
          refine ⟨_, _, ?_, rfl, To.lit s rfl⟩
          simp only [eW, eV, hv, e1, e2]
          rfl
  | lookup sk zero ok m kk =>
    have km := evD_ok k m
    have kk' := evD_ok k kk
    simp only [eD] at e
    unfold lookupD at e
    split at e
    case h_3 => cases e
    · rename_i hx
      rw [hx] at km; simp only [VD] at km
      cases e
      exact ⟨_, _, by simp only [eW, eV, km.1], rfl, To.same s foundD_none⟩
    · rename_i b hx
      rw [hx] at km; simp only [VD] at km
      obtain ⟨c, hc, hv⟩ := km
      unfold withH at e
      split at e
      case h_2 => cases e
      rename_i d' hd
      cases e
      unfold lookupB at hd
      split at hd
      case h_2 => cases hd
      rename_i kq l w hl hw
      rw [hw] at kk'; simp only [VD] at kk'
      rw [cond_eq_ite] at hd
      split at hd
      case isFalse => cases hd
      rename_i hki
      cases hd
      obtain ⟨hS, l', e1, k1⟩ := s.map hc hl
      rcases VDm.find (k := w) k1 with ⟨f1, f2⟩ | ⟨d2, v2, f1, f2, f3⟩
      · rw [f1]
        exact ⟨_, _, by simp only [eW, eV, hv, e1, kk'.1, hki, cond_true, f2], rfl, To.same s foundD_none⟩
      · rw [f1]
        exact ⟨_, _, by simp only [eW, eV, hv, e1, kk'.1, hki, cond_true, f2], rfl, To.same s (foundD_some f3)⟩
  | mapput sk m kk x =>
    have km := evD_ok k m
    have kk' := evD_ok k kk
    simp only [eD] at e
    unfold mapputD at e
    split at e
    case h_2 => cases e
    rename_i b hx
    rw [hx] at km; simp only [VD] at km
    obtain ⟨c, hc, hv⟩ := km
    unfold tupO putO' at e
    split at e
    case h_2 => cases e
    rename_i H1 hh
    cases e
    split at hh
    case h_2 => cases hh
    rename_i y hy
    cases hh
    unfold mapputB at hy
    split at hy
    case h_2 => cases hy
    rename_i kq l w hl hw
    rw [hw] at kk'; simp only [VD] at kk'
    rw [cond_eq_ite] at hy
    split at hy
    case isFalse => cases hy
    rename_i hki
    cases hy
    obtain ⟨hS, l', e1, k1⟩ := s.map hc hl
    exact ⟨.tup [], _, by simp only [eW, eV, hv, e1, kk'.1, hki, cond_true], rfl, _, _, Ex.put hS, s.put hc hS ⟨_, rfl, VDm.set (evD_ok k x) k1⟩, by simp [VD, VDl]⟩
  | delete sk m kk =>
    have km := evD_ok k m
    have kk' := evD_ok k kk
    simp only [eD] at e
    unfold mapdelD at e
    split at e
    case h_3 => cases e
    · rename_i hx
      rw [hx] at km; simp only [VD] at km
      cases e
      exact ⟨.tup [], h, by simp only [eW, eV, km.1], rfl, To.same s (by simp [VD, VDl])⟩
    rename_i b hx
    rw [hx] at km; simp only [VD] at km
    obtain ⟨c, hc, hv⟩ := km
    unfold tupO putO' at e
    split at e
    case h_2 => cases e
    rename_i H1 hh
    cases e
    split at hh
    case h_2 => cases hh
    rename_i y hy
    cases hh
    unfold mapdelB at hy
    split at hy
    case h_2 => cases hy
    rename_i kq l w hl hw
    rw [hw] at kk'; simp only [VD] at kk'
    rw [cond_eq_ite] at hy
    split at hy
    case isFalse => cases hy
    rename_i hki
    cases hy
    obtain ⟨hS, l', e1, k1⟩ := s.map hc hl
    exact ⟨.tup [], _, by simp only [eW, eV, hv, e1, kk'.1, hki, cond_true], rfl, _, _, Ex.put hS, s.put hc hS ⟨_, rfl, VDm.del k1⟩, by simp [VD, VDl]⟩
  | lenm m =>
    have km := evD_ok k m
    simp only [eD] at e
    unfold lenmD at e
    split at e
    case h_3 => cases e
    · rename_i hx
      rw [hx] at km; simp only [VD] at km
      cases e
      exact ⟨_, _, by simp only [eW, eV, km.1]; rfl, rfl, To.lit s rfl⟩
    · rename_i b hx
      rw [hx] at km; simp only [VD] at km
      obtain ⟨c, hc, hv⟩ := km
      unfold withH lenmB at e
      split at e
      case h_2 => cases e
      rename_i d' hd
      cases e
      split at hd
      case h_2 => cases hd
      rename_i kq l hl
      cases hd
      obtain ⟨hS, l', e1, k1⟩ := s.map hc hl
      exact ⟨.int .i64 (l.length : Int), h, by simp only [eW, eV, hv, e1, k1.len]; rfl, rfl, To.lit s rfl⟩
  | mark x =>
    have kx := evD_ok k x
    simp only [eD] at e
    unfold markD at e
    split at e
    case h_2 => cases e
    rename_i b o sz len cp ex hx
    rw [hx] at kx
    have kx2 := kx
    simp only [VD] at kx2
    obtain ⟨c, hc, hv⟩ := kx2
    split at e
    case h_2 => cases e
    rename_i l hl
    rw [cond_eq_ite] at e
    split at e
    case isFalse => cases e
    rename_i h0
    cases e
    obtain ⟨hS, l', e1, k1⟩ := s.cells hc hl
    rw [hv] at kx
    exact ⟨_, _, by simp only [eW, eV, hv, e1, h0, cond_true], rfl, To.same s kx⟩
end
end Go.Dv
end

section
namespace Go.Dv
open Go.Vm
inductive KC where
  | skip
  | region (l : List MO) (fz lv : List Nat)
  | dregion (l : List DO) (lv : List Nat)
  | seq (a b : KC)
  | cond (c : Opd) (a b : KC)
  | block (id : Nat) (c : KC)
  | loop (c : KC)
  | exit (id : Nat)
  | ret
def KC.erase : KC → MCode
  | .skip => .skip
  | .region l _ _ => .region l
  | .dregion l _ => .dregion l
  | .seq a b => .seq a.erase b.erase
  | .cond c a b => .cond c a.erase b.erase
  | .block id c => .block id c.erase
  | .loop c => .loop c.erase
  | .exit id => .exit id
  | .ret => .ret
def inWin (c : Nat) (w : Nat × Nat) : Bool := Nat.ble w.1 c && Nat.ble c w.2
def noWin (c : Nat) : List (Nat × Nat) → Bool
  | [] => true
  | w :: l => !inWin c w && noWin c l
def dirtyN (dst : Option Nat) : List (Nat × List Nat) → List (Nat × List Nat)
  | [] => []
  | (c, dl) :: cs => (c, match dst with | none => dl | some t => t :: dl) :: dirtyN dst cs
def dirtyL (t : Nat) (o : POp) (dl : List Nat) : List Nat := bif o.tmps.all (fun u => !dl.elem u) then dl.filter (fun u => !Nat.beq u t) else t :: dl
def dirtyP (dst : Option Nat) (o : POp) : List (Nat × List Nat) → List (Nat × List Nat)
  | [] => []
  | (c, dl) :: cs => (c, match dst with | none => dl | some t => dirtyL t o dl) :: dirtyP dst o cs
def cleanAll (w : Nat × Nat) (l : List Nat) : List (Nat × List Nat) → Bool
  | [] => true
  | (c, dl) :: cs => (!inWin c w || l.all fun u => !dl.elem u) && cleanAll w l cs
def drOk : List DO → Nat → List (Nat × List Nat) → List (Nat × Nat) → Bool
  | [], _, _, _ => true
  | d :: l, i, cs, ws => match d.o.op with
    | .load1 x => cleanAll (d.lo, d.hi) (tmpO x) cs.tail && drOk l (i + 1) (dirtyN d.o.dst cs) ((d.lo, d.hi) :: ws)
    | .loadn _ x => cleanAll (d.lo, d.hi) (tmpO x) cs.tail && drOk l (i + 1) (dirtyN d.o.dst cs) ((d.lo, d.hi) :: ws)
    | .e _ => noWin (i + 1) ws && drOk l (i + 1) ((i + 1, []) :: dirtyN d.o.dst cs) ws
    | .a _ => drOk l (i + 1) (dirtyN d.o.dst cs) ws
    | .p o => drOk l (i + 1) (dirtyP d.o.dst o cs) ws
def KC.ok : KC → Bool
  | .dregion l _ => drOk l 0 [(0, [])] []
  | .seq a b => a.ok && b.ok
  | .cond _ a b => a.ok && b.ok
  | .block _ c => c.ok
  | .loop c => c.ok
  | _ => true
inductive KD where
  | seq (b : KC)
  | block (id : Nat)
def KD.erase : KD → KF
  | .seq b => .seq b.erase
  | .block id => .block id
def KD.ok : KD → Bool
  | .seq b => b.ok
  | .block _ => true
def eraseK : List KD → List KF
  | [] => []
  | k :: K => k.erase :: eraseK K
def okK : List KD → Bool
  | [] => true
  | k :: K => k.ok && okK K
inductive ResD where
  | ok (fr : FrD) (H : HpD)
  | exit (id : Nat) (fr : FrD) (H : HpD)
  | ret (fr : FrD) (H : HpD)
inductive Tok {α : Type} (a : α) : Type where
  | mk
inductive Cfg where
  | code (c : KC) (K : List KD) (tk : Tok (c, K)) (fr : FrD) (H : HpD)
  | ops (l : List MO) (fz lv : List Nat) (K : List KD) (tk : Tok (l, fz, lv, K)) (fr : FrD) (H : HpD)
  | dops (l : List DO) (lv : List Nat) (K : List KD) (cs : List (Nat × List Nat)) (ws : List (Nat × Nat)) (tk : Tok (l, lv, K, cs, ws)) (i : Nat) (nx : Nat) (pst : List (Nat × HpD)) (fr : FrD) (H : HpD)
  | res (r : ResD) (K : List KD) (tk : Tok K)
  | call (f : Nat) (args : List D) (dst : Option Nat) (l : List MO) (fz lv : List Nat) (K : List KD) (tk : Tok (dst, l, fz, lv, K)) (fr : FrD) (H : HpD)
  | dcall (f : Nat) (args : List D) (dst : Option Nat) (l : List DO) (lv : List Nat) (K : List KD) (cs : List (Nat × List Nat)) (ws : List (Nat × Nat)) (tk : Tok (dst, l, lv, K, cs, ws)) (i : Nat) (pst : List (Nat × HpD)) (fr : FrD) (H : HpD)
  | need (P : Prop) (c : Cfg)
  | both (P : Prop) (a b : Cfg)
  | stuck
def optC (o : Option D) (k : D → Cfg) (_tk : Tok k := .mk) : Cfg := match o with
  | some d => k d
  | none => .stuck
def optH (o : Option (D × HpD)) (k : D → HpD → Cfg) (_tk : Tok k := .mk) : Cfg := match o with
  | some (d, H) => k d H
  | none => .stuck
def brC (t : Bool) (a b : Cfg) (_tk : Tok (a, b) := .mk) : Cfg := match t with
  | true => a
  | false => b
def boolC (d : D) (a b : Cfg) (_tk : Tok (a, b) := .mk) : Cfg := match d with
  | .lit (.bool t) => brC t a b
  | _ => .stuck
def gateC (d : D) (want : Bool) (a b : Cfg) (_tk : Tok (a, b) := .mk) : Cfg := match d with
  | .lit (.bool t) => brC (beqB t want) a b
  | .tup _ => b
  | _ => .stuck
def nilC (x y : D) (k : Bool → Cfg) (_tk : Tok k := .mk) : Cfg := match x, y with
  | .row _ _ l, .lit .nilslice => .both (l = []) (k true) (k false)
  | x, y => match isEq .slice x y with
    | some r => k r
    | none => .stuck
def funC (d : D) (k : Nat → List D → List D → Cfg) (_tk : Tok k := .mk) : Cfg := match d with
  | .func f a c => k f a c
  | _ => .stuck
mutual
def rigid : D → Bool
  | .lit _ | .ptr _ _ | .slice _ _ _ _ _ _ | .map _ => true
  | .agg l => rigids l
  | .tup l => rigids l
  | .func _ a c => rigids a && rigids c
  | .iface _ d => rigid d
  | _ => false
def rigids : List D → Bool
  | [] => true
  | d :: l => rigid d && rigids l
end
def stillP (lo hi : Nat) (ld : HpD → Option D) (x : D) : List (Nat × HpD) → Prop
  | [] => True
  | (c, H) :: l => (inWin c (lo, hi) = true → rigid x = true ∧ ld H = some x) ∧ stillP lo hi ld x l
def oldC (nx lo hi : Nat) (pst : List (Nat × HpD)) (ld : HpD → Option D) (x d : D) (a : Cfg) (_tk : Tok a := .mk) : Cfg := match d with
  | .ptr b _ => .need (b < nx ∧ stillP lo hi ld x pst.tail) a
  | _ => a
def inL (t : Option Nat) (l : List Nat) : Bool := match t with
  | none => false
  | some t => l.elem t
def dirtyO (d : Option Nat) (o : MOp) (i : Nat) (cs : List (Nat × List Nat)) : List (Nat × List Nat) := match o with
  | .e _ => (i + 1, []) :: dirtyN d cs
  | .p o => dirtyP d o cs
  | _ => dirtyN d cs
def addWin (o : MOp) (lo hi : Nat) (ws : List (Nat × Nat)) : List (Nat × Nat) := match o with
  | .load1 _ => (lo, hi) :: ws
  | .loadn _ _ => (lo, hi) :: ws
  | _ => ws
def exitC (t : Bool) (a b : Cfg) (_tk : Tok (a, b) := .mk) : Cfg := match t with
  | true => a
  | false => b
def runI (env : Env) : Nat → Cfg → Cfg
  | 0, c => c
  | n + 1, .code .skip K .mk fr H => runI env n (.res (.ok fr H) K .mk)
  | n + 1, .code (.region l fz lv) K .mk fr H => runI env n (.ops l fz lv K .mk fr H)
  | n + 1, .code (.dregion l lv) K .mk fr H => runI env n (.dops l lv K [(0, [])] [] .mk 0 H.next [(0, H)] fr H)
  | n + 1, .code (.seq a b) K .mk fr H => runI env n (.code a (.seq b :: K) .mk fr H)
  | n + 1, .code (.cond c a b) K .mk fr H => boolC (evD fr c) (runI env n (.code a K .mk fr H)) (runI env n (.code b K .mk fr H))
  | n + 1, .code (.block id c) K .mk fr H => runI env n (.code c (.block id :: K) .mk fr H)
  | _ + 1, .code (.loop c) K .mk fr H => .code (.loop c) K .mk fr H
  | n + 1, .code (.exit id) K .mk fr H => runI env n (.res (.exit id fr H) K .mk)
  | n + 1, .res (.exit id fr H) (.seq _ :: K) .mk => runI env n (.res (.exit id fr H) K .mk)
  | n + 1, .res (.exit id fr H) (.block id' :: K) .mk => exitC (Nat.beq id id') (runI env n (.res (.ok fr H) K .mk)) (runI env n (.res (.exit id fr H) K .mk))
  | _ + 1, .code .ret _ .mk fr H => .res (.ret fr H) [] .mk
  | n + 1, .res (.ok fr H) (.seq b :: K) .mk => runI env n (.code b K .mk fr H)
  | n + 1, .res (.ok fr H) (.block _ :: K) .mk => runI env n (.res (.ok fr H) K .mk)
  | _ + 1, .res r K .mk => .res r K .mk
  | n + 1, .ops [] _ lv K .mk fr H => runI env n (.res (.ok (keep lv fr) H) K .mk)
  | n + 1, .ops (⟨d, o, some (t, w)⟩ :: l) fz lv K .mk fr H => gateC (lk fr t) w (runI env n (.ops (⟨d, o, none⟩ :: l) fz lv K .mk fr H)) (runI env n (.ops l fz lv K .mk (putD fr d (.tup [])) H))
  | n + 1, .ops (⟨d, .p (.eq .slice neg x y), none⟩ :: l) fz lv K .mk fr H => nilC (evD fr x) (evD fr y) fun r => runI env n (.ops l fz lv K .mk (putD fr d (.lit (.bool (cond neg (!r) r)))) H)
  | n + 1, .ops (⟨d, .p o, none⟩ :: l) fz lv K .mk fr H => optC (pD env fr o) fun x => runI env n (.ops l fz lv K .mk (putD fr d x) H)
  | n + 1, .ops (⟨d, .a o, none⟩ :: l) fz lv K .mk fr H => optH (aD fr H (inL d fz) o) fun x H' => runI env n (.ops l fz lv K .mk (putD fr d x) H')
  | n + 1, .ops (⟨d, .load1 x, none⟩ :: l) fz lv K .mk fr H => optC (loadD H (evD fr x)) fun x => runI env n (.ops l fz lv K .mk (putD fr d x) H)
  | n + 1, .ops (⟨d, .loadn m x, none⟩ :: l) fz lv K .mk fr H => optC (loadnD H m (evD fr x)) fun x => runI env n (.ops l fz lv K .mk (putD fr d x) H)
  | _ + 1, .ops (⟨d, .e (.call f a), none⟩ :: l) fz lv K .mk fr H => .call f (evsD fr a) d l fz lv K .mk fr H
  | _ + 1, .ops (⟨d, .e (.extern f a), none⟩ :: l) fz lv K .mk fr H => .call f (evsD fr a) d l fz lv K .mk fr H
  | _ + 1, .ops (⟨d, .e (.callv x a), none⟩ :: l) fz lv K .mk fr H => funC (evD fr x) fun f fi ca => .call f (fi ++ evsD fr a ++ ca) d l fz lv K .mk fr H
  | n + 1, .ops (⟨d, .e o, none⟩ :: l) fz lv K .mk fr H => optH (eD fr H o) fun x H' => runI env n (.ops l fz lv K .mk (putD fr d x) H')
  | n + 1, .dops [] lv K _ _ .mk _ _ _ fr H => runI env n (.res (.ok (keep lv fr) H) K .mk)
  | n + 1, .dops (⟨⟨d, o, some (t, w)⟩, lo, hi⟩ :: l) lv K cs ws .mk i nx pst fr H => gateC (lk fr t) w (runI env n (.dops (⟨⟨d, o, none⟩, lo, hi⟩ :: l) lv K cs ws .mk i nx pst fr H))
      (runI env n (.dops l lv K (dirtyO d o i cs) (addWin o lo hi ws) .mk (i + 1) (bif isE o then H.next else nx) (bif isE o then (i + 1, H) :: pst else pst) (putD fr d (.tup [])) H))
  | n + 1, .dops (⟨⟨d, .p (.eq .slice neg x y), none⟩, _, _⟩ :: l) lv K cs ws .mk i nx pst fr H => nilC (evD fr x) (evD fr y) fun r => runI env n (.dops l lv K (dirtyP d (.eq .slice neg x y) cs) ws .mk (i + 1) nx pst (putD fr d (.lit (.bool (cond neg (!r) r)))) H)
  | n + 1, .dops (⟨⟨d, .p o, none⟩, _, _⟩ :: l) lv K cs ws .mk i nx pst fr H => optC (pD env fr o) fun x => runI env n (.dops l lv K (dirtyP d o cs) ws .mk (i + 1) nx pst (putD fr d x) H)
  | n + 1, .dops (⟨⟨d, .a o, none⟩, _, _⟩ :: l) lv K cs ws .mk i nx pst fr H => optH (aD fr H false o) fun x H' => runI env n (.dops l lv K (dirtyN d cs) ws .mk (i + 1) nx pst (putD fr d x) H')
  | n + 1, .dops (⟨⟨d, .load1 x, none⟩, lo, hi⟩ :: l) lv K cs ws .mk i nx pst fr H => optC (loadD H (evD fr x)) fun y => oldC nx lo hi pst (fun H => loadD H (evD fr x)) y (evD fr x) (runI env n (.dops l lv K (dirtyN d cs) ((lo, hi) :: ws) .mk (i + 1) nx pst (putD fr d y) H))
  | n + 1, .dops (⟨⟨d, .loadn m x, none⟩, lo, hi⟩ :: l) lv K cs ws .mk i nx pst fr H => optC (loadnD H m (evD fr x)) fun y => oldC nx lo hi pst (fun H => loadnD H m (evD fr x)) y (evD fr x) (runI env n (.dops l lv K (dirtyN d cs) ((lo, hi) :: ws) .mk (i + 1) nx pst (putD fr d y) H))
  | _ + 1, .dops (⟨⟨d, .e (.call f a), none⟩, _, _⟩ :: l) lv K cs ws .mk i _ pst fr H => .dcall f (evsD fr a) d l lv K cs ws .mk i pst fr H
  | _ + 1, .dops (⟨⟨d, .e (.extern f a), none⟩, _, _⟩ :: l) lv K cs ws .mk i _ pst fr H => .dcall f (evsD fr a) d l lv K cs ws .mk i pst fr H
  | _ + 1, .dops (⟨⟨d, .e (.callv x a), none⟩, _, _⟩ :: l) lv K cs ws .mk i _ pst fr H => funC (evD fr x) fun f fi ca => .dcall f (fi ++ evsD fr a ++ ca) d l lv K cs ws .mk i pst fr H
  | n + 1, .dops (⟨⟨d, .e o, none⟩, _, _⟩ :: l) lv K cs ws .mk i _ pst fr H => optH (eD fr H o) fun x H' => runI env n (.dops l lv K ((i + 1, []) :: dirtyN d cs) ws .mk (i + 1) H'.next ((i + 1, H') :: pst) (putD fr d x) H')
  | _ + 1, .call f a d l fz lv K .mk fr H => .call f a d l fz lv K .mk fr H
  | _ + 1, .dcall f a d l lv K cs ws .mk i pst fr H => .dcall f a d l lv K cs ws .mk i pst fr H
  | n + 1, .need P c => .need P (runI env n c)
  | n + 1, .both P a b => .both P (runI env n a) (runI env n b)
  | _ + 1, .stuck => .stuck
theorem run_ex : ∃ r : Env → Nat → Cfg → Cfg, r = runI := ⟨_, rfl⟩
noncomputable def run : Env → Nat → Cfg → Cfg := Classical.choose run_ex
theorem run_eq : run = runI := Classical.choose_spec run_ex
section
variable {p : Prog} {ext : Ext}
def RR (ψ : Nat → Option Nat) (S : Nat → Prop) (h : Hp) : Res → ResD → Prop
  | .ok fv h', .ok fr H => ∃ ψ' S', Ex h ψ S h' ψ' S' ∧ SR ψ' S' H h' ∧ FrR h' ψ' S' fr fv
  | .exit id fv h', .exit id' fr H => id = id' ∧ ∃ ψ' S', Ex h ψ S h' ψ' S' ∧ SR ψ' S' H h' ∧ FrR h' ψ' S' fr fv
  | .ret fv h', .ret fr H => ∃ ψ' S', Ex h ψ S h' ψ' S' ∧ SR ψ' S' H h' ∧ FrR h' ψ' S' fr fv
  | _, _ => False
def Post (ψ : Nat → Option Nat) (S : Nat → Prop) (h : Hp) (Q : ResD → Prop) (r : Res) : Prop := ∃ r', RR ψ S h r r' ∧ Q r'
theorem RR.up {ψ ψ1 : Nat → Option Nat} {S S1 : Nat → Prop} {h h1 : Hp} (x : Ex h ψ S h1 ψ1 S1) : ∀ {r : Res} {r' : ResD}, RR ψ1 S1 h1 r r' → RR ψ S h r r'
  | .ok _ _, .ok _ _, k => by obtain ⟨ψ', S', x1, k⟩ := k; exact ⟨ψ', S', x.trans x1, k⟩
  | .exit _ _ _, .exit _ _ _, k => by obtain ⟨e, ψ', S', x1, k⟩ := k; exact ⟨e, ψ', S', x.trans x1, k⟩
  | .ret _ _, .ret _ _, k => by obtain ⟨ψ', S', x1, k⟩ := k; exact ⟨ψ', S', x.trans x1, k⟩
  | .ok _ _, .exit _ _ _, k => k.elim
  | .ok _ _, .ret _ _, k => k.elim
  | .exit _ _ _, .ok _ _, k => k.elim
  | .exit _ _ _, .ret _ _, k => k.elim
  | .ret _ _, .ok _ _, k => k.elim
  | .ret _ _, .exit _ _ _, k => k.elim
  | .fail, .ok _ _, k => k.elim
  | .fail, .exit _ _ _, k => k.elim
  | .fail, .ret _ _, k => k.elim
theorem Post.up {ψ ψ1 : Nat → Option Nat} {S S1 : Nat → Prop} {h h1 : Hp} (x : Ex h ψ S h1 ψ1 S1) {Q : ResD → Prop} {r : Res} (k : Post ψ1 S1 h1 Q r) : Post ψ S h Q r := by
  obtain ⟨r', k1, k2⟩ := k
  exact ⟨r', k1.up x, k2⟩
def Past (ψ : Nat → Option Nat) (S : Nat → Prop) (h : Hp) (fr : FrD) (fv : Fr) : List (Nat × List Nat) → List (Nat × Hp) → List (Nat × HpD) → Prop
  | [], [], [] => True
  | (c, dl) :: cs, (c', hc) :: st, (c'', Hc) :: pst => c' = c ∧ c'' = c ∧ (∃ ψc Sc, SR ψc Sc Hc hc ∧ Ex hc ψc Sc h ψ S ∧ ∀ t, dl.elem t = false → VD hc ψc Sc (lk fr t) (ev fv (.tmp t))) ∧ Past ψ S h fr fv cs st pst
  | _, _, _ => False
structure DI (ψ : Nat → Option Nat) (S : Nat → Prop) (h : Hp) (fr : FrD) (fv : Fr) (cs : List (Nat × List Nat)) (ws : List (Nat × Nat)) (nx : Nat) (pst : List (Nat × HpD)) (st : List (Nat × Hp)) (rds : List Rd) : Prop where
  past : Past ψ S h fr fv cs st pst
  rds : ∀ r, r ∈ rds → (r.lo, r.hi) ∈ ws ∧ stillAll r st = true
  last : ∀ c hc st', st = (c, hc) :: st' → (∀ x, x < hc.next → h.blk x = hc.blk x) ∧ (∀ b x, ψ b = some x → b < nx → x < hc.next) ∧ (∀ x, S x → x < hc.next) ∧ hc.next ≤ h.next
  ne : st ≠ []
def Sem (p : Prog) (ext : Ext) (Q : ResD → Prop) : Cfg → Prop
  | .code c K .mk fr H => c.ok = true → okK K = true → ∀ ψ S h fv (P : Res → Prop), SR ψ S H h → FrR h ψ S fr fv → (∀ r, Post ψ S h Q r → P r) → WS p ext c.erase (eraseK K) fv h P
  | .ops l _ _ K .mk fr H => okK K = true → ∀ ψ S h fv (P : Res → Prop), SR ψ S H h → (FrR h ψ S fr fv) → (∀ r, Post ψ S h Q r → P r) → OS p ext l (eraseK K) fv h P
  | .dops l _ K cs ws .mk i nx pst fr H => okK K = true → drOk l i cs ws = true → nx ≤ H.next → ∀ ψ S h fv st rds (P : Res → Prop), SR ψ S H h → (FrR h ψ S fr fv) → DI ψ S h fr fv cs ws nx pst st rds → (∀ r, Post ψ S h Q r → P r) → DS p ext l (eraseK K) i fv h st rds P
  | .res (.ok fr H) K .mk => okK K = true → ∀ ψ S h fv (P : Res → Prop), SR ψ S H h → FrR h ψ S fr fv → (∀ r, Post ψ S h Q r → P r) → RK p ext (eraseK K) (.ok fv h) P
  | .res (.exit id fr H) K .mk => okK K = true → ∀ ψ S h fv (P : Res → Prop), SR ψ S H h → FrR h ψ S fr fv → (∀ r, Post ψ S h Q r → P r) → RK p ext (eraseK K) (.exit id fv h) P
  | .res (.ret fr H) K .mk => okK K = true → ∀ ψ S h fv (P : Res → Prop), SR ψ S H h → FrR h ψ S fr fv → (∀ r, Post ψ S h Q r → P r) → RK p ext (eraseK K) (.ret fv h) P
  | .call f args dst l _ _ K .mk fr H => okK K = true → ∀ ψ S h fv vs (P : Res → Prop), SR ψ S H h → FrR h ψ S fr fv → VDl h ψ S args vs → (∀ r, Post ψ S h Q r → P r) → callS p ext f vs h dst l (eraseK K) fv P
  | .dcall f args dst l _ K cs ws .mk i pst fr H => okK K = true → noWin (i + 1) ws = true → drOk l (i + 1) ((i + 1, []) :: dirtyN dst cs) ws = true → ∀ ψ S h fv vs st rds nx (P : Res → Prop), SR ψ S H h → FrR h ψ S fr fv → DI ψ S h fr fv cs ws nx pst st rds → VDl h ψ S args vs →
      (∀ r, Post ψ S h Q r → P r) → WPc p ext f vs h fun v h1 => DS p ext l (eraseK K) (i + 1) (putO fv dst v) h1 ((i + 1, h1) :: st) rds P
  | .need P c => P ∧ Sem p ext Q c
  | .both P a b => (P → Sem p ext Q a) ∧ Sem p ext Q b
  | .stuck => False
variable {Q : ResD → Prop}
theorem sem_optC {o : Option D} {k : D → Cfg} (hs : Sem p ext Q (optC o k)) : ∃ d, o = some d ∧ Sem p ext Q (k d) := by
  cases o with
  | none => exact hs.elim
  | some d => exact ⟨d, rfl, hs⟩
theorem sem_optH {o : Option (D × HpD)} {k : D → HpD → Cfg} (hs : Sem p ext Q (optH o k)) : ∃ d H, o = some (d, H) ∧ Sem p ext Q (k d H) := by
  cases o with
  | none => exact hs.elim
  | some d => exact ⟨d.1, d.2, rfl, hs⟩
theorem sem_gateC {d : D} {w : Bool} {a b : Cfg} (hs : Sem p ext Q (gateC d w a b)) : (∃ t, d = .lit (.bool t) ∧ (t = w → Sem p ext Q a) ∧ (t = !w → Sem p ext Q b)) ∨ ((∃ l, d = .tup l) ∧ Sem p ext Q b) := by
  unfold gateC at hs
  split at hs
  · rename_i t
    refine .inl ⟨t, rfl, fun e => ?_, fun e => ?_⟩
    · subst e; cases t <;> exact hs
    · subst e; cases w <;> exact hs
  · exact .inr ⟨⟨_, rfl⟩, hs⟩
  · exact hs.elim
theorem sem_nilC {ψ : Nat → Option Nat} {S : Nat → Prop} {h : Hp} {x y : D} {v w : V} {k : Bool → Cfg} (kx : VD h ψ S x v) (ky : VD h ψ S y w) (hs : Sem p ext Q (nilC x y k)) : ∃ r, eqV .slice v w = some r ∧ Sem p ext Q (k r) := by
  unfold nilC at hs
  split at hs
  · rename_i sz m l
    simp only [VD] at kx ky
    rw [ky.1]
    rcases kx with ⟨rfl, rfl⟩ | ⟨b, o, c, ex, rfl, _⟩
    · exact ⟨true, rfl, hs.1 rfl⟩
    · exact ⟨false, rfl, hs.2⟩
  · split at hs
    · rename_i r hr
      exact ⟨r, isEq_ok hr kx ky, hs⟩
    · exact hs.elim
theorem sem_funC {d : D} {k : Nat → List D → List D → Cfg} (hs : Sem p ext Q (funC d k)) : ∃ f a c, d = .func f a c ∧ Sem p ext Q (k f a c) := by
  unfold funC at hs
  split at hs
  · exact ⟨_, _, _, rfl, hs⟩
  · exact hs.elim
theorem sem_oldC {nx lo hi : Nat} {pst : List (Nat × HpD)} {ld : HpD → Option D} {x d : D} {a : Cfg} (hs : Sem p ext Q (oldC nx lo hi pst ld x d a)) : (∀ b o, d = .ptr b o → b < nx ∧ stillP lo hi ld x pst.tail) ∧ Sem p ext Q a := by
  unfold oldC at hs
  split at hs
  · rename_i b o
    exact ⟨fun b' o' e => by cases e; exact hs.1, hs.2⟩
  · rename_i hne; exact ⟨fun b o e => absurd e (hne b o), hs⟩
theorem okK_cons {k : KD} {K : List KD} (h : okK (k :: K) = true) : k.ok = true ∧ okK K = true := by
  simp only [okK, Bool.and_eq_true] at h; exact h
theorem RK_ret {fv : Fr} {h : Hp} {P : Res → Prop} : ∀ {K : List KD}, RK p ext [] (.ret fv h) P → RK p ext (eraseK K) (.ret fv h) P
  | [], hk => hk
  | .seq _b :: K, hk => RK.seq_ret.2 (RK_ret (K := K) hk)
  | .block _id' :: K, hk => RK.block_ret.2 (RK_ret (K := K) hk)
theorem stillAll_add {r : Rd} {c : Nat} {h : Hp} {st : List (Nat × Hp)} (hw : inWin c (r.lo, r.hi) = false) (hs : stillAll r st = true) : stillAll r ((c, h) :: st) = true := by
  rw [stillAll_cons]
  refine ⟨fun h1 h2 => ?_, hs⟩
  simp only [inWin, nble_d, Bool.and_eq_false_iff, decide_eq_false_iff_not] at hw
  omega
theorem noWin_mem {c : Nat} {w : Nat × Nat} : ∀ {ws : List (Nat × Nat)}, noWin c ws = true → w ∈ ws → inWin c w = false
  | _ :: ws, h, hm => by
    simp only [noWin, Bool.and_eq_true, Bool.not_eq_true'] at h
    rcases List.mem_cons.1 hm with rfl | hm
    · exact h.1
    · exact noWin_mem h.2 hm
theorem allStill_of {st : List (Nat × Hp)} : ∀ {rds : List Rd}, (∀ r, r ∈ rds → stillAll r st = true) → allStill st rds = true
  | [], _ => rfl
  | r :: _rds, h => allStill_cons.2 ⟨h r (List.mem_cons_self ..), allStill_of fun r' hr => h r' (List.mem_cons_of_mem _ hr)⟩
variable {ψ ψ' : Nat → Option Nat} {S S' : Nat → Prop} {h h' : Hp} {fr : FrD} {fv : Fr} {cs : List (Nat × List Nat)} {ws : List (Nat × Nat)} {nx : Nat} {pst : List (Nat × HpD)} {st : List (Nat × Hp)} {rds : List Rd}
theorem elem_tail {t u : Nat} {dl : List Nat} (h : (u :: dl).elem t = false) : dl.elem t = false := by
  simp only [List.elem_eq_mem, decide_eq_false_iff_not, List.mem_cons, not_or] at h ⊢
  exact h.2
theorem lk_put {d : Option Nat} {x : D} {t : Nat} (ht : d ≠ some t) : lk (putD fr d x) t = lk fr t := by
  cases d with
  | none => rfl
  | some u =>
    simp only [putD, lk]
    rw [show Nat.beq u t = false from by rw [nbeq_d]; exact decide_eq_false fun e => ht (by rw [e])]
    rfl
theorem ev_putO {d : Option Nat} {v : V} {t : Nat} (ht : d ≠ some t) : ev (putO fv d v) (.tmp t) = ev fv (.tmp t) := by
  cases d with
  | none => rfl
  | some u => simp only [ev_put]; rw [if_neg fun e => ht (by rw [e])]
theorem Past.up (x0 : Ex h ψ S h' ψ' S') {d : Option Nat} {x : D} {v : V} : ∀ {cs : List (Nat × List Nat)} {st : List (Nat × Hp)} {pst : List (Nat × HpD)}, Past ψ S h fr fv cs st pst → Past ψ' S' h' (putD fr d x) (putO fv d v) (dirtyN d cs) st pst
  | [], [], [], _ => trivial
  | (c, dl) :: cs, (c', hc) :: st, (c'', Hc) :: pst, k => by
    obtain ⟨e1, e2, ⟨ψc, Sc, s, x1, kt⟩, k⟩ := k
    refine ⟨e1, e2, ⟨ψc, Sc, s, x1.trans x0, fun t ht => ?_⟩, Past.up x0 k⟩
    have hd : d ≠ some t := by
      rintro rfl
      simp at ht
    rw [lk_put hd, ev_putO hd]
    refine kt t ?_
    cases d with
    | none => exact ht
    | some u => exact elem_tail ht
  | [], _ :: _, _, k => k.elim
  | [], [], _ :: _, k => k.elim
  | _ :: _, [], _, k => k.elim
  | _ :: _, _ :: _, [], k => k.elim
def dim (dl : List Nat) : FrD → FrD
  | [] => []
  | (t, d) :: fr => (t, bif dl.elem t then .any else d) :: dim dl fr
theorem lk_dim {dl : List Nat} {t : Nat} : ∀ {fr : FrD}, lk (dim dl fr) t = bif dl.elem t then .any else lk fr t
  | [] => by simp [dim, lk]
  | (u, d) :: fr => by
    simp only [dim, lk]
    by_cases e : u = t
    · subst e; rw [show Nat.beq u u = true from nbeq.2 rfl]; rfl
    · rw [show Nat.beq u t = false from by rw [nbeq_d]; exact decide_eq_false e]
      exact lk_dim
theorem evD_congr {fr fr' : FrD} : ∀ {x : Opd}, (∀ t, t ∈ tmpO x → lk fr t = lk fr' t) → evD fr x = evD fr' x
  | .tmp t, k => k t (List.mem_singleton.2 rfl)
  | .val _, _ => rfl
theorem evsD_congr {fr fr' : FrD} : ∀ {l : List Opd}, (∀ t, t ∈ tmpsL l → lk fr t = lk fr' t) → evsD fr l = evsD fr' l
  | [], _ => rfl
  | x :: l, k => by
    simp only [evsD, tmpsL, List.mem_append] at k ⊢
    rw [evD_congr fun t ht => k t (.inl ht), evsD_congr fun t ht => k t (.inr ht)]
theorem evoD_congr {fr fr' : FrD} : ∀ {x : Option Opd}, (∀ t, t ∈ tmpOo x → lk fr t = lk fr' t) → evoD fr x = evoD fr' x
  | none, _ => rfl
  | some x, k => by simp only [evoD]; rw [evD_congr k]
theorem evPartsD_congr {fr fr' : FrD} : ∀ {l : List (Nat × Nat × Opd)}, (∀ t, t ∈ tmpsP l → lk fr t = lk fr' t) → evPartsD fr l = evPartsD fr' l
  | [], _ => rfl
  | (o, n, x) :: l, k => by
    simp only [evPartsD, tmpsP, List.mem_append] at k ⊢
    rw [evD_congr fun t ht => k t (.inl ht), evPartsD_congr fun t ht => k t (.inr ht)]
theorem pD_congr {env : Env} {fr fr' : FrD} {o : POp} (k : ∀ t, t ∈ o.tmps → lk fr t = lk fr' t) : pD env fr o = pD env fr' o := by
  cases o <;> simp only [POp.tmps, List.mem_append] at k <;> simp only [pD]
  case mov x => rw [evD_congr k]
  case pick c a b => rw [evD_congr (x := c) fun t ht => k t (.inl ht), evD_congr (x := a) fun t ht => k t (.inr (.inl ht)), evD_congr (x := b) fun t ht => k t (.inr (.inr ht))]
  case build z ps => rw [evPartsD_congr k]
  case nilchk x => rw [evD_congr k]
  case bin op x y => rw [evD_congr (x := x) fun t ht => k t (.inl ht), evD_congr (x := y) fun t ht => k t (.inr ht)]
  case eq ty n x y => rw [evD_congr (x := x) fun t ht => k t (.inl ht), evD_congr (x := y) fun t ht => k t (.inr ht)]
  case eqi l n x y => rw [evD_congr (x := x) fun t ht => k t (.inl ht), evD_congr (x := y) fun t ht => k t (.inr ht)]
  case neg x => rw [evD_congr k]
  case not x => rw [evD_congr k]
  case compl x => rw [evD_congr k]
  case conv c x => rw [evD_congr k]
  case mkiface t x => rw [evD_congr k]
  case mkfunc f a b => rw [evsD_congr (l := a) fun t ht => k t (.inl ht), evsD_congr (l := b) fun t ht => k t (.inr ht)]
  case slc n x a b c => rw [evD_congr (x := x) fun t ht => k t (.inl ht), evoD_congr (x := a) fun t ht => k t (.inr (.inl ht)), evoD_congr (x := b) fun t ht => k t (.inr (.inr (.inl ht))), evoD_congr (x := c) fun t ht => k t (.inr (.inr (.inr ht)))]
  case sls x a b => rw [evD_congr (x := x) fun t ht => k t (.inl ht), evoD_congr (x := a) fun t ht => k t (.inr (.inl ht)), evoD_congr (x := b) fun t ht => k t (.inr (.inr ht))]
  case sla n s x a b c => rw [evD_congr (x := x) fun t ht => k t (.inl ht), evoD_congr (x := a) fun t ht => k t (.inr (.inl ht)), evoD_congr (x := b) fun t ht => k t (.inr (.inr (.inl ht))), evoD_congr (x := c) fun t ht => k t (.inr (.inr (.inr ht)))]
  case faddr n x => rw [evD_congr k]
  case field1 n x => rw [evD_congr k]
  case fieldn n m x => rw [evD_congr k]
  case iaddr n x i => rw [evD_congr (x := x) fun t ht => k t (.inl ht), evD_congr (x := i) fun t ht => k t (.inr ht)]
  case iaddra n m x i => rw [evD_congr (x := x) fun t ht => k t (.inl ht), evD_congr (x := i) fun t ht => k t (.inr ht)]
  case idxs x i => rw [evD_congr (x := x) fun t ht => k t (.inl ht), evD_congr (x := i) fun t ht => k t (.inr ht)]
  case idx1 n x i => rw [evD_congr (x := x) fun t ht => k t (.inl ht), evD_congr (x := i) fun t ht => k t (.inr ht)]
  case idxn n m x i => rw [evD_congr (x := x) fun t ht => k t (.inl ht), evD_congr (x := i) fun t ht => k t (.inr ht)]
  case ext x i => rw [evD_congr k]
  case lens x => rw [evD_congr k]
  case lenb x => rw [evD_congr k]
  case caps x => rw [evD_congr k]
  case min l => rw [evsD_congr k]
  case max l => rw [evsD_congr k]
theorem Past.pure {env : Env} {d : Option Nat} {o : POp} {x : D} {v : V} (e : pD env fr o = some x) (ev1 : pV env fv o = some v) :
    ∀ {cs : List (Nat × List Nat)} {st : List (Nat × Hp)} {pst : List (Nat × HpD)}, Past ψ S h fr fv cs st pst → Past ψ S h (putD fr d x) (putO fv d v) (dirtyP d o cs) st pst
  | [], [], [], _ => trivial
  | (c, dl) :: cs, (c', hc) :: st, (c'', Hc) :: pst, k => by
    obtain ⟨e1, e2, ⟨ψc, Sc, s, x1, kt⟩, k⟩ := k
    refine ⟨e1, e2, ⟨ψc, Sc, s, x1, fun t ht => ?_⟩, Past.pure e ev1 k⟩
    cases d with
    | none => exact kt t ht
    | some u =>
      simp only at ht
      by_cases hut : u = t
      · subst hut
        simp only [putD, lk, ev_put, if_true, show Nat.beq u u = true from nbeq.2 rfl, cond_true]
        unfold dirtyL at ht
        cases hall : o.tmps.all (fun u => !dl.elem u) with
        | false => rw [hall] at ht; simp at ht
        | true =>
          rw [List.all_eq_true] at hall
          have kc : FrR hc ψc Sc (dim dl fr) fv := by
            intro w
            rw [lk_dim]
            cases hw : dl.elem w with
            | true => simp [VD]
            | false => exact kt w hw
          have hpd : pD env (dim dl fr) o = some x := by
            rw [← e]
            refine pD_congr fun w hw => ?_
            have := hall w hw
            rw [lk_dim]
            cases h1 : dl.elem w with
            | true => rw [h1] at this; cases this
            | false => rfl
          obtain ⟨v', e', kv⟩ := pD_ok kc hpd
          rw [ev1] at e'
          cases e'
          exact kv
      · have hd : (some u : Option Nat) ≠ some t := fun e => hut (by cases e; rfl)
        rw [lk_put hd, ev_putO hd]
        refine kt t ?_
        unfold dirtyL at ht
        cases hall : o.tmps.all (fun u => !dl.elem u) with
        | false => rw [hall] at ht; exact elem_tail ht
        | true =>
          rw [hall] at ht
          simp only [cond_true, List.elem_eq_mem, decide_eq_false_iff_not, List.mem_filter, not_and] at ht ⊢
          intro hm
          have := ht hm
          rw [show Nat.beq t u = false from by rw [nbeq_d]; exact decide_eq_false (Ne.symm hut)] at this
          simp at this
  | [], _ :: _, _, k => k.elim
  | [], [], _ :: _, k => k.elim
  | _ :: _, [], _, k => k.elim
  | _ :: _, _ :: _, [], k => k.elim
theorem Past.all {d : Option Nat} {o : POp} {x : D} {v : V} (kx : ∀ ψ S h, VD h ψ S x v) : ∀ {cs : List (Nat × List Nat)} {st : List (Nat × Hp)} {pst : List (Nat × HpD)}, Past ψ S h fr fv cs st pst → Past ψ S h (putD fr d x) (putO fv d v) (dirtyP d o cs) st pst
  | [], [], [], _ => trivial
  | (c, dl) :: cs, (c', hc) :: st, (c'', Hc) :: pst, k => by
    obtain ⟨e1, e2, ⟨ψc, Sc, s, x1, kt⟩, k⟩ := k
    refine ⟨e1, e2, ⟨ψc, Sc, s, x1, fun t ht => ?_⟩, Past.all kx k⟩
    cases d with
    | none => exact kt t ht
    | some u =>
      simp only at ht
      by_cases hut : u = t
      · subst hut
        simp only [putD, lk, ev_put, if_true, show Nat.beq u u = true from nbeq.2 rfl, cond_true]
        exact kx _ _ _
      · have hd : (some u : Option Nat) ≠ some t := fun e => hut (by cases e; rfl)
        rw [lk_put hd, ev_putO hd]
        refine kt t ?_
        unfold dirtyL at ht
        cases hall : o.tmps.all (fun u => !dl.elem u) with
        | false => rw [hall] at ht; exact elem_tail ht
        | true =>
          rw [hall] at ht
          simp only [cond_true, List.elem_eq_mem, decide_eq_false_iff_not, List.mem_filter, not_and] at ht ⊢
          intro hm
          have := ht hm
          rw [show Nat.beq t u = false from by rw [nbeq_d]; exact decide_eq_false (Ne.symm hut)] at this
          simp at this
  | [], _ :: _, _, k => k.elim
  | [], [], _ :: _, k => k.elim
  | _ :: _, [], _, k => k.elim
  | _ :: _, _ :: _, [], k => k.elim
theorem DI.pure (di : DI ψ S h fr fv cs ws nx pst st rds) {env : Env} {d : Option Nat} {o : POp} {x : D} {v : V} (e : pD env fr o = some x) (ev1 : pV env fv o = some v) : DI ψ S h (putD fr d x) (putO fv d v) (dirtyP d o cs) ws nx pst st rds :=
  ⟨di.past.pure e ev1, di.rds, di.last, di.ne⟩
theorem DI.tup (di : DI ψ S h fr fv cs ws nx pst st rds) {d : Option Nat} {o : POp} : DI ψ S h (putD fr d (.tup [])) (putO fv d (.tup [])) (dirtyP d o cs) ws nx pst st rds :=
  ⟨di.past.all fun _ _ _ => by simp [VD, VDl], di.rds, di.last, di.ne⟩
theorem DI.bool (di : DI ψ S h fr fv cs ws nx pst st rds) {d : Option Nat} {o : POp} {b : Bool} : DI ψ S h (putD fr d (.lit (.bool b))) (putO fv d (.bool b)) (dirtyP d o cs) ws nx pst st rds :=
  ⟨di.past.all fun _ _ _ => by simp [VD, atomV], di.rds, di.last, di.ne⟩
theorem DI.load (di : DI ψ S h fr fv cs ws nx pst st rds) {d : Option Nat} {x : D} {v : V} : DI ψ S h (putD fr d x) (putO fv d v) (dirtyN d cs) ws nx pst st rds :=
  ⟨di.past.up .refl, di.rds, di.last, di.ne⟩
theorem DI.alloc (di : DI ψ S h fr fv cs ws nx pst st rds) (x0 : Ex h ψ S h' ψ' S') (hk : ∀ x, x < h.next → h'.blk x = h.blk x) (hψ : ∀ b x, ψ' b = some x → b < nx → ψ b = some x) (hS : ∀ x, S' x → S x) (hle : h.next ≤ h'.next) {d : Option Nat} {x : D} {v : V} : DI ψ' S' h' (putD fr d x) (putO fv d v) (dirtyN d cs) ws nx pst st rds :=
  ⟨di.past.up x0, di.rds, fun c hc st' e => by
    obtain ⟨a, b, d, g⟩ := di.last c hc st' e
    exact ⟨fun x hx => (hk x (Nat.lt_of_lt_of_le hx g)).trans (a x hx), fun b' x hb hl => b b' x (hψ b' x hb hl) hl, fun x hx => d x (hS x hx), Nat.le_trans g hle⟩, di.ne⟩
theorem DI.stage {i : Nat} {H' : HpD} (di : DI ψ S h fr fv cs ws nx pst st rds) (hw : noWin (i + 1) ws = true) (x0 : Ex h ψ S h' ψ' S') (s : SR ψ' S' H' h') {d : Option Nat} {x : D} {v : V} (kf : FrR h' ψ' S' (putD fr d x) (putO fv d v)) :
    DI ψ' S' h' (putD fr d x) (putO fv d v) ((i + 1, []) :: dirtyN d cs) ws H'.next ((i + 1, H') :: pst) ((i + 1, h') :: st) rds :=
  ⟨⟨rfl, rfl, ⟨ψ', S', s, .refl, fun t _ => kf t⟩, di.past.up x0⟩, fun r hr => ⟨(di.rds r hr).1, stillAll_add (noWin_mem hw (di.rds r hr).1) (di.rds r hr).2⟩, fun c hc st' e => by
    cases e
    exact ⟨fun _ _ => rfl, fun b x hb _ => (s.dom b x hb).2, s.frz, Nat.le_refl _⟩, by simp⟩
mutual
theorem rigid_eq {h : Hp} {ψ : Nat → Option Nat} {S : Nat → Prop} : ∀ (d : D) {u v : V}, rigid d = true → VD h ψ S d u → VD h ψ S d v → u = v
  | .lit _, _, _, _, a, b => by simp only [VD] at a b; rw [a.1, b.1]
  | .ptr _ _, _, _, _, a, b => by
    simp only [VD] at a b; obtain ⟨c, e, rfl⟩ := a; obtain ⟨c', e', rfl⟩ := b; rw [e] at e'; cases e'; rfl
  | .slice _ _ _ _ _ _, _, _, _, a, b => by
    simp only [VD] at a b; obtain ⟨c, e, rfl⟩ := a; obtain ⟨c', e', rfl⟩ := b; rw [e] at e'; cases e'; rfl
  | .map _, _, _, _, a, b => by
    simp only [VD] at a b; obtain ⟨c, e, rfl⟩ := a; obtain ⟨c', e', rfl⟩ := b; rw [e] at e'; cases e'; rfl
  | .agg l, _, _, r, a, b => by
    simp only [rigid] at r
    simp only [VD] at a b; obtain ⟨c, rfl, a⟩ := a; obtain ⟨c', rfl, b⟩ := b; rw [rigids_eq l r a b]
  | .tup l, _, _, r, a, b => by
    simp only [rigid] at r
    simp only [VD] at a b; obtain ⟨c, rfl, a⟩ := a; obtain ⟨c', rfl, b⟩ := b; rw [rigids_eq l r a b]
  | .func f x y, _, _, r, a, b => by
    simp only [rigid, Bool.and_eq_true] at r
    simp only [VD] at a b; obtain ⟨c, d, rfl, a1, a2⟩ := a; obtain ⟨c', d', rfl, b1, b2⟩ := b; rw [rigids_eq x r.1 a1 b1, rigids_eq y r.2 a2 b2]
  | .iface t d, _, _, r, a, b => by
    simp only [rigid] at r
    simp only [VD] at a b; obtain ⟨c, rfl, a⟩ := a; obtain ⟨c', rfl, b⟩ := b; rw [rigid_eq d r a b]
  | .any, _, _, r, _, _ | .rptr _ _, _, _, r, _, _ | .row _ _ _, _, _, r, _, _ => by simp [rigid] at r
theorem rigids_eq {h : Hp} {ψ : Nat → Option Nat} {S : Nat → Prop} : ∀ (l : List D) {us vs : List V}, rigids l = true → VDl h ψ S l us → VDl h ψ S l vs → us = vs
  | [], _, _, _, a, b => by simp only [VDl] at a b; rw [a, b]
  | d :: l, _, _, r, a, b => by
    simp only [rigids, Bool.and_eq_true] at r
    simp only [VDl] at a b
    obtain ⟨v, x, rfl, a1, a2⟩ := a
    obtain ⟨v', x', rfl, b1, b2⟩ := b
    rw [rigid_eq d r.1 a1 b1, rigids_eq l r.2 a2 b2]
end
theorem DI.read {lo hi b o : Nat} {l : List V} (di : DI ψ S h fr fv cs ws nx pst st rds) (hr : h.read b o l.length = some l) (hb : ∀ c hc st', st = (c, hc) :: st' → b < hc.next) (ht : stillAll ⟨lo, hi, b, o, l⟩ st.tail = true) : DI ψ S h fr fv cs ((lo, hi) :: ws) nx pst st (⟨lo, hi, b, o, l⟩ :: rds) :=
  ⟨di.past, fun r hr' => by
    rcases List.mem_cons.1 hr' with rfl | hr'
    · refine ⟨List.mem_cons_self .., ?_⟩
      cases st with
      | nil => exact absurd rfl di.ne
      | cons q st' =>
        obtain ⟨c, hc⟩ := q
        obtain ⟨a, _⟩ := di.last c hc st' rfl
        rw [stillAll_cons]
        refine ⟨fun _ _ => ?_, ht⟩
        simp only [stillAt]
        have : hc.read b o l.length = some l := by
          rw [← hr]; unfold Hp.read; rw [a b (hb c hc st' rfl)]
        rw [this]
        exact sames_self l
    · exact ⟨List.mem_cons_of_mem _ (di.rds r hr').1, (di.rds r hr').2⟩, di.last, di.ne⟩
theorem DI.unread {lo hi : Nat} (di : DI ψ S h fr fv cs ws nx pst st rds) : DI ψ S h fr fv cs ((lo, hi) :: ws) nx pst st rds :=
  ⟨di.past, fun r hr => ⟨List.mem_cons_of_mem _ (di.rds r hr).1, (di.rds r hr).2⟩, di.last, di.ne⟩
theorem still_past {lo hi b o : Nat} {l : List V} {x : Opd} {y : D} {ld : HpD → Option D} (hl : h.read b o l.length = some l)
    (hptr : ∀ c k, evD fr x = .ptr c k → ∀ {ψc : Nat → Option Nat} {Sc : Nat → Prop} {Hc : HpD} {hc : Hp}, SR ψc Sc Hc hc → Ex hc ψc Sc h ψ S → VD hc ψc Sc (.ptr c k) (.ptr b o) → rigid y = true → ld Hc = some y → hc.read b o l.length = some l)
    (hk : (∃ c k, evD fr x = .ptr c k) ∨ ∃ c k, evD fr x = .rptr c k) (hv : ev fv x = .ptr b o) :
    ∀ {cs : List (Nat × List Nat)} {st : List (Nat × Hp)} {pst : List (Nat × HpD)}, Past ψ S h fr fv cs st pst → cleanAll (lo, hi) (tmpO x) cs = true → (∀ c k, evD fr x = .ptr c k → stillP lo hi ld y pst) → stillAll ⟨lo, hi, b, o, l⟩ st = true
  | [], [], [], _, _, _ => rfl
  | (c, dl) :: cs, (c', hc) :: st, (c'', Hc) :: pst, k, hcl, hst => by
    obtain ⟨rfl, rfl, ⟨ψc, Sc, s, x1, kt⟩, k⟩ := k
    simp only [cleanAll, Bool.and_eq_true] at hcl
    rw [stillAll_cons]
    refine ⟨fun h1 h2 => ?_, still_past hl hptr hk hv k hcl.2 fun a b e => (hst a b e).2⟩
    have hw : inWin c'' (lo, hi) = true := by simp only [inWin, nble_d, Bool.and_eq_true, decide_eq_true_eq]; exact ⟨h1, h2⟩
    have hcl1 := hcl.1
    rw [hw] at hcl1
    simp only [Bool.not_true, Bool.false_or, List.all_eq_true] at hcl1
    have hvd : VD hc ψc Sc (evD fr x) (ev fv x) := by
      cases x with
      | val w => exact dV_ok w
      | tmp t =>
        refine kt t ?_
        have := hcl1 t (List.mem_singleton.2 rfl)
        cases e : dl.elem t with
        | true => rw [e] at this; cases this
        | false => rfl
    rw [hv] at hvd
    have hrd : hc.read b o l.length = some l := by
      rcases hk with ⟨a, k', e⟩ | ⟨a, k', e⟩
      · rw [e] at hvd
        obtain ⟨hr, hld⟩ := (hst a k' e).1 hw
        exact hptr a k' e s x1 hvd hr hld
      · rw [e] at hvd
        simp only [VD] at hvd
        obtain ⟨c2, o2, cs2, ro, hS, e2, _, _⟩ := hvd
        have : b = c2 := by injection e2
        subst this
        rw [← hl]
        unfold Hp.read
        rw [(x1.frz b hS).2]
    simp only [stillAt, hrd]
    exact sames_self l
  | [], _ :: _, _, k, _, _ => k.elim
  | [], [], _ :: _, k, _, _ => k.elim
  | _ :: _, [], _, k, _, _ => k.elim
  | _ :: _, _ :: _, [], k, _, _ => k.elim
theorem Past.tail : ∀ {cs : List (Nat × List Nat)} {st : List (Nat × Hp)} {pst : List (Nat × HpD)}, Past ψ S h fr fv cs st pst → Past ψ S h fr fv cs.tail st.tail pst.tail
  | [], [], [], k => k
  | _ :: _, _ :: _, _ :: _, k => k.2.2.2
  | [], _ :: _, _, k => k.elim
  | [], [], _ :: _, k => k.elim
  | _ :: _, [], _, k => k.elim
  | _ :: _, _ :: _, [], k => k.elim
end
end Go.Dv
end

section
namespace Go.Dv
open Go.Vm
section
variable {p : Prog} {ext : Ext} {Q : ResD → Prop}
theorem os_step {ψ ψ' : Nat → Option Nat} {S S' : Nat → Prop} {h h' : Hp} {fr : FrD} {fv : Fr} {H' : HpD} {d : Option Nat} {x : D} {v : V} {l : List MO} {fz lv : List Nat} {K : List KD} {P : Res → Prop}
    (hs : Sem p ext Q (.ops l fz lv K .mk (putD fr d x) H')) (hK : okK K = true) (x0 : Ex h ψ S h' ψ' S') (s' : SR ψ' S' H' h') (k : FrR h ψ S fr fv) (kv : VD h' ψ' S' x v) (hP : ∀ r, Post ψ S h Q r → P r) :
    OS p ext l (eraseK K) (putO fv d v) h' P := hs hK ψ' S' h' _ P s' ((k.mono x0).put kv d) fun r hr => hP r (hr.up x0)
theorem sem_op {d : Option Nat} {o : EOp} {l : List MO} {fz lv : List Nat} {K : List KD} {fr : FrD} {H : HpD} {k : D → HpD → Cfg} (hk : ∀ x H', Sem p ext Q (k x H') → Sem p ext Q (.ops l fz lv K .mk (putD fr d x) H'))
    (hs : Sem p ext Q (optH (eD fr H o) k)) : Sem p ext Q (.ops (⟨d, .e o, none⟩ :: l) fz lv K .mk fr H) := by
  intro hK ψ S h fv P s kf hP
  obtain ⟨x, H', e, hs⟩ := sem_optH hs
  obtain ⟨u, h', e1, hc, ψ', S', x0, s', kv⟩ := eD_ok s kf e
  refine (OS.eff hc).2 ?_
  rw [e1]
  exact os_step (hk x H' hs) hK x0 s' kf kv hP
theorem ds_step {ψ ψ' : Nat → Option Nat} {S S' : Nat → Prop} {h h' : Hp} {fr : FrD} {fv : Fr} {H' : HpD} {d : Option Nat} {x : D} {v : V} {l : List DO} {lv : List Nat} {K : List KD} {i : Nat} {cs : List (Nat × List Nat)} {ws : List (Nat × Nat)} {nx : Nat} {pst : List (Nat × HpD)} {st : List (Nat × Hp)} {rds : List Rd} {P : Res → Prop}
    (hs : Sem p ext Q (.dops l lv K cs ws .mk i nx pst (putD fr d x) H')) (hK : okK K = true) (hd : drOk l i cs ws = true) (hn : nx ≤ H'.next) (x0 : Ex h ψ S h' ψ' S') (s' : SR ψ' S' H' h') (k : FrR h ψ S fr fv) (kv : VD h' ψ' S' x v) (di : DI ψ' S' h' (putD fr d x) (putO fv d v) cs ws nx pst st rds) (hP : ∀ r, Post ψ S h Q r → P r) :
    DS p ext l (eraseK K) i (putO fv d v) h' st rds P := hs hK hd hn ψ' S' h' _ st rds P s' ((k.mono x0).put kv d) di fun r hr => hP r (hr.up x0)
theorem sem_dop {d : Option Nat} {o : EOp} {lo hi : Nat} {l : List DO} {lv : List Nat} {K : List KD} {i : Nat} {cs : List (Nat × List Nat)} {ws : List (Nat × Nat)} {nx : Nat} {pst : List (Nat × HpD)} {fr : FrD} {H : HpD} {k : D → HpD → Cfg}
    (hk : ∀ x H', Sem p ext Q (k x H') → Sem p ext Q (.dops l lv K ((i + 1, []) :: dirtyN d cs) ws .mk (i + 1) H'.next ((i + 1, H') :: pst) (putD fr d x) H'))
    (hs : Sem p ext Q (optH (eD fr H o) k)) : Sem p ext Q (.dops (⟨⟨d, .e o, none⟩, lo, hi⟩ :: l) lv K cs ws .mk i nx pst fr H) := by
  intro hK hd _ ψ S h fv st rds P s kf di hP
  simp only [drOk, Bool.and_eq_true] at hd
  obtain ⟨x, H', e, hs⟩ := sem_optH hs
  obtain ⟨u, h', e1, hc, ψ', S', x0, s', kv⟩ := eD_ok s kf e
  refine (D.eff hc).2 ?_
  rw [e1]
  exact ds_step (hk x H' hs) hK hd.2 (Nat.le_refl _) x0 s' kf kv (di.stage hd.1 x0 s' ((kf.mono x0).put kv d)) hP
theorem vd_rptr {ψ : Nat → Option Nat} {S : Nat → Prop} {h : Hp} {l : List D} {k : Nat} {v : V} (kv : VD h ψ S (.rptr l k) v) : ∃ c o, S c ∧ v = .ptr c o := by
  simp only [VD] at kv
  obtain ⟨c, o, _, _, hs, rfl, _⟩ := kv
  exact ⟨c, _, hs, rfl⟩
theorem DI.old {ψ : Nat → Option Nat} {S : Nat → Prop} {h : Hp} {fr : FrD} {fv : Fr} {cs : List (Nat × List Nat)} {ws : List (Nat × Nat)} {nx : Nat} {pst : List (Nat × HpD)} {st : List (Nat × Hp)} {rds : List Rd} (di : DI ψ S h fr fv cs ws nx pst st rds) {d : D} {v : V} (k : VD h ψ S d v) (hb : ∀ b o, d = .ptr b o → b < nx) (hd : (∃ b o, d = .ptr b o) ∨ ∃ l o, d = .rptr l o) :
    ∃ b o, v = .ptr b o ∧ ∀ c hc st', st = (c, hc) :: st' → b < hc.next := by
  rcases hd with ⟨b, o, rfl⟩ | ⟨l, o, rfl⟩
  · simp only [VD] at k
    obtain ⟨c, e, rfl⟩ := k
    exact ⟨c, o, rfl, fun c' hc st' es => (di.last c' hc st' es).2.1 b c e (hb b o rfl)⟩
  · obtain ⟨c, o', hs, rfl⟩ := vd_rptr k
    exact ⟨c, o', rfl, fun c' hc st' es => (di.last c' hc st' es).2.2.1 c hs⟩
theorem loadD_kind {H : HpD} {x d : D} (e : loadD H x = some d) : (∃ b o, x = .ptr b o) ∨ ∃ l o, x = .rptr l o := by
  cases x <;> simp only [loadD] at e <;> first | (cases e; done) | skip
  · exact .inl ⟨_, _, rfl⟩
  · exact .inr ⟨_, _, rfl⟩
theorem loadnD_kind {H : HpD} {x d : D} {n : Nat} (e : loadnD H n x = some d) : (∃ b o, x = .ptr b o) ∨ ∃ l o, x = .rptr l o := by
  cases x <;> simp only [loadnD] at e <;> first | (cases e; done) | skip
  · exact .inl ⟨_, _, rfl⟩
  · exact .inr ⟨_, _, rfl⟩
theorem at1_read {h : Hp} {b o : Nat} {v : V} (e : cellAt (h.blk b) o = some v) : h.read b o [v].length = some [v] := by
  rw [← at1_eq] at e
  exact Hp.at1_iff.1 e
theorem loadnV_read {h : Hp} {b o n : Nat} {u : V} (e : loadnV h n (.ptr b o) = some u) : ∃ l, u = .agg l ∧ h.read b o n = some l ∧ l.length = n := by
  simp only [loadnV] at e
  cases hr : h.read b o n with
  | none => rw [hr] at e; cases e
  | some l =>
    rw [hr] at e
    cases e
    refine ⟨l, rfl, rfl, ?_⟩
    unfold Hp.read at hr
    split at hr
    · obtain ⟨a1, a2⟩ := takeX_eq hr
      rw [a1, List.length_take]; omega
    · cases hr
theorem sem_p {d : Option Nat} {o : POp} {l : List MO} {fz lv : List Nat} {K : List KD} {fr : FrD} {H : HpD} {k : D → Cfg} (hk : ∀ x, Sem p ext Q (k x) → Sem p ext Q (.ops l fz lv K .mk (putD fr d x) H))
    (hs : Sem p ext Q (optC (pD p.env fr o) k)) : Sem p ext Q (.ops (⟨d, .p o, none⟩ :: l) fz lv K .mk fr H) := by
  intro hK ψ S h fv P s kf hP
  obtain ⟨x, e, hs⟩ := sem_optC hs
  obtain ⟨v, e1, kv⟩ := pD_ok kf e
  refine OS.pure.2 ?_
  rw [e1]
  exact os_step (hk x hs) hK .refl s kf kv hP
theorem sem_p_nil {d : Option Nat} {neg : Bool} {a b : Opd} {l : List MO} {fz lv : List Nat} {K : List KD} {fr : FrD} {H : HpD} {k : Bool → Cfg} (hk : ∀ r, Sem p ext Q (k r) → Sem p ext Q (.ops l fz lv K .mk (putD fr d (.lit (.bool (cond neg (!r) r)))) H))
    (hs : Sem p ext Q (nilC (evD fr a) (evD fr b) k)) : Sem p ext Q (.ops (⟨d, .p (.eq .slice neg a b), none⟩ :: l) fz lv K .mk fr H) := by
  intro hK ψ S h fv P s kf hP
  obtain ⟨r, e, hs⟩ := sem_nilC (evD_ok kf a) (evD_ok kf b) hs
  refine OS.pure.2 ?_
  rw [pV_eq, eqP_some e]
  exact os_step (hk r hs) hK .refl s kf (by simp [VD, atomV]) hP
theorem sem_dp {d : Option Nat} {o : POp} {lo hi : Nat} {l : List DO} {lv : List Nat} {K : List KD} {i : Nat} {cs : List (Nat × List Nat)} {ws : List (Nat × Nat)} {nx : Nat} {pst : List (Nat × HpD)} {fr : FrD} {H : HpD} {k : D → Cfg}
    (hk : ∀ x, Sem p ext Q (k x) → Sem p ext Q (.dops l lv K (dirtyP d o cs) ws .mk (i + 1) nx pst (putD fr d x) H))
    (hs : Sem p ext Q (optC (pD p.env fr o) k)) : Sem p ext Q (.dops (⟨⟨d, .p o, none⟩, lo, hi⟩ :: l) lv K cs ws .mk i nx pst fr H) := by
  intro hK hd hn ψ S h fv st rds P s kf di hP
  obtain ⟨x, e, hs⟩ := sem_optC hs
  obtain ⟨v, e1, kv⟩ := pD_ok kf e
  refine D.pure.2 ?_
  rw [e1]
  exact ds_step (hk x hs) hK hd hn .refl s kf kv (di.pure e e1) hP
theorem sem_dp_nil {d : Option Nat} {neg : Bool} {a b : Opd} {lo hi : Nat} {l : List DO} {lv : List Nat} {K : List KD} {i : Nat} {cs : List (Nat × List Nat)} {ws : List (Nat × Nat)} {nx : Nat} {pst : List (Nat × HpD)} {fr : FrD} {H : HpD} {k : Bool → Cfg}
    (hk : ∀ r, Sem p ext Q (k r) → Sem p ext Q (.dops l lv K (dirtyP d (.eq .slice neg a b) cs) ws .mk (i + 1) nx pst (putD fr d (.lit (.bool (cond neg (!r) r)))) H))
    (hs : Sem p ext Q (nilC (evD fr a) (evD fr b) k)) : Sem p ext Q (.dops (⟨⟨d, .p (.eq .slice neg a b), none⟩, lo, hi⟩ :: l) lv K cs ws .mk i nx pst fr H) := by
  intro hK hd hn ψ S h fv st rds P s kf di hP
  obtain ⟨r, e, hs⟩ := sem_nilC (evD_ok kf a) (evD_ok kf b) hs
  refine D.pure.2 ?_
  rw [pV_eq, eqP_some e]
  exact ds_step (hk r hs) hK hd hn .refl s kf (by simp [VD, atomV]) di.bool hP
theorem sem_runI : ∀ (n : Nat) (c : Cfg), Sem p ext Q (runI p.env n c) → Sem p ext Q c := by
  intro n
  induction n with
  | zero => intro c hs; exact hs
  | succ n ih =>
    intro c hs
    match c with
    | .stuck => exact hs
    | .call f a d l fz lv K .mk fr H => exact hs
    | .dcall f a d l lv K cs ws .mk i pst fr H => exact hs
    | .code .skip K .mk fr H =>
      have hs := ih _ hs
      intro _ hK ψ S h fv P s kf hP
      exact WS.skip.2 (hs hK ψ S h fv P s kf hP)
    | .code (.region l fz lv) K .mk fr H =>
      have hs := ih _ hs
      intro _ hK ψ S h fv P s kf hP
      exact WS.region.2 (hs hK ψ S h fv P s kf hP)
    | .code (.dregion l lv) K .mk fr H =>
      have hs := ih _ hs
      intro hc hK ψ S h fv P s kf hP
      refine WS.dregion.2 (hs hK hc (Nat.le_refl _) ψ S h fv _ _ P s kf ⟨⟨rfl, rfl, ⟨ψ, S, s, .refl, fun t _ => kf t⟩, trivial⟩, fun r hr => (by cases hr), fun c hc st' e => ?_, by simp⟩ hP)
      cases e
      exact ⟨fun _ _ => rfl, fun b x hb _ => (s.dom b x hb).2, s.frz, Nat.le_refl _⟩
    | .code (.seq a b) K .mk fr H =>
      have hs := ih _ hs
      intro hc hK ψ S h fv P s kf hP
      simp only [KC.ok, Bool.and_eq_true] at hc
      exact WS.seq.2 (hs hc.1 (by simp only [okK, KD.ok, hc.2, hK]; rfl) ψ S h fv P s kf hP)
    | .code (.cond c a b) K .mk fr H =>
      have hs : Sem p ext Q (boolC (evD fr c) (runI p.env n (.code a K .mk fr H)) (runI p.env n (.code b K .mk fr H))) := hs
      intro hc hK ψ S h fv P s kf hP
      simp only [KC.ok, Bool.and_eq_true] at hc
      have ke := evD_ok kf c
      unfold boolC at hs
      split at hs
      case h_2 => exact hs.elim
      rename_i t ht
      rw [ht] at ke
      simp only [VD] at ke
      refine WS.cond.2 ?_
      rw [ke.1]
      cases t with
      | true => exact ih _ hs hc.1 hK ψ S h fv P s kf hP
      | false => exact ih _ hs hc.2 hK ψ S h fv P s kf hP
    | .code (.block id c) K .mk fr H =>
      have hs := ih _ hs
      intro hc hK ψ S h fv P s kf hP
      exact WS.block.2 (hs hc (by simp only [okK, KD.ok, hK]; rfl) ψ S h fv P s kf hP)
    | .code (.loop c) K .mk fr H => exact hs
    | .code (.exit id) K .mk fr H =>
      have hs := ih _ hs
      intro _ hK ψ S h fv P s kf hP
      exact WS.exit.2 (hs hK ψ S h fv P s kf hP)
    | .res (.exit id fr H) (.seq b :: K) .mk =>
      have hs := ih _ hs
      intro hK ψ S h fv P s kf hP
      exact RK.seq_exit.2 (hs (okK_cons hK).2 ψ S h fv P s kf hP)
    | .res (.exit id fr H) (.block id' :: K) .mk =>
      intro hK ψ S h fv P s kf hP
      have hs : Sem p ext Q (exitC (Nat.beq id id') (runI p.env n (.res (.ok fr H) K .mk)) (runI p.env n (.res (.exit id fr H) K .mk))) := hs
      by_cases e : id = id'
      · subst e
        rw [show Nat.beq id id = true from nbeq.2 rfl] at hs
        exact RK.block_same.2 (ih _ hs (okK_cons hK).2 ψ S h fv P s kf hP)
      · rw [show Nat.beq id id' = false from by rw [nbeq_d]; exact decide_eq_false e] at hs
        exact (RK.block_other e).2 (ih _ hs (okK_cons hK).2 ψ S h fv P s kf hP)
    | .code .ret K .mk fr H =>
      have hs : Sem p ext Q (.res (.ret fr H) [] .mk) := hs
      intro _ hK ψ S h fv P s kf hP
      exact WS.ret.2 (RK_ret (hs rfl ψ S h fv P s kf hP))
    | .res (.ok fr H) (.seq b :: K) .mk =>
      have hs := ih _ hs
      intro hK ψ S h fv P s kf hP
      obtain ⟨h1, h2⟩ := okK_cons hK
      exact RK.seq_ok.2 (hs h1 h2 ψ S h fv P s kf hP)
    | .res (.ok fr H) (.block id :: K) .mk =>
      have hs := ih _ hs
      intro hK ψ S h fv P s kf hP
      exact RK.block_ok.2 (hs (okK_cons hK).2 ψ S h fv P s kf hP)
    | .res (.ok fr H) [] .mk => exact hs
    | .res (.exit id fr H) [] .mk => exact hs
    | .res (.ret fr H) K .mk => exact hs
    | .ops [] fz lv K .mk fr H =>
      have hs := ih _ hs
      intro hK ψ S h fv P s kf hP
      exact OS.nil.2 (hs hK ψ S h fv P s (kf.keep lv) hP)
    | .ops (⟨d, o, some (t, w)⟩ :: l) fz lv K .mk fr H =>
      have hs : Sem p ext Q (gateC (lk fr t) w (runI p.env n (.ops (⟨d, o, none⟩ :: l) fz lv K .mk fr H)) (runI p.env n (.ops l fz lv K .mk (putD fr d (.tup [])) H))) := hs
      intro hK ψ S h fv P s kf hP
      have ke := kf t
      refine OS.guard.2 ?_
      unfold gateS
      rcases sem_gateC hs with ⟨t', e, h1, h2⟩ | ⟨⟨r, e⟩, h2⟩
      · rw [e] at ke
        simp only [VD] at ke
        rw [ke.1]
        refine ⟨fun e => ih _ (h1 e) hK ψ S h fv P s kf hP, fun e => ?_⟩
        exact ih _ (h2 e) hK ψ S h _ P s (kf.put (by simp [VD, VDl]) d) hP
      · rw [e] at ke
        simp only [VD] at ke
        obtain ⟨r', e', _⟩ := ke
        rw [e']
        exact ih _ h2 hK ψ S h _ P s (kf.put (by simp [VD, VDl]) d) hP
    | .ops (⟨d, .p (.eq .slice neg a b), none⟩ :: l) fz lv K .mk fr H => exact sem_p_nil (fun r => ih _) hs
    | .ops (⟨d, .p (.mov a), none⟩ :: l) fz lv K .mk fr H => exact sem_p (fun x => ih _) hs
    | .ops (⟨d, .p (.pick a b c), none⟩ :: l) fz lv K .mk fr H => exact sem_p (fun x => ih _) hs
    | .ops (⟨d, .p (.build a b), none⟩ :: l) fz lv K .mk fr H => exact sem_p (fun x => ih _) hs
    | .ops (⟨d, .p (.nilchk a), none⟩ :: l) fz lv K .mk fr H => exact sem_p (fun x => ih _) hs
    | .ops (⟨d, .p (.bin a b c), none⟩ :: l) fz lv K .mk fr H => exact sem_p (fun x => ih _) hs
    | .ops (⟨d, .p (.eq .bool a b c), none⟩ :: l) fz lv K .mk fr H => exact sem_p (fun x => ih _) hs
    | .ops (⟨d, .p (.eq .int a b c), none⟩ :: l) fz lv K .mk fr H => exact sem_p (fun x => ih _) hs
    | .ops (⟨d, .p (.eq .str a b c), none⟩ :: l) fz lv K .mk fr H => exact sem_p (fun x => ih _) hs
    | .ops (⟨d, .p (.eq .ptr a b c), none⟩ :: l) fz lv K .mk fr H => exact sem_p (fun x => ih _) hs
    | .ops (⟨d, .p (.eq .map a b c), none⟩ :: l) fz lv K .mk fr H => exact sem_p (fun x => ih _) hs
    | .ops (⟨d, .p (.eq .func a b c), none⟩ :: l) fz lv K .mk fr H => exact sem_p (fun x => ih _) hs
    | .ops (⟨d, .p (.eq .iface a b c), none⟩ :: l) fz lv K .mk fr H => exact sem_p (fun x => ih _) hs
    | .ops (⟨d, .p (.eq (.struct z) a b c), none⟩ :: l) fz lv K .mk fr H => exact sem_p (fun x => ih _) hs
    | .ops (⟨d, .p (.eqi a b c e), none⟩ :: l) fz lv K .mk fr H => exact sem_p (fun x => ih _) hs
    | .ops (⟨d, .p (.neg a), none⟩ :: l) fz lv K .mk fr H => exact sem_p (fun x => ih _) hs
    | .ops (⟨d, .p (.not a), none⟩ :: l) fz lv K .mk fr H => exact sem_p (fun x => ih _) hs
    | .ops (⟨d, .p (.compl a), none⟩ :: l) fz lv K .mk fr H => exact sem_p (fun x => ih _) hs
    | .ops (⟨d, .p (.conv a b), none⟩ :: l) fz lv K .mk fr H => exact sem_p (fun x => ih _) hs
    | .ops (⟨d, .p (.mkiface a b), none⟩ :: l) fz lv K .mk fr H => exact sem_p (fun x => ih _) hs
    | .ops (⟨d, .p (.mkfunc a b c), none⟩ :: l) fz lv K .mk fr H => exact sem_p (fun x => ih _) hs
    | .ops (⟨d, .p (.slc a b c e f), none⟩ :: l) fz lv K .mk fr H => exact sem_p (fun x => ih _) hs
    | .ops (⟨d, .p (.sls a b c), none⟩ :: l) fz lv K .mk fr H => exact sem_p (fun x => ih _) hs
    | .ops (⟨d, .p (.sla a b c e f g), none⟩ :: l) fz lv K .mk fr H => exact sem_p (fun x => ih _) hs
    | .ops (⟨d, .p (.faddr a b), none⟩ :: l) fz lv K .mk fr H => exact sem_p (fun x => ih _) hs
    | .ops (⟨d, .p (.field1 a b), none⟩ :: l) fz lv K .mk fr H => exact sem_p (fun x => ih _) hs
    | .ops (⟨d, .p (.fieldn a b c), none⟩ :: l) fz lv K .mk fr H => exact sem_p (fun x => ih _) hs
    | .ops (⟨d, .p (.iaddr a b c), none⟩ :: l) fz lv K .mk fr H => exact sem_p (fun x => ih _) hs
    | .ops (⟨d, .p (.iaddra a b c e), none⟩ :: l) fz lv K .mk fr H => exact sem_p (fun x => ih _) hs
    | .ops (⟨d, .p (.idxs a b), none⟩ :: l) fz lv K .mk fr H => exact sem_p (fun x => ih _) hs
    | .ops (⟨d, .p (.idx1 a b c), none⟩ :: l) fz lv K .mk fr H => exact sem_p (fun x => ih _) hs
    | .ops (⟨d, .p (.idxn a b c e), none⟩ :: l) fz lv K .mk fr H => exact sem_p (fun x => ih _) hs
    | .ops (⟨d, .p (.ext a b), none⟩ :: l) fz lv K .mk fr H => exact sem_p (fun x => ih _) hs
    | .ops (⟨d, .p (.lens a), none⟩ :: l) fz lv K .mk fr H => exact sem_p (fun x => ih _) hs
    | .ops (⟨d, .p (.lenb a), none⟩ :: l) fz lv K .mk fr H => exact sem_p (fun x => ih _) hs
    | .ops (⟨d, .p (.lena a), none⟩ :: l) fz lv K .mk fr H => exact sem_p (fun x => ih _) hs
    | .ops (⟨d, .p (.caps a), none⟩ :: l) fz lv K .mk fr H => exact sem_p (fun x => ih _) hs
    | .ops (⟨d, .p (.min a), none⟩ :: l) fz lv K .mk fr H => exact sem_p (fun x => ih _) hs
    | .ops (⟨d, .p (.max a), none⟩ :: l) fz lv K .mk fr H => exact sem_p (fun x => ih _) hs
    | .ops (⟨d, .a o, none⟩ :: l) fz lv K .mk fr H =>
      have hs : Sem p ext Q (optH (aD fr H (inL d fz) o) fun x H' => runI p.env n (.ops l fz lv K .mk (putD fr d x) H')) := hs
      intro hK ψ S h fv P s kf hP
      obtain ⟨x, H', e, hs⟩ := sem_optH hs
      obtain ⟨y, mk, e1, ψ', S', x0, s', kv⟩ := aD_ok s kf e
      refine OS.alloc.2 ?_
      rw [e1]
      exact os_step (ih _ hs) hK x0 s' kf kv hP
    | .ops (⟨d, .load1 x, none⟩ :: l) fz lv K .mk fr H =>
      have hs : Sem p ext Q (optC (loadD H (evD fr x)) fun x => runI p.env n (.ops l fz lv K .mk (putD fr d x) H)) := hs
      intro hK ψ S h fv P s kf hP
      obtain ⟨y, e, hs⟩ := sem_optC hs
      obtain ⟨v, e1, kv⟩ := loadD_ok s (evD_ok kf x) e
      refine OS.load1.2 ?_
      rw [e1]
      exact os_step (ih _ hs) hK .refl s kf kv hP
    | .ops (⟨d, .loadn m x, none⟩ :: l) fz lv K .mk fr H =>
      have hs : Sem p ext Q (optC (loadnD H m (evD fr x)) fun x => runI p.env n (.ops l fz lv K .mk (putD fr d x) H)) := hs
      intro hK ψ S h fv P s kf hP
      obtain ⟨y, e, hs⟩ := sem_optC hs
      obtain ⟨v, e1, kv⟩ := loadnD_ok s (evD_ok kf x) e
      refine OS.loadn.2 ?_
      rw [e1]
      exact os_step (ih _ hs) hK .refl s kf kv hP
    | .ops (⟨d, .e (.call f a), none⟩ :: l) fz lv K .mk fr H =>
      have hs : Sem p ext Q (.call f (evsD fr a) d l fz lv K .mk fr H) := hs
      intro hK ψ S h fv P s kf hP
      exact OS.call.2 (hs hK ψ S h fv _ P s kf (evsD_ok kf a) hP)
    | .ops (⟨d, .e (.extern f a), none⟩ :: l) fz lv K .mk fr H =>
      have hs : Sem p ext Q (.call f (evsD fr a) d l fz lv K .mk fr H) := hs
      intro hK ψ S h fv P s kf hP
      exact OS.extern.2 (hs hK ψ S h fv _ P s kf (evsD_ok kf a) hP)
    | .ops (⟨d, .e (.callv x a), none⟩ :: l) fz lv K .mk fr H =>
      have hs : Sem p ext Q (funC (evD fr x) fun f fi ca => .call f (fi ++ evsD fr a ++ ca) d l fz lv K .mk fr H) := hs
      intro hK ψ S h fv P s kf hP
      obtain ⟨f, fi, ca, e, hs⟩ := sem_funC hs
      have ke := evD_ok kf x
      rw [e] at ke
      simp only [VD] at ke
      obtain ⟨fi', ca', e1, k1, k2⟩ := ke
      refine OS.callv.2 ?_
      rw [e1]
      exact hs hK ψ S h fv _ P s kf (VDl.append (VDl.append k1 (evsD_ok kf a)) k2) hP
    | .ops (⟨d, .e (.store sz a x), none⟩ :: l) fz lv K .mk fr H => exact sem_op (fun x H' => ih _) hs
    | .ops (⟨d, .e (.append sz b a x), none⟩ :: l) fz lv K .mk fr H => exact sem_op (fun x H' => ih _) hs
    | .ops (⟨d, .e (.appendz z sz b a x), none⟩ :: l) fz lv K .mk fr H => exact sem_op (fun x H' => ih _) hs
    | .ops (⟨d, .e (.copy sz a x), none⟩ :: l) fz lv K .mk fr H => exact sem_op (fun x H' => ih _) hs
    | .ops (⟨d, .e (.clear z x), none⟩ :: l) fz lv K .mk fr H => exact sem_op (fun x H' => ih _) hs
    | .ops (⟨d, .e (.text x), none⟩ :: l) fz lv K .mk fr H => exact sem_op (fun x H' => ih _) hs
    | .ops (⟨d, .e (.lookup sk z ok m k), none⟩ :: l) fz lv K .mk fr H => exact sem_op (fun x H' => ih _) hs
    | .ops (⟨d, .e (.mapput sk m k v), none⟩ :: l) fz lv K .mk fr H => exact sem_op (fun x H' => ih _) hs
    | .ops (⟨d, .e (.delete sk m k), none⟩ :: l) fz lv K .mk fr H => exact sem_op (fun x H' => ih _) hs
    | .ops (⟨d, .e (.lenm x), none⟩ :: l) fz lv K .mk fr H => exact sem_op (fun x H' => ih _) hs
    | .ops (⟨d, .e (.mark x), none⟩ :: l) fz lv K .mk fr H => exact sem_op (fun x H' => ih _) hs
    | .ops (⟨d, .e .stop, none⟩ :: l) fz lv K .mk fr H => exact sem_op (fun x H' => ih _) hs
    | .both P0 a b =>
      have hs : (P0 → Sem p ext Q (runI p.env n a)) ∧ Sem p ext Q (runI p.env n b) := hs
      exact ⟨fun h => ih _ (hs.1 h), ih _ hs.2⟩
    | .need P0 c =>
      have hs : P0 ∧ Sem p ext Q (runI p.env n c) := hs
      exact ⟨hs.1, ih _ hs.2⟩
    | .dops [] lv K cs ws .mk i nx pst fr H =>
      have hs := ih _ hs
      intro hK _ _ ψ S h fv st rds P s kf di hP
      exact DS.nil.2 ⟨allStill_of fun r hr => (di.rds r hr).2, hs hK ψ S h fv P s (kf.keep lv) hP⟩
    | .dops (⟨⟨d, o, some (t, w)⟩, lo, hi⟩ :: l) lv K cs ws .mk i nx pst fr H =>
      have hs : Sem p ext Q (gateC (lk fr t) w (runI p.env n (.dops (⟨⟨d, o, none⟩, lo, hi⟩ :: l) lv K cs ws .mk i nx pst fr H))
        (runI p.env n (.dops l lv K (dirtyO d o i cs) (addWin o lo hi ws) .mk (i + 1) (bif isE o then H.next else nx) (bif isE o then (i + 1, H) :: pst else pst) (putD fr d (.tup [])) H))) := hs
      intro hK hd hn ψ S h fv st rds P s kf di hP
      have ke := kf t
      refine D.guard.2 ?_
      have yes : Sem p ext Q (runI p.env n (.dops (⟨⟨d, o, none⟩, lo, hi⟩ :: l) lv K cs ws .mk i nx pst fr H)) → WPd p ext (⟨⟨d, o, none⟩, lo, hi⟩ :: l) i fv h st rds fun fr h => RK p ext (eraseK K) (.ok fr h) P := fun hs =>
        ih _ hs hK hd hn ψ S h fv st rds P s kf di hP
      have no : Sem p ext Q (runI p.env n (.dops l lv K (dirtyO d o i cs) (addWin o lo hi ws) .mk (i + 1) (bif isE o then H.next else nx) (bif isE o then (i + 1, H) :: pst else pst) (putD fr d (.tup [])) H)) →
          WPd p ext l (i + 1) (putO fv d (.tup [])) h (stAdd (isE o) i h st) rds fun fr h => RK p ext (eraseK K) (.ok fr h) P := fun hs => by
        have hs := ih _ hs
        have kf' := kf.put (d := .tup []) (v := .tup []) (by simp [VD, VDl]) d
        cases o with
        | p o => exact hs hK hd hn ψ S h _ st rds P s kf' di.tup hP
        | a o => exact hs hK hd hn ψ S h _ st rds P s kf' di.load hP
        | load1 x =>
          simp only [drOk, Bool.and_eq_true] at hd
          exact hs hK hd.2 hn ψ S h _ st rds P s kf' di.load.unread hP
        | loadn m x =>
          simp only [drOk, Bool.and_eq_true] at hd
          exact hs hK hd.2 hn ψ S h _ st rds P s kf' di.load.unread hP
        | e o =>
          simp only [drOk, Bool.and_eq_true] at hd
          exact hs hK hd.2 (Nat.le_refl _) ψ S h _ _ rds P s kf' (di.stage hd.1 .refl s kf') hP
      rcases sem_gateC hs with ⟨t', e, h1, h2⟩ | ⟨⟨r, e⟩, h2⟩
      · rw [e] at ke
        simp only [VD] at ke
        rw [ke.1]
        exact ⟨fun e => yes (h1 e), fun e => no (h2 e)⟩
      · rw [e] at ke
        simp only [VD] at ke
        obtain ⟨r', e', _⟩ := ke
        rw [e']
        exact no h2
    | .dops (⟨⟨d, .p (.eq .slice neg a b), none⟩, lo, hi⟩ :: l) lv K cs ws .mk i nx pst fr H => exact sem_dp_nil (fun r => ih _) hs
    | .dops (⟨⟨d, .p (.mov a), none⟩, lo, hi⟩ :: l) lv K cs ws .mk i nx pst fr H => exact sem_dp (fun x => ih _) hs
    | .dops (⟨⟨d, .p (.pick a b c), none⟩, lo, hi⟩ :: l) lv K cs ws .mk i nx pst fr H => exact sem_dp (fun x => ih _) hs
    | .dops (⟨⟨d, .p (.build a b), none⟩, lo, hi⟩ :: l) lv K cs ws .mk i nx pst fr H => exact sem_dp (fun x => ih _) hs
    | .dops (⟨⟨d, .p (.nilchk a), none⟩, lo, hi⟩ :: l) lv K cs ws .mk i nx pst fr H => exact sem_dp (fun x => ih _) hs
    | .dops (⟨⟨d, .p (.bin a b c), none⟩, lo, hi⟩ :: l) lv K cs ws .mk i nx pst fr H => exact sem_dp (fun x => ih _) hs
    | .dops (⟨⟨d, .p (.eq .bool a b c), none⟩, lo, hi⟩ :: l) lv K cs ws .mk i nx pst fr H => exact sem_dp (fun x => ih _) hs
    | .dops (⟨⟨d, .p (.eq .int a b c), none⟩, lo, hi⟩ :: l) lv K cs ws .mk i nx pst fr H => exact sem_dp (fun x => ih _) hs
    | .dops (⟨⟨d, .p (.eq .str a b c), none⟩, lo, hi⟩ :: l) lv K cs ws .mk i nx pst fr H => exact sem_dp (fun x => ih _) hs
    | .dops (⟨⟨d, .p (.eq .ptr a b c), none⟩, lo, hi⟩ :: l) lv K cs ws .mk i nx pst fr H => exact sem_dp (fun x => ih _) hs
    | .dops (⟨⟨d, .p (.eq .map a b c), none⟩, lo, hi⟩ :: l) lv K cs ws .mk i nx pst fr H => exact sem_dp (fun x => ih _) hs
    | .dops (⟨⟨d, .p (.eq .func a b c), none⟩, lo, hi⟩ :: l) lv K cs ws .mk i nx pst fr H => exact sem_dp (fun x => ih _) hs
    | .dops (⟨⟨d, .p (.eq .iface a b c), none⟩, lo, hi⟩ :: l) lv K cs ws .mk i nx pst fr H => exact sem_dp (fun x => ih _) hs
    | .dops (⟨⟨d, .p (.eq (.struct z) a b c), none⟩, lo, hi⟩ :: l) lv K cs ws .mk i nx pst fr H => exact sem_dp (fun x => ih _) hs
    | .dops (⟨⟨d, .p (.eqi a b c e), none⟩, lo, hi⟩ :: l) lv K cs ws .mk i nx pst fr H => exact sem_dp (fun x => ih _) hs
    | .dops (⟨⟨d, .p (.neg a), none⟩, lo, hi⟩ :: l) lv K cs ws .mk i nx pst fr H => exact sem_dp (fun x => ih _) hs
    | .dops (⟨⟨d, .p (.not a), none⟩, lo, hi⟩ :: l) lv K cs ws .mk i nx pst fr H => exact sem_dp (fun x => ih _) hs
    | .dops (⟨⟨d, .p (.compl a), none⟩, lo, hi⟩ :: l) lv K cs ws .mk i nx pst fr H => exact sem_dp (fun x => ih _) hs
    | .dops (⟨⟨d, .p (.conv a b), none⟩, lo, hi⟩ :: l) lv K cs ws .mk i nx pst fr H => exact sem_dp (fun x => ih _) hs
    | .dops (⟨⟨d, .p (.mkiface a b), none⟩, lo, hi⟩ :: l) lv K cs ws .mk i nx pst fr H => exact sem_dp (fun x => ih _) hs
    | .dops (⟨⟨d, .p (.mkfunc a b c), none⟩, lo, hi⟩ :: l) lv K cs ws .mk i nx pst fr H => exact sem_dp (fun x => ih _) hs
    | .dops (⟨⟨d, .p (.slc a b c e f), none⟩, lo, hi⟩ :: l) lv K cs ws .mk i nx pst fr H => exact sem_dp (fun x => ih _) hs
    | .dops (⟨⟨d, .p (.sls a b c), none⟩, lo, hi⟩ :: l) lv K cs ws .mk i nx pst fr H => exact sem_dp (fun x => ih _) hs
    | .dops (⟨⟨d, .p (.sla a b c e f g), none⟩, lo, hi⟩ :: l) lv K cs ws .mk i nx pst fr H => exact sem_dp (fun x => ih _) hs
    | .dops (⟨⟨d, .p (.faddr a b), none⟩, lo, hi⟩ :: l) lv K cs ws .mk i nx pst fr H => exact sem_dp (fun x => ih _) hs
    | .dops (⟨⟨d, .p (.field1 a b), none⟩, lo, hi⟩ :: l) lv K cs ws .mk i nx pst fr H => exact sem_dp (fun x => ih _) hs
    | .dops (⟨⟨d, .p (.fieldn a b c), none⟩, lo, hi⟩ :: l) lv K cs ws .mk i nx pst fr H => exact sem_dp (fun x => ih _) hs
    | .dops (⟨⟨d, .p (.iaddr a b c), none⟩, lo, hi⟩ :: l) lv K cs ws .mk i nx pst fr H => exact sem_dp (fun x => ih _) hs
    | .dops (⟨⟨d, .p (.iaddra a b c e), none⟩, lo, hi⟩ :: l) lv K cs ws .mk i nx pst fr H => exact sem_dp (fun x => ih _) hs
    | .dops (⟨⟨d, .p (.idxs a b), none⟩, lo, hi⟩ :: l) lv K cs ws .mk i nx pst fr H => exact sem_dp (fun x => ih _) hs
    | .dops (⟨⟨d, .p (.idx1 a b c), none⟩, lo, hi⟩ :: l) lv K cs ws .mk i nx pst fr H => exact sem_dp (fun x => ih _) hs
    | .dops (⟨⟨d, .p (.idxn a b c e), none⟩, lo, hi⟩ :: l) lv K cs ws .mk i nx pst fr H => exact sem_dp (fun x => ih _) hs
    | .dops (⟨⟨d, .p (.ext a b), none⟩, lo, hi⟩ :: l) lv K cs ws .mk i nx pst fr H => exact sem_dp (fun x => ih _) hs
    | .dops (⟨⟨d, .p (.lens a), none⟩, lo, hi⟩ :: l) lv K cs ws .mk i nx pst fr H => exact sem_dp (fun x => ih _) hs
    | .dops (⟨⟨d, .p (.lenb a), none⟩, lo, hi⟩ :: l) lv K cs ws .mk i nx pst fr H => exact sem_dp (fun x => ih _) hs
    | .dops (⟨⟨d, .p (.lena a), none⟩, lo, hi⟩ :: l) lv K cs ws .mk i nx pst fr H => exact sem_dp (fun x => ih _) hs
    | .dops (⟨⟨d, .p (.caps a), none⟩, lo, hi⟩ :: l) lv K cs ws .mk i nx pst fr H => exact sem_dp (fun x => ih _) hs
    | .dops (⟨⟨d, .p (.min a), none⟩, lo, hi⟩ :: l) lv K cs ws .mk i nx pst fr H => exact sem_dp (fun x => ih _) hs
    | .dops (⟨⟨d, .p (.max a), none⟩, lo, hi⟩ :: l) lv K cs ws .mk i nx pst fr H => exact sem_dp (fun x => ih _) hs
    | .dops (⟨⟨d, .a o, none⟩, lo, hi⟩ :: l) lv K cs ws .mk i nx pst fr H =>
      have hs : Sem p ext Q (optH (aD fr H false o) fun x H' => runI p.env n (.dops l lv K (dirtyN d cs) ws .mk (i + 1) nx pst (putD fr d x) H')) := hs
      intro hK hd hn ψ S h fv st rds P s kf di hP
      obtain ⟨x, H', e, hs⟩ := sem_optH hs
      obtain ⟨y, mk, z, e1, rfl, kb, kv⟩ := aD_new kf e
      refine D.alloc.2 ?_
      rw [e1]
      refine ds_step (ih _ hs) hK hd (Nat.le_succ_of_le hn) s.addExt (s.new kb) kf kv (di.alloc (h' := h.new y) s.addExt (fun x hx => by rw [blk_new, if_neg (by omega)]) (fun b x e hb => ?_) (fun x hx => hx) (Nat.le_succ _)) hP
      unfold addE at e
      rw [if_neg (by omega)] at e
      exact e
    | .dops (⟨⟨d, .load1 x, none⟩, lo, hi⟩ :: l) lv K cs ws .mk i nx pst fr H =>
      have hs : Sem p ext Q (optC (Go.Dv.loadD H (evD fr x)) fun y => oldC nx lo hi pst (fun H => Go.Dv.loadD H (evD fr x)) y (evD fr x) (runI p.env n (.dops l lv K (dirtyN d cs) ((lo, hi) :: ws) .mk (i + 1) nx pst (putD fr d y) H))) := hs
      intro hK hd hn ψ S h fv st rds P s kf di hP
      simp only [drOk, Bool.and_eq_true] at hd
      obtain ⟨y, e, hs⟩ := sem_optC hs
      obtain ⟨hb, hs⟩ := sem_oldC hs
      have kx := evD_ok kf x
      obtain ⟨v, e1, kv⟩ := loadD_ok s kx e
      obtain ⟨b, o, ev', hst⟩ := di.old kx (fun b o e => (hb b o e).1) (loadD_kind e)
      refine D.load1.2 ?_
      rw [ev'] at e1 ⊢
      simp only [loadV] at e1
      rw [ptrP_ptr, at1_eq, e1]
      refine ds_step (ih _ hs) hK hd.2 hn .refl s kf kv (di.load.read (at1_read e1) hst (still_past (at1_read e1) (y := y) (ld := fun H => Go.Dv.loadD H (evD fr x)) (fun c k ex {ψc Sc Hc hc} sc xc hvd hr hld => ?_) (loadD_kind e) ev' di.past.tail hd.1 fun a b e => (hb a b e).2)) hP
      rw [ex] at hld
      obtain ⟨u, e2, ku⟩ := loadD_ok sc hvd hld
      have := rigid_eq y hr (VD.mono xc y ku) kv
      subst this
      exact at1_read e2
    | .dops (⟨⟨d, .loadn m x, none⟩, lo, hi⟩ :: l) lv K cs ws .mk i nx pst fr H =>
      have hs : Sem p ext Q (optC (Go.Dv.loadnD H m (evD fr x)) fun y => oldC nx lo hi pst (fun H => Go.Dv.loadnD H m (evD fr x)) y (evD fr x) (runI p.env n (.dops l lv K (dirtyN d cs) ((lo, hi) :: ws) .mk (i + 1) nx pst (putD fr d y) H))) := hs
      intro hK hd hn ψ S h fv st rds P s kf di hP
      simp only [drOk, Bool.and_eq_true] at hd
      obtain ⟨y, e, hs⟩ := sem_optC hs
      obtain ⟨hb, hs⟩ := sem_oldC hs
      have kx := evD_ok kf x
      obtain ⟨v, e1, kv⟩ := loadnD_ok s kx e
      obtain ⟨b, o, ev', hst⟩ := di.old kx (fun b o e => (hb b o e).1) (loadnD_kind e)
      refine D.loadn.2 ?_
      rw [ev'] at e1 ⊢
      obtain ⟨l', rfl, e2, e3⟩ := loadnV_read e1
      rw [ptrP_ptr, e2]
      have e2' : h.read b o l'.length = some l' := by rw [e3]; exact e2
      refine ds_step (ih _ hs) hK hd.2 hn .refl s kf kv (di.load.read e2' hst (still_past e2' (y := y) (ld := fun H => Go.Dv.loadnD H m (evD fr x)) (fun c k ex {ψc Sc Hc hc} sc xc hvd hr hld => ?_) (loadnD_kind e) ev' di.past.tail hd.1 fun a b e => (hb a b e).2)) hP
      rw [ex] at hld
      obtain ⟨u, e4, ku⟩ := loadnD_ok sc hvd hld
      have := rigid_eq y hr (VD.mono xc y ku) kv
      subst this
      obtain ⟨l2, e5, e6, e7⟩ := loadnV_read e4
      cases e5
      rw [e3]; exact e6
    | .dops (⟨⟨d, .e (.call f a), none⟩, lo, hi⟩ :: l) lv K cs ws .mk i nx pst fr H =>
      have hs : Sem p ext Q (.dcall f (evsD fr a) d l lv K cs ws .mk i pst fr H) := hs
      intro hK hd hn ψ S h fv st rds P s kf di hP
      simp only [drOk, Bool.and_eq_true] at hd
      exact D.call.2 (hs hK hd.1 hd.2 ψ S h fv _ st rds nx P s kf di (evsD_ok kf a) hP)
    | .dops (⟨⟨d, .e (.extern f a), none⟩, lo, hi⟩ :: l) lv K cs ws .mk i nx pst fr H =>
      have hs : Sem p ext Q (.dcall f (evsD fr a) d l lv K cs ws .mk i pst fr H) := hs
      intro hK hd hn ψ S h fv st rds P s kf di hP
      simp only [drOk, Bool.and_eq_true] at hd
      exact D.extern.2 (hs hK hd.1 hd.2 ψ S h fv _ st rds nx P s kf di (evsD_ok kf a) hP)
    | .dops (⟨⟨d, .e (.callv x a), none⟩, lo, hi⟩ :: l) lv K cs ws .mk i nx pst fr H =>
      have hs : Sem p ext Q (funC (evD fr x) fun f fi ca => .dcall f (fi ++ evsD fr a ++ ca) d l lv K cs ws .mk i pst fr H) := hs
      intro hK hd hn ψ S h fv st rds P s kf di hP
      simp only [drOk, Bool.and_eq_true] at hd
      obtain ⟨f, fi, ca, e, hs⟩ := sem_funC hs
      have ke := evD_ok kf x
      rw [e] at ke
      simp only [VD] at ke
      obtain ⟨fi', ca', e1, k1, k2⟩ := ke
      refine D.callv.2 ?_
      rw [e1]
      exact hs hK hd.1 hd.2 ψ S h fv _ st rds nx P s kf di (VDl.append (VDl.append k1 (evsD_ok kf a)) k2) hP
    | .dops (⟨⟨d, .e (.store sz a x), none⟩, lo, hi⟩ :: l) lv K cs ws .mk i nx pst fr H => exact sem_dop (fun x H' => ih _) hs
    | .dops (⟨⟨d, .e (.append sz b a x), none⟩, lo, hi⟩ :: l) lv K cs ws .mk i nx pst fr H => exact sem_dop (fun x H' => ih _) hs
    | .dops (⟨⟨d, .e (.appendz z sz b a x), none⟩, lo, hi⟩ :: l) lv K cs ws .mk i nx pst fr H => exact sem_dop (fun x H' => ih _) hs
    | .dops (⟨⟨d, .e (.copy sz a x), none⟩, lo, hi⟩ :: l) lv K cs ws .mk i nx pst fr H => exact sem_dop (fun x H' => ih _) hs
    | .dops (⟨⟨d, .e (.clear z x), none⟩, lo, hi⟩ :: l) lv K cs ws .mk i nx pst fr H => exact sem_dop (fun x H' => ih _) hs
    | .dops (⟨⟨d, .e (.text x), none⟩, lo, hi⟩ :: l) lv K cs ws .mk i nx pst fr H => exact sem_dop (fun x H' => ih _) hs
    | .dops (⟨⟨d, .e (.lookup sk z ok m k), none⟩, lo, hi⟩ :: l) lv K cs ws .mk i nx pst fr H => exact sem_dop (fun x H' => ih _) hs
    | .dops (⟨⟨d, .e (.mapput sk m k v), none⟩, lo, hi⟩ :: l) lv K cs ws .mk i nx pst fr H => exact sem_dop (fun x H' => ih _) hs
    | .dops (⟨⟨d, .e (.delete sk m k), none⟩, lo, hi⟩ :: l) lv K cs ws .mk i nx pst fr H => exact sem_dop (fun x H' => ih _) hs
    | .dops (⟨⟨d, .e (.lenm x), none⟩, lo, hi⟩ :: l) lv K cs ws .mk i nx pst fr H => exact sem_dop (fun x H' => ih _) hs
    | .dops (⟨⟨d, .e (.mark x), none⟩, lo, hi⟩ :: l) lv K cs ws .mk i nx pst fr H => exact sem_dop (fun x H' => ih _) hs
    | .dops (⟨⟨d, .e (.stop), none⟩, lo, hi⟩ :: l) lv K cs ws .mk i nx pst fr H => exact sem_dop (fun x H' => ih _) hs
theorem sem_run (n : Nat) (c : Cfg) (hs : Sem p ext Q (run p.env n c)) : Sem p ext Q c := by
  rw [run_eq] at hs
  exact sem_runI n c hs
end
end Go.Dv
end

section
namespace Go.Vm
def okR (J : Fr → Hp → Prop) : Res → Prop
  | .ok fr h => J fr h
  | _ => False
theorem okR_ok {J : Fr → Hp → Prop} {fr : Fr} {h : Hp} : okR J (.ok fr h) ↔ J fr h := Iff.rfl
attribute [simp] okR_ok
theorem ws_cut {p : Prog} {ext : Ext} {c : MCode} {K : List KF} {fr : Fr} {h : Hp} {Q : Res → Prop} (J : Fr → Hp → Prop) (h1 : WS p ext c [] fr h (okR J)) (h2 : ∀ fr' h', J fr' h' → RK p ext K (.ok fr' h') Q) : WS p ext c K fr h Q := by
  refine (h1 : WP _ _ _ _ _ _).mono fun r hr => ?_
  have hr : okR J r := hr
  cases r with
  | ok fr' h' => exact h2 fr' h' hr
  | _ => exact hr.elim
end Go.Vm
end

section
namespace Go.Dv
open Go.Vm
section
variable {p : Prog} {ext : Ext} {Q : ResD → Prop}
def WcD (p : Prog) (ext : Ext) (f : Nat) (args : List D) (H : HpD) (R : D → HpD → Prop) : Prop :=
  ∀ ψ S h vs, SR ψ S H h → VDl h ψ S args vs → WPc p ext f vs h fun v h' => ∃ ψ' S' d H', Ex h ψ S h' ψ' S' ∧ SR ψ' S' H' h' ∧ VD h' ψ' S' d v ∧ R d H'
theorem WcD.mono {f : Nat} {args : List D} {H : HpD} {R R' : D → HpD → Prop} (hw : WcD p ext f args H R) (hr : ∀ d H', R d H' → R' d H') : WcD p ext f args H R' := by
  intro ψ S h vs s k
  refine (hw ψ S h vs s k).mono fun v h' ⟨ψ', S', d, H', a, b, c, e⟩ => ⟨ψ', S', d, H', a, b, c, hr d H' e⟩
theorem WcD.args {f : Nat} {args args' : List D} {H : HpD} {R : D → HpD → Prop} (hw : WcD p ext f args' H R) (hl : D.les args args') : WcD p ext f args H R := by
  intro ψ S h vs s k
  exact hw ψ S h vs s (VDl.le _ _ hl k)
theorem WcD.le {f : Nat} {args : List D} {H : HpD} {R : D → HpD → Prop} (hw : WcD p ext f args H fun d H' => ∃ d', D.le d d' ∧ R d' H') : WcD p ext f args H R := by
  intro ψ S h vs s k
  refine (hw ψ S h vs s k).mono fun v h' ⟨ψ', S', d, H', a, b, c, d', l, e⟩ => ⟨ψ', S', d', H', a, b, VD.le _ _ l c, e⟩
theorem sem_call {f : Nat} {args : List D} {dst : Option Nat} {l : List MO} {fz lv : List Nat} {K : List KD} {fr : FrD} {H : HpD} {R : D → HpD → Prop} (hw : WcD p ext f args H R)
    (hs : ∀ d H', R d H' → Sem p ext Q (.ops l fz lv K .mk (putD fr dst d) H')) : Sem p ext Q (.call f args dst l fz lv K .mk fr H) := by
  intro hK ψ S h fv vs P s kf kv hP
  refine callS_of ((hw ψ S h vs s kv).mono ?_)
  rintro v h' ⟨ψ', S', d, H', x, s', k, r⟩
  exact os_step (hs d H' r) hK x s' kf k hP
theorem sem_dcall {f : Nat} {args : List D} {dst : Option Nat} {l : List DO} {lv : List Nat} {K : List KD} {i : Nat} {cs : List (Nat × List Nat)} {ws : List (Nat × Nat)} {pst : List (Nat × HpD)} {fr : FrD} {H : HpD} {R : D → HpD → Prop} (hw : WcD p ext f args H R)
    (hs : ∀ d H', R d H' → Sem p ext Q (.dops l lv K ((i + 1, []) :: dirtyN dst cs) ws .mk (i + 1) H'.next ((i + 1, H') :: pst) (putD fr dst d) H')) : Sem p ext Q (.dcall f args dst l lv K cs ws .mk i pst fr H) := by
  intro hK hn hd ψ S h fv vs st rds nx P s kf di kv hP
  refine (hw ψ S h vs s kv).mono ?_
  rintro v h' ⟨ψ', S', d, H', x, s', k, r⟩
  exact ds_step (hs d H' r) hK hd (Nat.le_refl _) x s' kf k (di.stage hn x s' ((kf.mono x).put k dst)) hP
def argsD : Nat → List D → FrD
  | _, [] => []
  | n, d :: l => (n, d) :: argsD (n + 1) l
def res1D (fr : FrD) (H : HpD) : RV → Option D
  | .tmp t => some (lk fr t)
  | .cell1 t => loadD H (lk fr t)
  | .celln n t => loadnD H n (lk fr t)
def resLD (fr : FrD) (H : HpD) : List RV → Option (List D)
  | [] => some []
  | r :: l => match res1D fr H r with
    | some d => match resLD fr H l with
      | some x => some (d :: x)
      | none => none
    | none => none
def tupD : List D → D
  | [d] => d
  | l => .tup l
def optQ (o : Option (List D)) (k : List D → Prop) : Prop := match o with
  | some l => k l
  | none => False
def endD (rs : List RV) (R : D → HpD → Prop) : ResD → Prop
  | .ok fr H => optQ (resLD fr H rs) fun l => R (tupD l) H
  | .ret fr H => optQ (resLD fr H rs) fun l => R (tupD l) H
  | .exit _ _ _ => False
theorem argsD_ok {h : Hp} {ψ : Nat → Option Nat} {S : Nat → Prop} {args : List D} {vs : List V} (k : VDl h ψ S args vs) : FrR h ψ S (argsD 0 args) (argsFr vs 0 .leaf) := by
  have key : ∀ (args : List D) (n t : Nat), lk (argsD n args) t = if n ≤ t then (args[t - n]?).getD .any else .any := by
    intro args
    induction args with
    | nil => intro n t; simp [argsD, lk]
    | cons d l ih =>
      intro n t
      simp only [argsD, lk]
      by_cases e : n = t
      · subst e; simp
      · rw [show Nat.beq n t = false from by rw [nbeq_d]; exact decide_eq_false e, cond_false, ih]
        by_cases hle : n ≤ t
        · rw [if_pos (by omega), if_pos hle, show t - n = (t - (n + 1)) + 1 from by omega, List.getElem?_cons_succ]
        · rw [if_neg (by omega), if_neg hle]
  intro t
  rw [key, ev_argsFr]
  simp only [Nat.zero_le, if_true, Nat.sub_zero, true_and]
  cases e : args[t]? with
  | none => simp [VD]
  | some d =>
    obtain ⟨v, e1, k1⟩ := VDl.get k e
    have hlt := (List.getElem?_eq_some_iff.1 e1).1
    rw [if_pos (by omega)]
    simp only [Option.getD_some, List.getD_eq_getElem?_getD, e1]
    exact k1
theorem res1D_ok {h : Hp} {ψ : Nat → Option Nat} {S : Nat → Prop} {H : HpD} (s : SR ψ S H h) {fr : FrD} {fv : Fr} (k : FrR h ψ S fr fv) {r : RV} {d : D} (e : res1D fr H r = some d) : ∃ v, res1 fv h r = some v ∧ VD h ψ S d v := by
  cases r with
  | tmp t => cases e; exact ⟨_, rfl, k t⟩
  | cell1 t =>
    obtain ⟨v, e1, kv⟩ := loadD_ok s (k t) e
    unfold loadV at e1
    split at e1
    case h_2 => cases e1
    rename_i b o hb
    refine ⟨v, ?_, kv⟩
    simp only [res1, hb]
    rw [← at1_eq] at e1
    rw [Hp.at1_iff.1 e1]
  | celln n t =>
    obtain ⟨v, e1, kv⟩ := loadnD_ok s (k t) e
    unfold loadnV at e1
    split at e1
    case h_2 => cases e1
    rename_i b o hb
    refine ⟨v, ?_, kv⟩
    simp only [res1, hb]
    unfold aggO at e1
    split at e1
    · rename_i l hl; rw [hl]; exact e1
    · cases e1
theorem resLD_ok {h : Hp} {ψ : Nat → Option Nat} {S : Nat → Prop} {H : HpD} (s : SR ψ S H h) {fr : FrD} {fv : Fr} (k : FrR h ψ S fr fv) : ∀ {rs : List RV} {l : List D}, resLD fr H rs = some l → ∃ vs, resV fv h rs = some vs ∧ VDl h ψ S l vs
  | [], _, e => by cases e; exact ⟨[], rfl, by simp [VDl]⟩
  | r :: rs, _, e => by
    simp only [resLD] at e
    split at e
    case h_2 => cases e
    rename_i d hd
    split at e
    case h_2 => cases e
    rename_i x hx
    cases e
    obtain ⟨v, e1, k1⟩ := res1D_ok s k hd
    obtain ⟨vs, e2, k2⟩ := resLD_ok s k hx
    exact ⟨v :: vs, by simp only [resV, e1, e2], by simp only [VDl]; exact ⟨v, vs, rfl, k1, k2⟩⟩
theorem tupD_ok {h : Hp} {ψ : Nat → Option Nat} {S : Nat → Prop} {l : List D} {vs : List V} (k : VDl h ψ S l vs) : VD h ψ S (tupD l) (tupOf vs) := by
  match l, k with
  | [], k => simp only [VDl] at k; subst k; simp [tupD, tupOf, VD, VDl]
  | [d], k =>
    simp only [VDl] at k
    obtain ⟨v, r, rfl, k1, rfl⟩ := k
    exact k1
  | d :: d' :: l, k =>
    have k0 := k
    simp only [VDl] at k
    obtain ⟨v, r, rfl, _, v', r', rfl, _, _⟩ := k
    simp only [tupD, tupOf, VD]
    exact ⟨_, rfl, k0⟩
theorem enterD {f : Nat} {m : Fun} {kc : KC} (he : ∀ args h, ext f args h = none) (hf : p.funs.get f = some m) (hb : m.body = kc.erase) (hk : kc.ok = true) {args : List D} {H : HpD} {R : D → HpD → Prop} (hn : args.length = m.nargs)
    (hs : Sem p ext (endD m.results R) (.code kc [] .mk (argsD 0 args) H)) : WcD p ext f args H R := by
  intro ψ S h vs s k
  refine enter (he _ _) hf (by rw [k.length, hn]) ?_
  rw [hb]
  refine hs hk rfl ψ S h _ _ s (argsD_ok k) ?_
  rintro r ⟨r', k1, k2⟩
  have fin : ∀ fr fv H' h', (∃ ψ' S', Ex h ψ S h' ψ' S' ∧ SR ψ' S' H' h' ∧ FrR h' ψ' S' fr fv) → optQ (resLD fr H' m.results) (fun l => R (tupD l) H') → ∃ v, resP fv h' m.results = some (v, h') ∧ ∃ ψ' S' d H', Ex h ψ S h' ψ' S' ∧ SR ψ' S' H' h' ∧ VD h' ψ' S' d v ∧ R d H' := by
    rintro fr fv H' h' ⟨ψ', S', x, s', kf⟩ k
    unfold optQ at k
    split at k
    case h_2 => exact k.elim
    rename_i l hl
    obtain ⟨us, e1, k1⟩ := resLD_ok s' kf hl
    exact ⟨tupOf us, by simp only [resP, e1], ψ', S', tupD l, H', x, s', tupD_ok k1, k⟩
  cases r with
  | fail => cases r' <;> exact k1.elim
  | ok fv h' => cases r' with
    | ok fr H' => exact fin fr fv H' h' k1 k2
    | exit => exact k1.elim
    | ret => exact k1.elim
  | ret fv h' => cases r' with
    | ret fr H' => exact fin fr fv H' h' k1 k2
    | exit => exact k1.elim
    | ok => exact k1.elim
  | exit id fv h' => cases r' with
    | exit => exact k2.elim
    | ok => exact k1.elim
    | ret => exact k1.elim
def loopQ (J : FrD → HpD → Prop) (p : Prog) (ext : Ext) (Q : ResD → Prop) (K : List KD) : ResD → Prop
  | .ok fr H => J fr H
  | .exit id fr H => Sem p ext Q (.res (.exit id fr H) K .mk)
  | .ret fr H => Sem p ext Q (.res (.ret fr H) [] .mk)
theorem post_ok {ψ : Nat → Option Nat} {S : Nat → Prop} {h : Hp} {H : HpD} {fr : FrD} {fv : Fr} (s : SR ψ S H h) (k : FrR h ψ S fr fv) {R : ResD → Prop} (hr : R (.ok fr H)) : Post ψ S h R (.ok fv h) := ⟨.ok fr H, ⟨ψ, S, .refl, s, k⟩, hr⟩
theorem sem_loop {c : KC} {K : List KD} (I : Nat → FrD → HpD → Prop) (hI : ∀ k fr H, I k fr H → Sem p ext (loopQ (fun fr' H' => ∃ k', k' < k ∧ I k' fr' H') p ext Q K) (.code c [] .mk fr H)) {k : Nat} {fr : FrD} {H : HpD} (hi : I k fr H) : Sem p ext Q (.code (.loop c) K .mk fr H) := by
  intro hc hK ψ S h fv P s kf hP
  refine ws_loop (fun k fv' h' => ∃ ψ' S' fr' H', Ex h ψ S h' ψ' S' ∧ SR ψ' S' H' h' ∧ FrR h' ψ' S' fr' fv' ∧ I k fr' H') ?_ (k := k) ⟨ψ, S, fr, H, .refl, s, kf, hi⟩
  rintro k1 fv1 h1 ⟨ψ1, S1, fr1, H1, x1, s1, kf1, hi1⟩
  refine hI k1 fr1 H1 hi1 hc rfl ψ1 S1 h1 fv1 _ s1 kf1 ?_
  rintro r ⟨r', k1', k2⟩
  cases r with
  | fail => cases r' <;> exact k1'.elim
  | ok fv' h' => cases r' with
    | ok fr' H' =>
      obtain ⟨ψ', S', x, s', kf'⟩ := k1'
      obtain ⟨k', hlt, hi'⟩ := k2
      exact ⟨k', hlt, ψ', S', fr', H', x1.trans x, s', kf', hi'⟩
    | exit => exact k1'.elim
    | ret => exact k1'.elim
  | exit id fv' h' => cases r' with
    | exit id' fr' H' =>
      obtain ⟨rfl, ψ', S', x, s', kf'⟩ := k1'
      exact k2 hK ψ' S' h' fv' P s' kf' fun r hr => hP r (hr.up (x1.trans x))
    | ok => exact k1'.elim
    | ret => exact k1'.elim
  | ret fv' h' => cases r' with
    | ret fr' H' =>
      obtain ⟨ψ', S', x, s', kf'⟩ := k1'
      exact RK_ret (k2 rfl ψ' S' h' fv' P s' kf' fun r hr => hP r (hr.up (x1.trans x)))
    | ok => exact k1'.elim
    | exit => exact k1'.elim
theorem sem_ok {fr : FrD} {H : HpD} (hq : Q (.ok fr H)) : Sem p ext Q (.res (.ok fr H) [] .mk) := fun _ _ _ _ _ _ s kf hP => hP _ (post_ok s kf hq)
theorem sem_exit {id : Nat} {fr : FrD} {H : HpD} (hq : Q (.exit id fr H)) : Sem p ext Q (.res (.exit id fr H) [] .mk) := fun _ ψ S _ _ _ s kf hP => hP _ ⟨.exit id fr H, ⟨rfl, ψ, S, .refl, s, kf⟩, hq⟩
theorem sem_ret {fr : FrD} {H : HpD} (hq : Q (.ret fr H)) : Sem p ext Q (.res (.ret fr H) [] .mk) := fun _ ψ S _ _ _ s kf hP => hP _ ⟨.ret fr H, ⟨ψ, S, .refl, s, kf⟩, hq⟩
def okQ (J : FrD → HpD → Prop) : ResD → Prop
  | .ok fr H => J fr H
  | _ => False
theorem sem_cut {c : KC} {K : List KD} {fr : FrD} {H : HpD} (J : FrD → HpD → Prop) (h1 : Sem p ext (okQ J) (.code c [] .mk fr H)) (h2 : ∀ fr' H', J fr' H' → Sem p ext Q (.res (.ok fr' H') K .mk)) : Sem p ext Q (.code c K .mk fr H) := by
  intro hc hK ψ S h fv P s kf hP
  refine ws_cut (fun fv' h' => ∃ ψ' S' fr' H', Ex h ψ S h' ψ' S' ∧ SR ψ' S' H' h' ∧ FrR h' ψ' S' fr' fv' ∧ J fr' H') ?_ ?_
  · refine h1 hc rfl ψ S h fv _ s kf ?_
    rintro r ⟨r', k1, k2⟩
    cases r with
    | ok fv' h' => cases r' with
      | ok fr' H' => obtain ⟨ψ', S', x, s', kf'⟩ := k1; exact ⟨ψ', S', fr', H', x, s', kf', k2⟩
      | exit => exact k1.elim
      | ret => exact k1.elim
    | fail => cases r' <;> exact k1.elim
    | exit => cases r' <;> first | exact k1.elim | exact k2.elim
    | ret => cases r' <;> first | exact k1.elim | exact k2.elim
  · rintro fv' h' ⟨ψ', S', fr', H', x, s', kf', j⟩
    exact h2 fr' H' j hK ψ' S' h' fv' P s' kf' fun r hr => hP r (hr.up x)
def Weak (args : List D) (fr : FrD) (H : HpD) (args' : List D) (fr' : FrD) (H' : HpD) : Prop :=
  ∀ ψ S h fv vs, SR ψ S H h → FrR h ψ S fr fv → VDl h ψ S args vs → ∃ ψ' S', Ex h ψ S h ψ' S' ∧ SR ψ' S' H' h ∧ FrR h ψ' S' fr' fv ∧ VDl h ψ' S' args' vs
theorem Weak.refl {a : List D} {fr : FrD} {H : HpD} : Weak a fr H a fr H := fun ψ S _ _ _ s k kv => ⟨ψ, S, .refl, s, k, kv⟩
theorem Weak.trans {a a1 a2 : List D} {fr fr1 fr2 : FrD} {H H1 H2 : HpD} (x : Weak a fr H a1 fr1 H1) (y : Weak a1 fr1 H1 a2 fr2 H2) : Weak a fr H a2 fr2 H2 := by
  intro ψ S h fv vs s k kv
  obtain ⟨ψ1, S1, x1, s1, k1, kv1⟩ := x ψ S h fv vs s k kv
  obtain ⟨ψ2, S2, x2, s2, k2, kv2⟩ := y ψ1 S1 h fv vs s1 k1 kv1
  exact ⟨ψ2, S2, x1.trans x2, s2, k2, kv2⟩
theorem sem_weak {c : KC} {K : List KD} {fr fr' : FrD} {H H' : HpD} (w : Weak [] fr H [] fr' H') (hs : Sem p ext Q (.code c K .mk fr' H')) : Sem p ext Q (.code c K .mk fr H) := by
  intro hc hK ψ S h fv P s kf hP
  obtain ⟨ψ', S', x, s', k', _⟩ := w ψ S h fv [] s kf (by simp [VDl])
  exact hs hc hK ψ' S' h fv P s' k' fun r hr => hP r (hr.up x)
theorem sem_weak_ops {l : List MO} {fz lv : List Nat} {K : List KD} {fr fr' : FrD} {H H' : HpD} (w : Weak [] fr H [] fr' H') (hs : Sem p ext Q (.ops l fz lv K .mk fr' H')) : Sem p ext Q (.ops l fz lv K .mk fr H) := by
  intro hK ψ S h fv P s kf hP
  obtain ⟨ψ', S', x, s', k', _⟩ := w ψ S h fv [] s kf (by simp [VDl])
  exact hs hK ψ' S' h fv P s' k' fun r hr => hP r (hr.up x)
theorem sem_weak_call {f : Nat} {args args' : List D} {dst : Option Nat} {l : List MO} {fz lv : List Nat} {K : List KD} {fr fr' : FrD} {H H' : HpD} (w : Weak args fr H args' fr' H') (hs : Sem p ext Q (.call f args' dst l fz lv K .mk fr' H')) : Sem p ext Q (.call f args dst l fz lv K .mk fr H) := by
  intro hK ψ S h fv vs P s kf kv hP
  obtain ⟨ψ', S', x, s', k', kv'⟩ := w ψ S h fv vs s kf kv
  exact hs hK ψ' S' h fv vs P s' k' kv' fun r hr => hP r (hr.up x)
def WeakV (d : D) (H : HpD) (d' : D) (H' : HpD) : Prop := ∀ ψ S h v, SR ψ S H h → VD h ψ S d v → ∃ ψ' S', Ex h ψ S h ψ' S' ∧ SR ψ' S' H' h ∧ VD h ψ' S' d' v
theorem WeakV.refl {d : D} {H : HpD} : WeakV d H d H := fun ψ S _ _ s k => ⟨ψ, S, .refl, s, k⟩
theorem WeakV.trans {d d1 d2 : D} {H H1 H2 : HpD} (x : WeakV d H d1 H1) (y : WeakV d1 H1 d2 H2) : WeakV d H d2 H2 := by
  intro ψ S h v s k
  obtain ⟨ψ1, S1, x1, s1, k1⟩ := x ψ S h v s k
  obtain ⟨ψ2, S2, x2, s2, k2⟩ := y ψ1 S1 h v s1 k1
  exact ⟨ψ2, S2, x1.trans x2, s2, k2⟩
theorem WeakV.le {d d' : D} {H : HpD} (l : D.le d d') : WeakV d H d' H := fun ψ S _ _ s k => ⟨ψ, S, .refl, s, VD.le _ _ l k⟩
theorem WcD.weak {f : Nat} {args : List D} {H : HpD} {R : D → HpD → Prop} (hw : WcD p ext f args H fun d H' => ∃ d2 H2, WeakV d H' d2 H2 ∧ R d2 H2) : WcD p ext f args H R := by
  intro ψ S h vs s k
  refine (hw ψ S h vs s k).mono ?_
  rintro v h' ⟨ψ', S', d, H', x, s', kd, d2, H2, w, r⟩
  obtain ⟨ψ2, S2, x2, s2, k2⟩ := w ψ' S' h' v s' kd
  exact ⟨ψ2, S2, d2, H2, x.trans x2, s2, k2, r⟩
theorem SR.freeze {ψ : Nat → Option Nat} {S : Nat → Prop} {H : HpD} {h : Hp} (s : SR ψ S H h) {b c : Nat} (hb : ψ b = some c) : Ex h ψ S h ψ (fun x => S x ∨ x = c) ∧ SR ψ (fun x => S x ∨ x = c) (H.put b .gone) h := by
  have x0 : Ex h ψ S h ψ (fun x => S x ∨ x = c) := ⟨fun _ _ e => e, fun _ k => ⟨.inl k, rfl⟩⟩
  refine ⟨x0, s.inj, s.dom, fun x k => ?_, fun b' hl => ?_⟩
  · rcases k with k | rfl
    · exact s.frz x k
    · exact (s.dom b _ hb).2
  · rw [put_blk] at hl ⊢
    by_cases e : b' = b
    · subst e; rw [if_pos rfl] at hl; cases hl
    · rw [if_neg e] at hl ⊢
      obtain ⟨c', h1, h2, h3⟩ := s.live b' hl
      refine ⟨c', h1, ?_, h3.mono x0⟩
      rintro (k | rfl)
      · exact h2 k
      · exact e (s.inj _ _ _ h1 hb)
mutual
def frz (b sz n : Nat) (el : List (List D)) : D → D
  | .slice b' o sz' n' cap ex => if b' = b ∧ o = 0 ∧ sz' = sz ∧ n' = n ∧ n ≤ cap then .row sz (if cap = n ∧ ex = true then .c else .p) el else .slice b' o sz' n' cap ex
  | .agg l => .agg (frzs b sz n el l)
  | .tup l => .tup (frzs b sz n el l)
  | .row s m l => .row s m (frzss b sz n el l)
  | d => d
def frzs (b sz n : Nat) (el : List (List D)) : List D → List D
  | [] => []
  | d :: l => frz b sz n el d :: frzs b sz n el l
def frzss (b sz n : Nat) (el : List (List D)) : List (List D) → List (List D)
  | [] => []
  | e :: l => frzs b sz n el e :: frzss b sz n el l
end
theorem frzs_length {b sz n : Nat} {el : List (List D)} : ∀ l : List D, (frzs b sz n el l).length = l.length
  | [] => rfl
  | d :: l => by simp [frzs, frzs_length l]
theorem frzss_length {b sz n : Nat} {el : List (List D)} : ∀ l : List (List D), (frzss b sz n el l).length = l.length
  | [] => rfl
  | d :: l => by simp [frzss, frzss_length l]
section
variable {h : Hp} {ψ : Nat → Option Nat} {S S2 : Nat → Prop} {b c sz n : Nat} {el : List (List D)}
mutual
theorem VD.frz (x : Ex h ψ S h ψ S2) (hb : ψ b = some c) (hr : ∀ cap ex, n ≤ cap → VD h ψ S2 (.row sz (if cap = n ∧ ex = true then .c else .p) el) (.slice c 0 sz n cap ex)) : ∀ (d : D) {v : V}, VD h ψ S d v → VD h ψ S2 (frz b sz n el d) v
  | .slice b' o sz' n' cap ex, v, k => by
    simp only [Go.Dv.frz]
    split
    · rename_i hh
      obtain ⟨rfl, rfl, rfl, rfl, hc⟩ := hh
      simp only [VD] at k
      obtain ⟨c', e, rfl⟩ := k
      rw [hb] at e; cases e
      exact hr cap ex hc
    · exact VD.mono x _ k
  | .agg l, _, k => by
    simp only [Go.Dv.frz, VD] at k ⊢
    obtain ⟨v', rfl, k⟩ := k
    exact ⟨v', rfl, VDl.frz x hb hr l k⟩
  | .tup l, _, k => by
    simp only [Go.Dv.frz, VD] at k ⊢
    obtain ⟨v', rfl, k⟩ := k
    exact ⟨v', rfl, VDl.frz x hb hr l k⟩
  | .row s m l, _, k => by
    simp only [Go.Dv.frz, VD] at k ⊢
    rcases k with ⟨rfl, rfl⟩ | ⟨b1, o, c1, ex, rfl, h1, h2, k⟩
    · exact .inl ⟨rfl, rfl⟩
    · refine .inr ⟨b1, o, c1, ex, by rw [frzss_length], by rw [frzss_length]; exact h1, by rw [frzss_length]; exact h2, ?_⟩
      rcases k with ⟨hw, rfl⟩ | ⟨cs, ro, hs, hbk, hp⟩
      · exact .inl ⟨hw, rfl⟩
      · exact .inr ⟨cs, ro, (x.frz b1 hs).1, hbk, VDss.frz x hb hr s l hp⟩
  | .any, _, _ => by simp [Go.Dv.frz, VD]
  | .lit _, _, k => VD.mono x _ k
  | .ptr _ _, _, k => VD.mono x _ k
  | .rptr _ _, _, k => VD.mono x _ k
  | .map _, _, k => VD.mono x _ k
  | .func _ _ _, _, k => VD.mono x _ k
  | .iface _ _, _, k => VD.mono x _ k
theorem VDl.frz (x : Ex h ψ S h ψ S2) (hb : ψ b = some c) (hr : ∀ cap ex, n ≤ cap → VD h ψ S2 (.row sz (if cap = n ∧ ex = true then .c else .p) el) (.slice c 0 sz n cap ex)) : ∀ (l : List D) {vs : List V}, VDl h ψ S l vs → VDl h ψ S2 (frzs b sz n el l) vs
  | [], _, k => by simpa [frzs, VDl] using k
  | d :: l, _, k => by
    simp only [frzs, VDl] at k ⊢
    obtain ⟨v, r, rfl, h1, h2⟩ := k
    exact ⟨v, r, rfl, VD.frz x hb hr d h1, VDl.frz x hb hr l h2⟩
theorem VDp.frz (x : Ex h ψ S h ψ S2) (hb : ψ b = some c) (hr : ∀ cap ex, n ≤ cap → VD h ψ S2 (.row sz (if cap = n ∧ ex = true then .c else .p) el) (.slice c 0 sz n cap ex)) : ∀ (l : List D) {vs : List V}, VDp h ψ S l vs → VDp h ψ S2 (frzs b sz n el l) vs
  | [], _, _ => by simp [frzs, VDp]
  | d :: l, _, k => by
    simp only [frzs, VDp] at k ⊢
    obtain ⟨v, r, rfl, h1, h2⟩ := k
    exact ⟨v, r, rfl, VD.frz x hb hr d h1, VDp.frz x hb hr l h2⟩
theorem VDss.frz (x : Ex h ψ S h ψ S2) (hb : ψ b = some c) (hr : ∀ cap ex, n ≤ cap → VD h ψ S2 (.row sz (if cap = n ∧ ex = true then .c else .p) el) (.slice c 0 sz n cap ex)) (s : Nat) : ∀ (l : List (List D)) {vs : List V}, VDss h ψ S s l vs → VDss h ψ S2 s (frzss b sz n el l) vs
  | [], _, _ => by simp [frzss, VDss]
  | e :: l, _, k => by
    simp only [frzss, VDss] at k ⊢
    exact ⟨by rw [frzs_length]; exact k.1, VDp.frz x hb hr e k.2.1, VDss.frz x hb hr s l k.2.2⟩
end
end
def frzF (b sz n : Nat) (el : List (List D)) : FrD → FrD
  | [] => []
  | (t, d) :: l => (t, frz b sz n el d) :: frzF b sz n el l
theorem lk_frzF {b sz n : Nat} {el : List (List D)} {t : Nat} : ∀ fr : FrD, lk (frzF b sz n el fr) t = frz b sz n el (lk fr t)
  | [] => by simp [frzF, lk, frz]
  | (u, d) :: l => by
    simp only [frzF, lk]
    cases Nat.beq u t
    · exact lk_frzF l
    · rfl
theorem frz_row {ψ : Nat → Option Nat} {S : Nat → Prop} {H : HpD} {h : Hp} (s : SR ψ S H h) {b sz : Nat} {el : List (List D)} {ro : Bool} (hb : H.blk b = .cells el.flatten ro) (he : ∀ e, e ∈ el → e.length = sz) :
    ∃ c, ψ b = some c ∧ ∀ cap ex, el.length ≤ cap → VD h ψ (fun x => S x ∨ x = c) (.row sz (if cap = el.length ∧ ex = true then .c else .p) el) (.slice c 0 sz el.length cap ex) := by
  obtain ⟨c, h1, h2, l', h3, h4⟩ : ∃ c, ψ b = some c ∧ ¬ S c ∧ ∃ l', h.blk c = .cells l' ro ∧ VDl h ψ S el.flatten l' := by
    obtain ⟨c, h1, h2, h3⟩ := s.live b (by rw [hb]; rfl)
    rw [hb] at h3
    exact ⟨c, h1, h2, h3⟩
  have x0 := (s.freeze h1).1
  refine ⟨c, h1, fun cap ex hc => ?_⟩
  simp only [VD]
  refine .inr ⟨c, 0, cap, ex, rfl, hc, fun e => ?_, .inr ⟨l', ro, .inr rfl, h3, ?_⟩⟩
  · split at e
    · assumption
    · cases e
  · have := VDss.of (us := []) he (VDl.mono x0 _ h4)
    simpa using this
theorem Weak.freeze {args : List D} {fr : FrD} {H : HpD} {sz b : Nat} {el : List (List D)} {ro : Bool} (hb : H.blk b = .cells el.flatten ro) (he : ∀ e, e ∈ el → e.length = sz) :
    Weak args fr H (frzs b sz el.length el args) (frzF b sz el.length el fr) (H.put b .gone) := by
  intro ψ S h fv vs s kf kv
  obtain ⟨c, h1, hr⟩ := frz_row s hb he
  obtain ⟨x0, s0⟩ := s.freeze h1
  refine ⟨ψ, _, x0, s0, fun t => ?_, VDl.frz x0 h1 hr _ kv⟩
  rw [lk_frzF]
  exact VD.frz x0 h1 hr _ (kf t)
theorem WeakV.freeze {d : D} {H : HpD} {sz b : Nat} {el : List (List D)} {ro : Bool} (hb : H.blk b = .cells el.flatten ro) (he : ∀ e, e ∈ el → e.length = sz) : WeakV d H (frz b sz el.length el d) (H.put b .gone) := by
  intro ψ S h v s kv
  obtain ⟨c, h1, hr⟩ := frz_row s hb he
  obtain ⟨x0, s0⟩ := s.freeze h1
  exact ⟨ψ, _, x0, s0, VD.frz x0 h1 hr _ kv⟩
def BD.under (n : Nat) : BD → Prop
  | .cells l _ => D.unders n l
  | .map _ l => ∀ k d, (k, d) ∈ l → d.under n
  | .gone => True
structure Sub (H H' : HpD) : Prop where
  next : H.next ≤ H'.next
  blk : ∀ b, b < H.next → H'.blk b = H.blk b
theorem Sub.refl {H : HpD} : Sub H H := ⟨Nat.le_refl _, fun _ _ => rfl⟩
theorem Sub.trans {H H1 H2 : HpD} (a : Sub H H1) (b : Sub H1 H2) : Sub H H2 := ⟨Nat.le_trans a.next b.next, fun x hx => (b.blk x (Nat.lt_of_lt_of_le hx a.next)).trans (a.blk x hx)⟩
theorem Sub.new {H H1 : HpD} (a : Sub H H1) {x : BD} : Sub H (H1.new x) := ⟨Nat.le_succ_of_le a.next, fun b hb => by rw [new_blk, if_neg, a.blk b hb]; have := a.next; omega⟩
theorem Sub.put {H H1 : HpD} (a : Sub H H1) {b : Nat} {x : BD} (hb : H.next ≤ b) : Sub H (H1.put b x) := ⟨a.next, fun c hc => by rw [put_blk, if_neg (by omega), a.blk c hc]⟩
structure Neat (H : HpD) : Prop where
  gone : ∀ b, H.next ≤ b → H.blk b = .gone
  under : ∀ b, (H.blk b).under H.next
theorem VDm.under {h : Hp} {ψ : Nat → Option Nat} {S : Nat → Prop} {n : Nat} (hn : ∀ b c, ψ b = some c → b < n) : ∀ {l : List (V × D)} {vs : List (V × V)}, VDm h ψ S l vs → ∀ k d, (k, d) ∈ l → d.under n
  | [], _, _, _, _, hm => by cases hm
  | (a, w) :: l, _, k, key, d, hm => by
    simp only [VDm] at k
    obtain ⟨v, r, rfl, h1, h2⟩ := k
    rcases List.mem_cons.1 hm with e | hm
    · cases e; exact VD.under hn _ h1
    · exact VDm.under hn h2 key d hm
theorem VDm.cut {h : Hp} {ψ : Nat → Option Nat} {S : Nat → Prop} {n : Nat} : ∀ {l : List (V × D)} {vs : List (V × V)}, (∀ k d, (k, d) ∈ l → d.under n) → VDm h ψ S l vs → VDm h (cutE ψ n) S l vs
  | [], _, _, k => k
  | (a, w) :: l, _, hu, k => by
    simp only [VDm] at k ⊢
    obtain ⟨v, r, rfl, h1, h2⟩ := k
    exact ⟨v, r, rfl, VD.cut _ (hu a w (List.mem_cons_self ..)) h1, VDm.cut (fun k d hm => hu k d (List.mem_cons_of_mem _ hm)) h2⟩
theorem BR.cut {h : Hp} {ψ : Nat → Option Nat} {S : Nat → Prop} {n : Nat} : ∀ {x : BD} {y : Blk}, x.under n → BR h ψ S x y → BR h (cutE ψ n) S x y
  | .cells l ro, _, hu, k => by obtain ⟨l', rfl, k⟩ := k; exact ⟨l', rfl, VDl.cut l hu k⟩
  | .map kk l, _, hu, k => by obtain ⟨l', rfl, k⟩ := k; exact ⟨l', rfl, VDm.cut hu k⟩
  | .gone, _, _, _ => trivial
theorem SR.neat {ψ : Nat → Option Nat} {S : Nat → Prop} {H : HpD} {h : Hp} (s : SR ψ S H h) : Neat H := by
  have hn : ∀ b c, ψ b = some c → b < H.next := fun b c e => (s.dom b c e).1
  refine ⟨fun b hb => ?_, fun b => ?_⟩
  · cases e : (H.blk b).isGone with
    | false => obtain ⟨c, h1, _⟩ := s.live b e; have := hn b c h1; omega
    | true => cases e2 : H.blk b with
      | gone => rfl
      | cells => rw [e2] at e; cases e
      | map => rw [e2] at e; cases e
  · cases e : H.blk b with
    | gone => trivial
    | cells l ro =>
      obtain ⟨c, h1, h2, h3⟩ := s.live b (by rw [e]; rfl)
      rw [e] at h3
      obtain ⟨l', _, k⟩ := h3
      exact VDl.under hn l k
    | map kk l =>
      obtain ⟨c, h1, h2, h3⟩ := s.live b (by rw [e]; rfl)
      rw [e] at h3
      obtain ⟨l', _, k⟩ := h3
      exact VDm.under hn k
theorem SR.cut {ψ : Nat → Option Nat} {S : Nat → Prop} {H H1 : HpD} {h : Hp} (s : SR ψ S H1 h) (hs : Sub H H1) (hn : Neat H) : SR (cutE ψ H.next) S H h := by
  refine ⟨fun b b' c h1 h2 => ?_, fun b c e => ?_, s.frz, fun b hl => ?_⟩
  · rw [cutE_some] at h1 h2; exact s.inj _ _ _ h1.2 h2.2
  · rw [cutE_some] at e; exact ⟨e.1, (s.dom _ _ e.2).2⟩
  · have hb : b < H.next := by
      refine Nat.lt_of_not_le fun hh => ?_
      rw [hn.gone b hh] at hl; cases hl
    obtain ⟨c, h1, h2, h3⟩ := s.live b (by rw [hs.blk b hb]; exact hl)
    rw [hs.blk b hb] at h3
    exact ⟨c, cutE_some.2 ⟨hb, h1⟩, h2, h3.cut (hn.under b)⟩
theorem WcD.drop {f : Nat} {args : List D} {H : HpD} {R : D → HpD → Prop} (hw : WcD p ext f args H fun d H' => ∃ d2 H2, WeakV d H' d2 H2 ∧ Sub H H2 ∧ d2.under H.next ∧ R d2 H) : WcD p ext f args H R := by
  intro ψ S h vs s k
  refine (hw ψ S h vs s k).mono ?_
  rintro v h' ⟨ψ', S', d, H', x, s', kd, d2, H2, w, sub, hu, r⟩
  obtain ⟨ψ2, S2, x2, s2, k2⟩ := w ψ' S' h' v s' kd
  refine ⟨cutE ψ2 H.next, S2, d2, H, ⟨fun b c e => cutE_some.2 ⟨(s.dom b c e).1, (x.trans x2).emb b c e⟩, (x.trans x2).frz⟩, s2.cut sub s.neat, VD.cut _ hu k2, r⟩
theorem WcD.cut {f : Nat} {args : List D} {H : HpD} {R : D → HpD → Prop} (hw : WcD p ext f args H fun d H' => ∃ d2 H2 H3, WeakV d H' d2 H2 ∧ Sub H3 H2 ∧ H.next ≤ H3.next ∧ (Neat H → Neat H3) ∧ d2.under H3.next ∧ R d2 H3) : WcD p ext f args H R := by
  intro ψ S h vs s k
  refine (hw ψ S h vs s k).mono ?_
  rintro v h' ⟨ψ', S', d, H', x, s', kd, d2, H2, H3, w, sub, hle, hn, hu, r⟩
  obtain ⟨ψ2, S2, x2, s2, k2⟩ := w ψ' S' h' v s' kd
  refine ⟨cutE ψ2 H3.next, S2, d2, H3, ⟨fun b c e => cutE_some.2 ⟨Nat.lt_of_lt_of_le (s.dom b c e).1 hle, (x.trans x2).emb b c e⟩, (x.trans x2).frz⟩, s2.cut sub (hn s.neat), VD.cut _ hu k2, r⟩
def FnD (p : Prog) (ext : Ext) (f : Nat) (args : List D) (d : D) : Prop := ∀ H, WcD p ext f args H fun d' H' => d' = d ∧ H' = H
theorem sem_fn {f : Nat} {args args' : List D} {d : D} (hf : FnD p ext f args' d) {dst : Option Nat} {l : List MO} {fz lv : List Nat} {K : List KD} {fr : FrD} {H : HpD} (ha : D.les args args') (hs : Sem p ext Q (.ops l fz lv K .mk (putD fr dst d) H)) : Sem p ext Q (.call f args dst l fz lv K .mk fr H) :=
  sem_call ((hf H).args ha) fun _ _ ⟨e1, e2⟩ => by rw [e1, e2]; exact hs
theorem sem_dfn {f : Nat} {args args' : List D} {d : D} (hf : FnD p ext f args' d) {dst : Option Nat} {l : List DO} {lv : List Nat} {K : List KD} {i : Nat} {cs : List (Nat × List Nat)} {ws : List (Nat × Nat)} {pst : List (Nat × HpD)} {fr : FrD} {H : HpD} (ha : D.les args args')
    (hs : Sem p ext Q (.dops l lv K ((i + 1, []) :: dirtyN dst cs) ws .mk (i + 1) H.next ((i + 1, H) :: pst) (putD fr dst d) H)) : Sem p ext Q (.dcall f args dst l lv K cs ws .mk i pst fr H) :=
  sem_dcall ((hf H).args ha) fun _ _ ⟨e1, e2⟩ => by rw [e1, e2]; exact hs
end
end Go.Dv
end

section
namespace Go.Dv
open Go.Vm Go.RowKit
variable {P : Program}
def argD : Arg → D
  | .int k n => .lit (.int k n)
  | .bool b => .lit (.bool b)
  | .nums k xs => .row 1 .w (xs.map fun x => [.lit (.int k x)])
def argOk : Arg → Prop
  | .int k n => (Lit.int k n).wf = true
  | .bool _ => True
  | .nums k xs => (∀ x, x ∈ xs → (Lit.int k x).wf = true) ∧ xs.length ≤ maxLen
def H00 : HpD := ⟨0, fun _ => .gone⟩
theorem SR.start {h : Hp} : SR (fun _ => none) (fun x => x < h.next) H00 h :=
  ⟨fun _ _ _ e => (by cases e), fun _ _ e => (by cases e), fun _ k => k, fun b hl => by cases hl⟩
theorem nums_ok {h : Hp} {ψ : Nat → Option Nat} {S : Nat → Prop} {j : IntKind} : ∀ {xs : List Int} {cs : List V}, (∀ (i : Nat) (x : Int), xs[i]? = some x → cs[i]? = some (V.int j x)) → VDss h ψ S 1 (xs.map fun x => [.lit (.int j x)]) cs
  | [], _, _ => by simp [VDss]
  | x :: xs, cs, hc => by
    have h0 := hc 0 x rfl
    cases cs with
    | nil => simp at h0
    | cons c cs =>
      simp at h0
      subst h0
      simp only [List.map_cons, VDss, VDp, List.length_singleton, List.drop_succ_cons, List.drop_zero]
      exact ⟨trivial, ⟨_, _, rfl, by simp [VD, atomV], trivial⟩, nums_ok fun i y hy => by have := hc (i + 1) y (by simpa using hy); simpa using this⟩
theorem argD_ok {h : Hp} {a : Arg} {v : V} (k : ArgV h a v) : VD h (fun _ => none) (fun x => x < h.next) (argD a) v ∧ argOk a := by
  cases a with
  | int k n => obtain ⟨rfl, hw⟩ := k; exact ⟨by simp [argD, VD, atomV], hw⟩
  | bool b => have : v = .bool b := k; subst this; exact ⟨by simp [argD, VD, atomV], trivial⟩
  | nums j xs =>
    obtain ⟨k1, k2, k3, k4⟩ := k
    refine ⟨?_, k2, k3⟩
    simp only [argD, VD]
    rcases k1 with ⟨h1, rfl⟩ | ⟨b, o, c, ex, l, ro, rfl, h1, h2, h3⟩
    · rcases h1 with rfl | ⟨b, o, c, ex, rfl⟩
      · exact .inl ⟨rfl, rfl⟩
      · exact .inr ⟨b, o, c, ex, rfl, Nat.zero_le _, fun e => (by cases e), .inl ⟨trivial, rfl⟩⟩
    · refine .inr ⟨b, o, c, ex, by simp, by simpa using h2, fun e => (by cases e), .inr ⟨l, ro, k4 b rfl, h1, ?_⟩⟩
      exact nums_ok fun i x hx => by rw [List.getElem?_drop]; exact h3 i x hx
theorem argsOk {h : Hp} : ∀ {as : List Arg} {vs : List V}, ArgsV h as vs → VDl h (fun _ => none) (fun x => x < h.next) (as.map argD) vs ∧ ∀ a, a ∈ as → argOk a
  | [], _, .nil => ⟨by simp [VDl], fun _ hm => by cases hm⟩
  | a :: as, _, .cons ha has => by
    obtain ⟨k1, k2⟩ := argD_ok ha
    obtain ⟨k3, k4⟩ := argsOk has
    refine ⟨by simp only [List.map_cons, VDl]; exact ⟨_, _, rfl, k1, k3⟩, fun x hx => ?_⟩
    rcases List.mem_cons.1 hx with rfl | hx
    · exact k2
    · exact k4 x hx
theorem top_dv (hm : P.follows .mixedOrders = true) {p : Prog} (hp : Valid P p) {ext : Go.Vm.Ext} (hrx : Rises ext) (hx : CallOk P p.env ext) (htab : p.env.tab = []) (hints : IntsOk P p.env.ints)
    {f : Nat} (hen : entered P f = true) {ts : List TypeId} {ks : List ArgK} (hks : KindsOk P ts ks)
    (hw : ∀ as : List Arg, as.map Arg.kind = ks → (∀ a, a ∈ as → argOk a) → WcD p ext f (as.map argD) H00 fun d _ => d = .lit (.bool true))
    {H : Type} {enc : TypeId × Value → H} {w : World} {r : Reach} {b0 : Nat} {us : List Value} {ds : List (DataW H)} {ps : List MemPlace}
    (hval : ∀ (j : Nat) t u, ts[j]? = some t → us[j]? = some u → Value.okWide P w r b0 t u) (hd : DataW.TrodAll enc P w 0 (fun _ => true) true ts us ds ps) :
    Calls P f us.toArray w fun e w' => e = .returned (.bool true) ∧ Below w.heap.size w w' := by
  refine top_args hm hp hrx hx htab hints hen hks (fun h as vs e ha _ => ?_) hval hd
  obtain ⟨k1, k2⟩ := argsOk ha
  refine (hw as e k2 _ _ h vs SR.start k1).mono ?_
  rintro v h' ⟨_, _, d, _, _, _, k, rfl⟩
  simp only [VD] at k
  exact k.1
end Go.Dv
end

section
namespace Go.Dv
open Go.Vm
def pickO (c : D) (a b : D) : Option D := match c with
  | .lit (.bool t) => some (pickD t a b)
  | _ => none
section
variable {env : Env} {n : Nat} {K : List KD} {fr : FrD} {H : HpD} {fz lv : List Nat} {l : List MO} {d : Option Nat}
theorem run_skip : run env (n + 1) (.code .skip K .mk fr H) = run env n (.res (.ok fr H) K .mk) := by rw [run_eq]; rfl
theorem run_region : run env (n + 1) (.code (.region l fz lv) K .mk fr H) = run env n (.ops l fz lv K .mk fr H) := by rw [run_eq]; rfl
theorem run_dregion {l : List DO} : run env (n + 1) (.code (.dregion l lv) K .mk fr H) = run env n (.dops l lv K [(0, [])] [] .mk 0 H.next [(0, H)] fr H) := by rw [run_eq]; rfl
theorem run_seq {a b : KC} : run env (n + 1) (.code (.seq a b) K .mk fr H) = run env n (.code a (.seq b :: K) .mk fr H) := by rw [run_eq]; rfl
theorem run_cond {c : Opd} {a b : KC} : run env (n + 1) (.code (.cond c a b) K .mk fr H) = boolC (evD fr c) (run env n (.code a K .mk fr H)) (run env n (.code b K .mk fr H)) := by rw [run_eq]; rfl
theorem run_block {id : Nat} {c : KC} : run env (n + 1) (.code (.block id c) K .mk fr H) = run env n (.code c (.block id :: K) .mk fr H) := by rw [run_eq]; rfl
theorem run_loop {c : KC} : run env (n + 1) (.code (.loop c) K .mk fr H) = .code (.loop c) K .mk fr H := by rw [run_eq]; rfl
theorem run_exit {id : Nat} : run env (n + 1) (.code (.exit id) K .mk fr H) = run env n (.res (.exit id fr H) K .mk) := by rw [run_eq]; rfl
theorem run_exit_seq {id : Nat} {b : KC} : run env (n + 1) (.res (.exit id fr H) (.seq b :: K) .mk) = run env n (.res (.exit id fr H) K .mk) := by rw [run_eq]; rfl
theorem run_exit_block {id id' : Nat} : run env (n + 1) (.res (.exit id fr H) (.block id' :: K) .mk) = exitC (decide (id = id')) (run env n (.res (.ok fr H) K .mk)) (run env n (.res (.exit id fr H) K .mk)) := by rw [run_eq, ← nbeq_d]; rfl
theorem exitC_t {a b : Cfg} : exitC true a b = a := rfl
theorem exitC_f {a b : Cfg} : exitC false a b = b := rfl
theorem run_ret : run env (n + 1) (.code .ret K .mk fr H) = .res (.ret fr H) [] .mk := by rw [run_eq]; rfl
theorem run_ok_seq {b : KC} : run env (n + 1) (.res (.ok fr H) (.seq b :: K) .mk) = run env n (.code b K .mk fr H) := by rw [run_eq]; rfl
theorem run_ok_block {id : Nat} : run env (n + 1) (.res (.ok fr H) (.block id :: K) .mk) = run env n (.res (.ok fr H) K .mk) := by rw [run_eq]; rfl
theorem run_ok_nil : run env (n + 1) (.res (.ok fr H) [] .mk) = .res (.ok fr H) [] .mk := by rw [run_eq]; rfl
theorem run_res_exit {id : Nat} : run env (n + 1) (.res (.exit id fr H) [] .mk) = .res (.exit id fr H) [] .mk := by rw [run_eq]; rfl
theorem run_res_ret : run env (n + 1) (.res (.ret fr H) K .mk) = .res (.ret fr H) K .mk := by rw [run_eq]; rfl
theorem run_ops_nil : run env (n + 1) (.ops [] fz lv K .mk fr H) = run env n (.res (.ok (keep lv fr) H) K .mk) := by rw [run_eq]; rfl
theorem run_guard {o : MOp} {t : Nat} {w : Bool} : run env (n + 1) (.ops (⟨d, o, some (t, w)⟩ :: l) fz lv K .mk fr H) = gateC (lk fr t) w (run env n (.ops (⟨d, o, none⟩ :: l) fz lv K .mk fr H)) (run env n (.ops l fz lv K .mk (putD fr d (.tup [])) H)) := by rw [run_eq]; rfl
theorem run_mov {x : Opd} : run env (n + 1) (.ops (⟨d, .p (.mov x), none⟩ :: l) fz lv K .mk fr H) = run env n (.ops l fz lv K .mk (putD fr d (evD fr x)) H) := by rw [run_eq]; rfl
theorem run_pick {x y z : Opd} : run env (n + 1) (.ops (⟨d, .p (.pick x y z), none⟩ :: l) fz lv K .mk fr H) = optC (pickO (evD fr x) (evD fr y) (evD fr z)) fun r => run env n (.ops l fz lv K .mk (putD fr d r) H) := by rw [run_eq]; rfl
theorem run_build {c : List V} {ps : List (Nat × Nat × Opd)} : run env (n + 1) (.ops (⟨d, .p (.build c ps), none⟩ :: l) fz lv K .mk fr H) = optC (aggD (fillD (dVs c) (evPartsD fr ps))) fun r => run env n (.ops l fz lv K .mk (putD fr d r) H) := by rw [run_eq]; rfl
theorem run_nilchk {x : Opd} : run env (n + 1) (.ops (⟨d, .p (.nilchk x), none⟩ :: l) fz lv K .mk fr H) = optC (nilchkD (evD fr x)) fun r => run env n (.ops l fz lv K .mk (putD fr d r) H) := by rw [run_eq]; rfl
theorem run_bin {op : BinOp} {x y : Opd} : run env (n + 1) (.ops (⟨d, .p (.bin op x y), none⟩ :: l) fz lv K .mk fr H) = optC (binD env.tab op (evD fr x) (evD fr y)) fun r => run env n (.ops l fz lv K .mk (putD fr d r) H) := by rw [run_eq]; rfl
theorem run_eq_bool {neg : Bool} {x y : Opd} : run env (n + 1) (.ops (⟨d, .p (.eq .bool neg x y), none⟩ :: l) fz lv K .mk fr H) = optC (eqD .bool neg (evD fr x) (evD fr y)) fun r => run env n (.ops l fz lv K .mk (putD fr d r) H) := by rw [run_eq]; rfl
theorem run_eq_int {neg : Bool} {x y : Opd} : run env (n + 1) (.ops (⟨d, .p (.eq .int neg x y), none⟩ :: l) fz lv K .mk fr H) = optC (eqD .int neg (evD fr x) (evD fr y)) fun r => run env n (.ops l fz lv K .mk (putD fr d r) H) := by rw [run_eq]; rfl
theorem run_eq_str {neg : Bool} {x y : Opd} : run env (n + 1) (.ops (⟨d, .p (.eq .str neg x y), none⟩ :: l) fz lv K .mk fr H) = optC (eqD .str neg (evD fr x) (evD fr y)) fun r => run env n (.ops l fz lv K .mk (putD fr d r) H) := by rw [run_eq]; rfl
theorem run_eq_ptr {neg : Bool} {x y : Opd} : run env (n + 1) (.ops (⟨d, .p (.eq .ptr neg x y), none⟩ :: l) fz lv K .mk fr H) = optC (eqD .ptr neg (evD fr x) (evD fr y)) fun r => run env n (.ops l fz lv K .mk (putD fr d r) H) := by rw [run_eq]; rfl
theorem run_eq_map {neg : Bool} {x y : Opd} : run env (n + 1) (.ops (⟨d, .p (.eq .map neg x y), none⟩ :: l) fz lv K .mk fr H) = optC (eqD .map neg (evD fr x) (evD fr y)) fun r => run env n (.ops l fz lv K .mk (putD fr d r) H) := by rw [run_eq]; rfl
theorem run_eq_func {neg : Bool} {x y : Opd} : run env (n + 1) (.ops (⟨d, .p (.eq .func neg x y), none⟩ :: l) fz lv K .mk fr H) = optC (eqD .func neg (evD fr x) (evD fr y)) fun r => run env n (.ops l fz lv K .mk (putD fr d r) H) := by rw [run_eq]; rfl
theorem run_eq_iface {neg : Bool} {x y : Opd} : run env (n + 1) (.ops (⟨d, .p (.eq .iface neg x y), none⟩ :: l) fz lv K .mk fr H) = optC (eqD .iface neg (evD fr x) (evD fr y)) fun r => run env n (.ops l fz lv K .mk (putD fr d r) H) := by rw [run_eq]; rfl
theorem run_eq_struct {fs : List (Nat × Option Nat × ETy)} {neg : Bool} {x y : Opd} : run env (n + 1) (.ops (⟨d, .p (.eq (.struct fs) neg x y), none⟩ :: l) fz lv K .mk fr H) = optC (eqD (.struct fs) neg (evD fr x) (evD fr y)) fun r => run env n (.ops l fz lv K .mk (putD fr d r) H) := by rw [run_eq]; rfl
theorem run_eqi {li neg : Bool} {x y : Opd} : run env (n + 1) (.ops (⟨d, .p (.eqi li neg x y), none⟩ :: l) fz lv K .mk fr H) = optC (eqiD env.ints li neg (evD fr x) (evD fr y)) fun r => run env n (.ops l fz lv K .mk (putD fr d r) H) := by rw [run_eq]; rfl
theorem run_neg {x : Opd} : run env (n + 1) (.ops (⟨d, .p (.neg x), none⟩ :: l) fz lv K .mk fr H) = optC (lit1 negV (evD fr x)) fun r => run env n (.ops l fz lv K .mk (putD fr d r) H) := by rw [run_eq]; rfl
theorem run_not {x : Opd} : run env (n + 1) (.ops (⟨d, .p (.not x), none⟩ :: l) fz lv K .mk fr H) = optC (lit1 notV (evD fr x)) fun r => run env n (.ops l fz lv K .mk (putD fr d r) H) := by rw [run_eq]; rfl
theorem run_compl {x : Opd} : run env (n + 1) (.ops (⟨d, .p (.compl x), none⟩ :: l) fz lv K .mk fr H) = optC (lit1 complV (evD fr x)) fun r => run env n (.ops l fz lv K .mk (putD fr d r) H) := by rw [run_eq]; rfl
theorem run_conv {c : CTy} {x : Opd} : run env (n + 1) (.ops (⟨d, .p (.conv c x), none⟩ :: l) fz lv K .mk fr H) = optC (lit1 (convV c) (evD fr x)) fun r => run env n (.ops l fz lv K .mk (putD fr d r) H) := by rw [run_eq]; rfl
theorem run_mkiface {t : Nat} {x : Opd} : run env (n + 1) (.ops (⟨d, .p (.mkiface t x), none⟩ :: l) fz lv K .mk fr H) = run env n (.ops l fz lv K .mk (putD fr d (.iface t (evD fr x))) H) := by rw [run_eq]; rfl
theorem run_mkfunc {f : Nat} {a c : List Opd} : run env (n + 1) (.ops (⟨d, .p (.mkfunc f a c), none⟩ :: l) fz lv K .mk fr H) = run env n (.ops l fz lv K .mk (putD fr d (.func f (evsD fr a) (evsD fr c))) H) := by rw [run_eq]; rfl
theorem run_slc {sz : Nat} {x : Opd} {a b c : Option Opd} : run env (n + 1) (.ops (⟨d, .p (.slc sz x a b c), none⟩ :: l) fz lv K .mk fr H) = optC (slcD sz (evD fr x) (evoD fr a) (evoD fr b) (evoD fr c)) fun r => run env n (.ops l fz lv K .mk (putD fr d r) H) := by rw [run_eq]; rfl
theorem run_sls {x : Opd} {a b : Option Opd} : run env (n + 1) (.ops (⟨d, .p (.sls x a b), none⟩ :: l) fz lv K .mk fr H) = optC (slsD (evD fr x) (evoD fr a) (evoD fr b)) fun r => run env n (.ops l fz lv K .mk (putD fr d r) H) := by rw [run_eq]; rfl
theorem run_sla {m sz : Nat} {x : Opd} {a b c : Option Opd} : run env (n + 1) (.ops (⟨d, .p (.sla m sz x a b c), none⟩ :: l) fz lv K .mk fr H) = optC (slaD m sz (evD fr x) (evoD fr a) (evoD fr b) (evoD fr c)) fun r => run env n (.ops l fz lv K .mk (putD fr d r) H) := by rw [run_eq]; rfl
theorem run_faddr {off : Nat} {x : Opd} : run env (n + 1) (.ops (⟨d, .p (.faddr off x), none⟩ :: l) fz lv K .mk fr H) = optC (faddrD off (evD fr x)) fun r => run env n (.ops l fz lv K .mk (putD fr d r) H) := by rw [run_eq]; rfl
theorem run_field1 {off : Nat} {x : Opd} : run env (n + 1) (.ops (⟨d, .p (.field1 off x), none⟩ :: l) fz lv K .mk fr H) = optC (field1D off (evD fr x)) fun r => run env n (.ops l fz lv K .mk (putD fr d r) H) := by rw [run_eq]; rfl
theorem run_fieldn {off m : Nat} {x : Opd} : run env (n + 1) (.ops (⟨d, .p (.fieldn off m x), none⟩ :: l) fz lv K .mk fr H) = optC (fieldnD off m (evD fr x)) fun r => run env n (.ops l fz lv K .mk (putD fr d r) H) := by rw [run_eq]; rfl
theorem run_iaddr {sz : Nat} {x y : Opd} : run env (n + 1) (.ops (⟨d, .p (.iaddr sz x y), none⟩ :: l) fz lv K .mk fr H) = optC (iaddrD sz (evD fr x) (evD fr y)) fun r => run env n (.ops l fz lv K .mk (putD fr d r) H) := by rw [run_eq]; rfl
theorem run_iaddra {m sz : Nat} {x y : Opd} : run env (n + 1) (.ops (⟨d, .p (.iaddra m sz x y), none⟩ :: l) fz lv K .mk fr H) = optC (iaddraD m sz (evD fr x) (evD fr y)) fun r => run env n (.ops l fz lv K .mk (putD fr d r) H) := by rw [run_eq]; rfl
theorem run_idxs {x y : Opd} : run env (n + 1) (.ops (⟨d, .p (.idxs x y), none⟩ :: l) fz lv K .mk fr H) = optC (idxsD (evD fr x) (evD fr y)) fun r => run env n (.ops l fz lv K .mk (putD fr d r) H) := by rw [run_eq]; rfl
theorem run_idx1 {m : Nat} {x y : Opd} : run env (n + 1) (.ops (⟨d, .p (.idx1 m x y), none⟩ :: l) fz lv K .mk fr H) = optC (idx1D m (evD fr x) (evD fr y)) fun r => run env n (.ops l fz lv K .mk (putD fr d r) H) := by rw [run_eq]; rfl
theorem run_idxn {m sz : Nat} {x y : Opd} : run env (n + 1) (.ops (⟨d, .p (.idxn m sz x y), none⟩ :: l) fz lv K .mk fr H) = optC (idxnD m sz (evD fr x) (evD fr y)) fun r => run env n (.ops l fz lv K .mk (putD fr d r) H) := by rw [run_eq]; rfl
theorem run_ext {x : Opd} {j : Nat} : run env (n + 1) (.ops (⟨d, .p (.ext x j), none⟩ :: l) fz lv K .mk fr H) = optC (extD j (evD fr x)) fun r => run env n (.ops l fz lv K .mk (putD fr d r) H) := by rw [run_eq]; rfl
theorem run_lens {x : Opd} : run env (n + 1) (.ops (⟨d, .p (.lens x), none⟩ :: l) fz lv K .mk fr H) = optC (lit1 lensV (evD fr x)) fun r => run env n (.ops l fz lv K .mk (putD fr d r) H) := by rw [run_eq]; rfl
theorem run_lenb {x : Opd} : run env (n + 1) (.ops (⟨d, .p (.lenb x), none⟩ :: l) fz lv K .mk fr H) = optC (lenbD (evD fr x)) fun r => run env n (.ops l fz lv K .mk (putD fr d r) H) := by rw [run_eq]; rfl
theorem run_lena {m : Nat} : run env (n + 1) (.ops (⟨d, .p (.lena m), none⟩ :: l) fz lv K .mk fr H) = run env n (.ops l fz lv K .mk (putD fr d (.lit (.int .i64 (m : Int)))) H) := by rw [run_eq]; rfl
theorem run_caps {x : Opd} : run env (n + 1) (.ops (⟨d, .p (.caps x), none⟩ :: l) fz lv K .mk fr H) = optC (capsD (evD fr x)) fun r => run env n (.ops l fz lv K .mk (putD fr d r) H) := by rw [run_eq]; rfl
theorem run_min {xs : List Opd} : run env (n + 1) (.ops (⟨d, .p (.min xs), none⟩ :: l) fz lv K .mk fr H) = optC (foldD (min2V env.tab) (evsD fr xs)) fun r => run env n (.ops l fz lv K .mk (putD fr d r) H) := by rw [run_eq]; rfl
theorem run_max {xs : List Opd} : run env (n + 1) (.ops (⟨d, .p (.max xs), none⟩ :: l) fz lv K .mk fr H) = optC (foldD (max2V env.tab) (evsD fr xs)) fun r => run env n (.ops l fz lv K .mk (putD fr d r) H) := by rw [run_eq]; rfl
theorem run_eq_slice {neg : Bool} {x y : Opd} : run env (n + 1) (.ops (⟨d, .p (.eq .slice neg x y), none⟩ :: l) fz lv K .mk fr H) = nilC (evD fr x) (evD fr y) fun r => run env n (.ops l fz lv K .mk (putD fr d (.lit (.bool (cond neg (!r) r)))) H) := by rw [run_eq]; rfl
theorem run_a {o : AOp} : run env (n + 1) (.ops (⟨d, .a o, none⟩ :: l) fz lv K .mk fr H) = optH (aD fr H (inL d fz) o) fun x H' => run env n (.ops l fz lv K .mk (putD fr d x) H') := by rw [run_eq]; rfl
theorem run_load1 {x : Opd} : run env (n + 1) (.ops (⟨d, .load1 x, none⟩ :: l) fz lv K .mk fr H) = optC (loadD H (evD fr x)) fun x => run env n (.ops l fz lv K .mk (putD fr d x) H) := by rw [run_eq]; rfl
theorem run_loadn {x : Opd} {m : Nat} : run env (n + 1) (.ops (⟨d, .loadn m x, none⟩ :: l) fz lv K .mk fr H) = optC (loadnD H m (evD fr x)) fun x => run env n (.ops l fz lv K .mk (putD fr d x) H) := by rw [run_eq]; rfl
theorem run_call {f : Nat} {a : List Opd} : run env (n + 1) (.ops (⟨d, .e (.call f a), none⟩ :: l) fz lv K .mk fr H) = .call f (evsD fr a) d l fz lv K .mk fr H := by rw [run_eq]; rfl
theorem run_extern {f : Nat} {a : List Opd} : run env (n + 1) (.ops (⟨d, .e (.extern f a), none⟩ :: l) fz lv K .mk fr H) = .call f (evsD fr a) d l fz lv K .mk fr H := by rw [run_eq]; rfl
theorem run_callv {x : Opd} {a : List Opd} : run env (n + 1) (.ops (⟨d, .e (.callv x a), none⟩ :: l) fz lv K .mk fr H) = funC (evD fr x) fun f fi ca => .call f (fi ++ evsD fr a ++ ca) d l fz lv K .mk fr H := by rw [run_eq]; rfl
theorem run_store {sz : Nat} {a x : Opd} : run env (n + 1) (.ops (⟨d, .e (.store sz a x), none⟩ :: l) fz lv K .mk fr H) = optH (storeD H sz (evD fr a) (evD fr x)) fun x H' => run env n (.ops l fz lv K .mk (putD fr d x) H') := by rw [run_eq]; rfl
theorem run_append {sz b : Nat} {a x : Opd} : run env (n + 1) (.ops (⟨d, .e (.append sz b a x), none⟩ :: l) fz lv K .mk fr H) = optH (appendD sz b H (evD fr a) (evD fr x)) fun x H' => run env n (.ops l fz lv K .mk (putD fr d x) H') := by rw [run_eq]; rfl
theorem run_appendz {z : List V} {sz b : Nat} {a x : Opd} : run env (n + 1) (.ops (⟨d, .e (.appendz z sz b a x), none⟩ :: l) fz lv K .mk fr H) = optH (appendZD z sz b H (evD fr a) (evD fr x)) fun x H' => run env n (.ops l fz lv K .mk (putD fr d x) H') := by rw [run_eq]; rfl
theorem run_copy {sz : Nat} {a x : Opd} : run env (n + 1) (.ops (⟨d, .e (.copy sz a x), none⟩ :: l) fz lv K .mk fr H) = optH (copyD H sz (evD fr a) (evD fr x)) fun x H' => run env n (.ops l fz lv K .mk (putD fr d x) H') := by rw [run_eq]; rfl
theorem run_clear {z : List V} {x : Opd} : run env (n + 1) (.ops (⟨d, .e (.clear z x), none⟩ :: l) fz lv K .mk fr H) = optH (clearD H z (evD fr x)) fun x H' => run env n (.ops l fz lv K .mk (putD fr d x) H') := by rw [run_eq]; rfl
theorem run_text {x : Opd} : run env (n + 1) (.ops (⟨d, .e (.text x), none⟩ :: l) fz lv K .mk fr H) = optH (textD H (evD fr x)) fun x H' => run env n (.ops l fz lv K .mk (putD fr d x) H') := by rw [run_eq]; rfl
theorem run_lookup {sk : Bool} {z : V} {ok : Bool} {m k : Opd} : run env (n + 1) (.ops (⟨d, .e (.lookup sk z ok m k), none⟩ :: l) fz lv K .mk fr H) = optH (lookupD H sk z ok (evD fr m) (evD fr k)) fun x H' => run env n (.ops l fz lv K .mk (putD fr d x) H') := by rw [run_eq]; rfl
theorem run_mapput {sk : Bool} {m k x : Opd} : run env (n + 1) (.ops (⟨d, .e (.mapput sk m k x), none⟩ :: l) fz lv K .mk fr H) = optH (mapputD H sk (evD fr m) (evD fr k) (evD fr x)) fun x H' => run env n (.ops l fz lv K .mk (putD fr d x) H') := by rw [run_eq]; rfl
theorem run_delete {sk : Bool} {m k : Opd} : run env (n + 1) (.ops (⟨d, .e (.delete sk m k), none⟩ :: l) fz lv K .mk fr H) = optH (mapdelD H sk (evD fr m) (evD fr k)) fun x H' => run env n (.ops l fz lv K .mk (putD fr d x) H') := by rw [run_eq]; rfl
theorem run_lenm {m : Opd} : run env (n + 1) (.ops (⟨d, .e (.lenm m), none⟩ :: l) fz lv K .mk fr H) = optH (lenmD H (evD fr m)) fun x H' => run env n (.ops l fz lv K .mk (putD fr d x) H') := by rw [run_eq]; rfl
theorem run_mark {m : Opd} : run env (n + 1) (.ops (⟨d, .e (.mark m), none⟩ :: l) fz lv K .mk fr H) = optH (markD H (evD fr m)) fun x H' => run env n (.ops l fz lv K .mk (putD fr d x) H') := by rw [run_eq]; rfl
variable {l : List DO} {i lo hi nx : Nat} {cs : List (Nat × List Nat)} {ws : List (Nat × Nat)} {pst : List (Nat × HpD)}
theorem run_d_nil : run env (n + 1) (.dops [] lv K cs ws .mk i nx pst fr H) = run env n (.res (.ok (keep lv fr) H) K .mk) := by rw [run_eq]; rfl
theorem run_d_guard {o : MOp} {t : Nat} {w : Bool} : run env (n + 1) (.dops (⟨⟨d, o, some (t, w)⟩, lo, hi⟩ :: l) lv K cs ws .mk i nx pst fr H) = gateC (lk fr t) w (run env n (.dops (⟨⟨d, o, none⟩, lo, hi⟩ :: l) lv K cs ws .mk i nx pst fr H))
      (run env n (.dops l lv K (dirtyO d o i cs) (addWin o lo hi ws) .mk (i + 1) (bif isE o then H.next else nx) (bif isE o then (i + 1, H) :: pst else pst) (putD fr d (.tup [])) H)) := by rw [run_eq]; rfl
theorem run_d_mov {x : Opd} : run env (n + 1) (.dops (⟨⟨d, .p (.mov x), none⟩, lo, hi⟩ :: l) lv K cs ws .mk i nx pst fr H) = run env n (.dops l lv K (dirtyP d (.mov x) cs) ws .mk (i + 1) nx pst (putD fr d (evD fr x)) H) := by rw [run_eq]; rfl
theorem run_d_pick {x y z : Opd} : run env (n + 1) (.dops (⟨⟨d, .p (.pick x y z), none⟩, lo, hi⟩ :: l) lv K cs ws .mk i nx pst fr H) = optC (pickO (evD fr x) (evD fr y) (evD fr z)) fun r => run env n (.dops l lv K (dirtyP d (.pick x y z) cs) ws .mk (i + 1) nx pst (putD fr d r) H) := by rw [run_eq]; rfl
theorem run_d_build {c : List V} {ps : List (Nat × Nat × Opd)} : run env (n + 1) (.dops (⟨⟨d, .p (.build c ps), none⟩, lo, hi⟩ :: l) lv K cs ws .mk i nx pst fr H) = optC (aggD (fillD (dVs c) (evPartsD fr ps))) fun r => run env n (.dops l lv K (dirtyP d (.build c ps) cs) ws .mk (i + 1) nx pst (putD fr d r) H) := by rw [run_eq]; rfl
theorem run_d_nilchk {x : Opd} : run env (n + 1) (.dops (⟨⟨d, .p (.nilchk x), none⟩, lo, hi⟩ :: l) lv K cs ws .mk i nx pst fr H) = optC (nilchkD (evD fr x)) fun r => run env n (.dops l lv K (dirtyP d (.nilchk x) cs) ws .mk (i + 1) nx pst (putD fr d r) H) := by rw [run_eq]; rfl
theorem run_d_bin {op : BinOp} {x y : Opd} : run env (n + 1) (.dops (⟨⟨d, .p (.bin op x y), none⟩, lo, hi⟩ :: l) lv K cs ws .mk i nx pst fr H) = optC (binD env.tab op (evD fr x) (evD fr y)) fun r => run env n (.dops l lv K (dirtyP d (.bin op x y) cs) ws .mk (i + 1) nx pst (putD fr d r) H) := by rw [run_eq]; rfl
theorem run_d_eq_bool {neg : Bool} {x y : Opd} : run env (n + 1) (.dops (⟨⟨d, .p (.eq .bool neg x y), none⟩, lo, hi⟩ :: l) lv K cs ws .mk i nx pst fr H) = optC (eqD .bool neg (evD fr x) (evD fr y)) fun r => run env n (.dops l lv K (dirtyP d (.eq .bool neg x y) cs) ws .mk (i + 1) nx pst (putD fr d r) H) := by rw [run_eq]; rfl
theorem run_d_eq_int {neg : Bool} {x y : Opd} : run env (n + 1) (.dops (⟨⟨d, .p (.eq .int neg x y), none⟩, lo, hi⟩ :: l) lv K cs ws .mk i nx pst fr H) = optC (eqD .int neg (evD fr x) (evD fr y)) fun r => run env n (.dops l lv K (dirtyP d (.eq .int neg x y) cs) ws .mk (i + 1) nx pst (putD fr d r) H) := by rw [run_eq]; rfl
theorem run_d_eq_str {neg : Bool} {x y : Opd} : run env (n + 1) (.dops (⟨⟨d, .p (.eq .str neg x y), none⟩, lo, hi⟩ :: l) lv K cs ws .mk i nx pst fr H) = optC (eqD .str neg (evD fr x) (evD fr y)) fun r => run env n (.dops l lv K (dirtyP d (.eq .str neg x y) cs) ws .mk (i + 1) nx pst (putD fr d r) H) := by rw [run_eq]; rfl
theorem run_d_eq_ptr {neg : Bool} {x y : Opd} : run env (n + 1) (.dops (⟨⟨d, .p (.eq .ptr neg x y), none⟩, lo, hi⟩ :: l) lv K cs ws .mk i nx pst fr H) = optC (eqD .ptr neg (evD fr x) (evD fr y)) fun r => run env n (.dops l lv K (dirtyP d (.eq .ptr neg x y) cs) ws .mk (i + 1) nx pst (putD fr d r) H) := by rw [run_eq]; rfl
theorem run_d_eq_map {neg : Bool} {x y : Opd} : run env (n + 1) (.dops (⟨⟨d, .p (.eq .map neg x y), none⟩, lo, hi⟩ :: l) lv K cs ws .mk i nx pst fr H) = optC (eqD .map neg (evD fr x) (evD fr y)) fun r => run env n (.dops l lv K (dirtyP d (.eq .map neg x y) cs) ws .mk (i + 1) nx pst (putD fr d r) H) := by rw [run_eq]; rfl
theorem run_d_eq_func {neg : Bool} {x y : Opd} : run env (n + 1) (.dops (⟨⟨d, .p (.eq .func neg x y), none⟩, lo, hi⟩ :: l) lv K cs ws .mk i nx pst fr H) = optC (eqD .func neg (evD fr x) (evD fr y)) fun r => run env n (.dops l lv K (dirtyP d (.eq .func neg x y) cs) ws .mk (i + 1) nx pst (putD fr d r) H) := by rw [run_eq]; rfl
theorem run_d_eq_iface {neg : Bool} {x y : Opd} : run env (n + 1) (.dops (⟨⟨d, .p (.eq .iface neg x y), none⟩, lo, hi⟩ :: l) lv K cs ws .mk i nx pst fr H) = optC (eqD .iface neg (evD fr x) (evD fr y)) fun r => run env n (.dops l lv K (dirtyP d (.eq .iface neg x y) cs) ws .mk (i + 1) nx pst (putD fr d r) H) := by rw [run_eq]; rfl
theorem run_d_eq_struct {fs : List (Nat × Option Nat × ETy)} {neg : Bool} {x y : Opd} : run env (n + 1) (.dops (⟨⟨d, .p (.eq (.struct fs) neg x y), none⟩, lo, hi⟩ :: l) lv K cs ws .mk i nx pst fr H) = optC (eqD (.struct fs) neg (evD fr x) (evD fr y)) fun r => run env n (.dops l lv K (dirtyP d (.eq (.struct fs) neg x y) cs) ws .mk (i + 1) nx pst (putD fr d r) H) := by rw [run_eq]; rfl
theorem run_d_eqi {li neg : Bool} {x y : Opd} : run env (n + 1) (.dops (⟨⟨d, .p (.eqi li neg x y), none⟩, lo, hi⟩ :: l) lv K cs ws .mk i nx pst fr H) = optC (eqiD env.ints li neg (evD fr x) (evD fr y)) fun r => run env n (.dops l lv K (dirtyP d (.eqi li neg x y) cs) ws .mk (i + 1) nx pst (putD fr d r) H) := by rw [run_eq]; rfl
theorem run_d_neg {x : Opd} : run env (n + 1) (.dops (⟨⟨d, .p (.neg x), none⟩, lo, hi⟩ :: l) lv K cs ws .mk i nx pst fr H) = optC (lit1 negV (evD fr x)) fun r => run env n (.dops l lv K (dirtyP d (.neg x) cs) ws .mk (i + 1) nx pst (putD fr d r) H) := by rw [run_eq]; rfl
theorem run_d_not {x : Opd} : run env (n + 1) (.dops (⟨⟨d, .p (.not x), none⟩, lo, hi⟩ :: l) lv K cs ws .mk i nx pst fr H) = optC (lit1 notV (evD fr x)) fun r => run env n (.dops l lv K (dirtyP d (.not x) cs) ws .mk (i + 1) nx pst (putD fr d r) H) := by rw [run_eq]; rfl
theorem run_d_compl {x : Opd} : run env (n + 1) (.dops (⟨⟨d, .p (.compl x), none⟩, lo, hi⟩ :: l) lv K cs ws .mk i nx pst fr H) = optC (lit1 complV (evD fr x)) fun r => run env n (.dops l lv K (dirtyP d (.compl x) cs) ws .mk (i + 1) nx pst (putD fr d r) H) := by rw [run_eq]; rfl
theorem run_d_conv {c : CTy} {x : Opd} : run env (n + 1) (.dops (⟨⟨d, .p (.conv c x), none⟩, lo, hi⟩ :: l) lv K cs ws .mk i nx pst fr H) = optC (lit1 (convV c) (evD fr x)) fun r => run env n (.dops l lv K (dirtyP d (.conv c x) cs) ws .mk (i + 1) nx pst (putD fr d r) H) := by rw [run_eq]; rfl
theorem run_d_mkiface {t : Nat} {x : Opd} : run env (n + 1) (.dops (⟨⟨d, .p (.mkiface t x), none⟩, lo, hi⟩ :: l) lv K cs ws .mk i nx pst fr H) = run env n (.dops l lv K (dirtyP d (.mkiface t x) cs) ws .mk (i + 1) nx pst (putD fr d (.iface t (evD fr x))) H) := by rw [run_eq]; rfl
theorem run_d_mkfunc {f : Nat} {a c : List Opd} : run env (n + 1) (.dops (⟨⟨d, .p (.mkfunc f a c), none⟩, lo, hi⟩ :: l) lv K cs ws .mk i nx pst fr H) = run env n (.dops l lv K (dirtyP d (.mkfunc f a c) cs) ws .mk (i + 1) nx pst (putD fr d (.func f (evsD fr a) (evsD fr c))) H) := by rw [run_eq]; rfl
theorem run_d_slc {sz : Nat} {x : Opd} {a b c : Option Opd} : run env (n + 1) (.dops (⟨⟨d, .p (.slc sz x a b c), none⟩, lo, hi⟩ :: l) lv K cs ws .mk i nx pst fr H) = optC (slcD sz (evD fr x) (evoD fr a) (evoD fr b) (evoD fr c)) fun r => run env n (.dops l lv K (dirtyP d (.slc sz x a b c) cs) ws .mk (i + 1) nx pst (putD fr d r) H) := by rw [run_eq]; rfl
theorem run_d_sls {x : Opd} {a b : Option Opd} : run env (n + 1) (.dops (⟨⟨d, .p (.sls x a b), none⟩, lo, hi⟩ :: l) lv K cs ws .mk i nx pst fr H) = optC (slsD (evD fr x) (evoD fr a) (evoD fr b)) fun r => run env n (.dops l lv K (dirtyP d (.sls x a b) cs) ws .mk (i + 1) nx pst (putD fr d r) H) := by rw [run_eq]; rfl
theorem run_d_sla {m sz : Nat} {x : Opd} {a b c : Option Opd} : run env (n + 1) (.dops (⟨⟨d, .p (.sla m sz x a b c), none⟩, lo, hi⟩ :: l) lv K cs ws .mk i nx pst fr H) = optC (slaD m sz (evD fr x) (evoD fr a) (evoD fr b) (evoD fr c)) fun r => run env n (.dops l lv K (dirtyP d (.sla m sz x a b c) cs) ws .mk (i + 1) nx pst (putD fr d r) H) := by rw [run_eq]; rfl
theorem run_d_faddr {off : Nat} {x : Opd} : run env (n + 1) (.dops (⟨⟨d, .p (.faddr off x), none⟩, lo, hi⟩ :: l) lv K cs ws .mk i nx pst fr H) = optC (faddrD off (evD fr x)) fun r => run env n (.dops l lv K (dirtyP d (.faddr off x) cs) ws .mk (i + 1) nx pst (putD fr d r) H) := by rw [run_eq]; rfl
theorem run_d_field1 {off : Nat} {x : Opd} : run env (n + 1) (.dops (⟨⟨d, .p (.field1 off x), none⟩, lo, hi⟩ :: l) lv K cs ws .mk i nx pst fr H) = optC (field1D off (evD fr x)) fun r => run env n (.dops l lv K (dirtyP d (.field1 off x) cs) ws .mk (i + 1) nx pst (putD fr d r) H) := by rw [run_eq]; rfl
theorem run_d_fieldn {off m : Nat} {x : Opd} : run env (n + 1) (.dops (⟨⟨d, .p (.fieldn off m x), none⟩, lo, hi⟩ :: l) lv K cs ws .mk i nx pst fr H) = optC (fieldnD off m (evD fr x)) fun r => run env n (.dops l lv K (dirtyP d (.fieldn off m x) cs) ws .mk (i + 1) nx pst (putD fr d r) H) := by rw [run_eq]; rfl
theorem run_d_iaddr {sz : Nat} {x y : Opd} : run env (n + 1) (.dops (⟨⟨d, .p (.iaddr sz x y), none⟩, lo, hi⟩ :: l) lv K cs ws .mk i nx pst fr H) = optC (iaddrD sz (evD fr x) (evD fr y)) fun r => run env n (.dops l lv K (dirtyP d (.iaddr sz x y) cs) ws .mk (i + 1) nx pst (putD fr d r) H) := by rw [run_eq]; rfl
theorem run_d_iaddra {m sz : Nat} {x y : Opd} : run env (n + 1) (.dops (⟨⟨d, .p (.iaddra m sz x y), none⟩, lo, hi⟩ :: l) lv K cs ws .mk i nx pst fr H) = optC (iaddraD m sz (evD fr x) (evD fr y)) fun r => run env n (.dops l lv K (dirtyP d (.iaddra m sz x y) cs) ws .mk (i + 1) nx pst (putD fr d r) H) := by rw [run_eq]; rfl
theorem run_d_idxs {x y : Opd} : run env (n + 1) (.dops (⟨⟨d, .p (.idxs x y), none⟩, lo, hi⟩ :: l) lv K cs ws .mk i nx pst fr H) = optC (idxsD (evD fr x) (evD fr y)) fun r => run env n (.dops l lv K (dirtyP d (.idxs x y) cs) ws .mk (i + 1) nx pst (putD fr d r) H) := by rw [run_eq]; rfl
theorem run_d_idx1 {m : Nat} {x y : Opd} : run env (n + 1) (.dops (⟨⟨d, .p (.idx1 m x y), none⟩, lo, hi⟩ :: l) lv K cs ws .mk i nx pst fr H) = optC (idx1D m (evD fr x) (evD fr y)) fun r => run env n (.dops l lv K (dirtyP d (.idx1 m x y) cs) ws .mk (i + 1) nx pst (putD fr d r) H) := by rw [run_eq]; rfl
theorem run_d_idxn {m sz : Nat} {x y : Opd} : run env (n + 1) (.dops (⟨⟨d, .p (.idxn m sz x y), none⟩, lo, hi⟩ :: l) lv K cs ws .mk i nx pst fr H) = optC (idxnD m sz (evD fr x) (evD fr y)) fun r => run env n (.dops l lv K (dirtyP d (.idxn m sz x y) cs) ws .mk (i + 1) nx pst (putD fr d r) H) := by rw [run_eq]; rfl
theorem run_d_ext {x : Opd} {j : Nat} : run env (n + 1) (.dops (⟨⟨d, .p (.ext x j), none⟩, lo, hi⟩ :: l) lv K cs ws .mk i nx pst fr H) = optC (extD j (evD fr x)) fun r => run env n (.dops l lv K (dirtyP d (.ext x j) cs) ws .mk (i + 1) nx pst (putD fr d r) H) := by rw [run_eq]; rfl
theorem run_d_lens {x : Opd} : run env (n + 1) (.dops (⟨⟨d, .p (.lens x), none⟩, lo, hi⟩ :: l) lv K cs ws .mk i nx pst fr H) = optC (lit1 lensV (evD fr x)) fun r => run env n (.dops l lv K (dirtyP d (.lens x) cs) ws .mk (i + 1) nx pst (putD fr d r) H) := by rw [run_eq]; rfl
theorem run_d_lenb {x : Opd} : run env (n + 1) (.dops (⟨⟨d, .p (.lenb x), none⟩, lo, hi⟩ :: l) lv K cs ws .mk i nx pst fr H) = optC (lenbD (evD fr x)) fun r => run env n (.dops l lv K (dirtyP d (.lenb x) cs) ws .mk (i + 1) nx pst (putD fr d r) H) := by rw [run_eq]; rfl
theorem run_d_lena {m : Nat} : run env (n + 1) (.dops (⟨⟨d, .p (.lena m), none⟩, lo, hi⟩ :: l) lv K cs ws .mk i nx pst fr H) = run env n (.dops l lv K (dirtyP d (.lena m) cs) ws .mk (i + 1) nx pst (putD fr d (.lit (.int .i64 (m : Int)))) H) := by rw [run_eq]; rfl
theorem run_d_caps {x : Opd} : run env (n + 1) (.dops (⟨⟨d, .p (.caps x), none⟩, lo, hi⟩ :: l) lv K cs ws .mk i nx pst fr H) = optC (capsD (evD fr x)) fun r => run env n (.dops l lv K (dirtyP d (.caps x) cs) ws .mk (i + 1) nx pst (putD fr d r) H) := by rw [run_eq]; rfl
theorem run_d_min {xs : List Opd} : run env (n + 1) (.dops (⟨⟨d, .p (.min xs), none⟩, lo, hi⟩ :: l) lv K cs ws .mk i nx pst fr H) = optC (foldD (min2V env.tab) (evsD fr xs)) fun r => run env n (.dops l lv K (dirtyP d (.min xs) cs) ws .mk (i + 1) nx pst (putD fr d r) H) := by rw [run_eq]; rfl
theorem run_d_max {xs : List Opd} : run env (n + 1) (.dops (⟨⟨d, .p (.max xs), none⟩, lo, hi⟩ :: l) lv K cs ws .mk i nx pst fr H) = optC (foldD (max2V env.tab) (evsD fr xs)) fun r => run env n (.dops l lv K (dirtyP d (.max xs) cs) ws .mk (i + 1) nx pst (putD fr d r) H) := by rw [run_eq]; rfl
theorem run_d_eq_slice {neg : Bool} {x y : Opd} : run env (n + 1) (.dops (⟨⟨d, .p (.eq .slice neg x y), none⟩, lo, hi⟩ :: l) lv K cs ws .mk i nx pst fr H) = nilC (evD fr x) (evD fr y) fun r => run env n (.dops l lv K (dirtyP d (.eq .slice neg x y) cs) ws .mk (i + 1) nx pst (putD fr d (.lit (.bool (cond neg (!r) r)))) H) := by rw [run_eq]; rfl
theorem run_d_a {o : AOp} : run env (n + 1) (.dops (⟨⟨d, .a o, none⟩, lo, hi⟩ :: l) lv K cs ws .mk i nx pst fr H) = optH (aD fr H false o) fun x H' => run env n (.dops l lv K (dirtyN d cs) ws .mk (i + 1) nx pst (putD fr d x) H') := by rw [run_eq]; rfl
theorem run_d_load1 {x : Opd} : run env (n + 1) (.dops (⟨⟨d, .load1 x, none⟩, lo, hi⟩ :: l) lv K cs ws .mk i nx pst fr H) = optC (loadD H (evD fr x)) fun y => oldC nx lo hi pst (fun H => loadD H (evD fr x)) y (evD fr x) (run env n (.dops l lv K (dirtyN d cs) ((lo, hi) :: ws) .mk (i + 1) nx pst (putD fr d y) H)) := by rw [run_eq]; rfl
theorem run_d_loadn {x : Opd} {m : Nat} : run env (n + 1) (.dops (⟨⟨d, .loadn m x, none⟩, lo, hi⟩ :: l) lv K cs ws .mk i nx pst fr H) = optC (loadnD H m (evD fr x)) fun y => oldC nx lo hi pst (fun H => loadnD H m (evD fr x)) y (evD fr x) (run env n (.dops l lv K (dirtyN d cs) ((lo, hi) :: ws) .mk (i + 1) nx pst (putD fr d y) H)) := by rw [run_eq]; rfl
theorem run_d_call {f : Nat} {a : List Opd} : run env (n + 1) (.dops (⟨⟨d, .e (.call f a), none⟩, lo, hi⟩ :: l) lv K cs ws .mk i nx pst fr H) = .dcall f (evsD fr a) d l lv K cs ws .mk i pst fr H := by rw [run_eq]; rfl
theorem run_d_extern {f : Nat} {a : List Opd} : run env (n + 1) (.dops (⟨⟨d, .e (.extern f a), none⟩, lo, hi⟩ :: l) lv K cs ws .mk i nx pst fr H) = .dcall f (evsD fr a) d l lv K cs ws .mk i pst fr H := by rw [run_eq]; rfl
theorem run_d_callv {x : Opd} {a : List Opd} : run env (n + 1) (.dops (⟨⟨d, .e (.callv x a), none⟩, lo, hi⟩ :: l) lv K cs ws .mk i nx pst fr H) = funC (evD fr x) fun f fi ca => .dcall f (fi ++ evsD fr a ++ ca) d l lv K cs ws .mk i pst fr H := by rw [run_eq]; rfl
theorem run_d_store {sz : Nat} {a x : Opd} : run env (n + 1) (.dops (⟨⟨d, .e (.store sz a x), none⟩, lo, hi⟩ :: l) lv K cs ws .mk i nx pst fr H) = optH (storeD H sz (evD fr a) (evD fr x)) fun x H' => run env n (.dops l lv K ((i + 1, []) :: dirtyN d cs) ws .mk (i + 1) H'.next ((i + 1, H') :: pst) (putD fr d x) H') := by rw [run_eq]; rfl
theorem run_d_append {sz b : Nat} {a x : Opd} : run env (n + 1) (.dops (⟨⟨d, .e (.append sz b a x), none⟩, lo, hi⟩ :: l) lv K cs ws .mk i nx pst fr H) = optH (appendD sz b H (evD fr a) (evD fr x)) fun x H' => run env n (.dops l lv K ((i + 1, []) :: dirtyN d cs) ws .mk (i + 1) H'.next ((i + 1, H') :: pst) (putD fr d x) H') := by rw [run_eq]; rfl
theorem run_d_copy {sz : Nat} {a x : Opd} : run env (n + 1) (.dops (⟨⟨d, .e (.copy sz a x), none⟩, lo, hi⟩ :: l) lv K cs ws .mk i nx pst fr H) = optH (copyD H sz (evD fr a) (evD fr x)) fun x H' => run env n (.dops l lv K ((i + 1, []) :: dirtyN d cs) ws .mk (i + 1) H'.next ((i + 1, H') :: pst) (putD fr d x) H') := by rw [run_eq]; rfl
theorem run_d_text {x : Opd} : run env (n + 1) (.dops (⟨⟨d, .e (.text x), none⟩, lo, hi⟩ :: l) lv K cs ws .mk i nx pst fr H) = optH (textD H (evD fr x)) fun x H' => run env n (.dops l lv K ((i + 1, []) :: dirtyN d cs) ws .mk (i + 1) H'.next ((i + 1, H') :: pst) (putD fr d x) H') := by rw [run_eq]; rfl
theorem run_d_lookup {sk : Bool} {z : V} {ok : Bool} {m k : Opd} : run env (n + 1) (.dops (⟨⟨d, .e (.lookup sk z ok m k), none⟩, lo, hi⟩ :: l) lv K cs ws .mk i nx pst fr H) = optH (lookupD H sk z ok (evD fr m) (evD fr k)) fun x H' => run env n (.dops l lv K ((i + 1, []) :: dirtyN d cs) ws .mk (i + 1) H'.next ((i + 1, H') :: pst) (putD fr d x) H') := by rw [run_eq]; rfl
theorem run_d_mapput {sk : Bool} {m k x : Opd} : run env (n + 1) (.dops (⟨⟨d, .e (.mapput sk m k x), none⟩, lo, hi⟩ :: l) lv K cs ws .mk i nx pst fr H) = optH (mapputD H sk (evD fr m) (evD fr k) (evD fr x)) fun x H' => run env n (.dops l lv K ((i + 1, []) :: dirtyN d cs) ws .mk (i + 1) H'.next ((i + 1, H') :: pst) (putD fr d x) H') := by rw [run_eq]; rfl
theorem run_d_lenm {m : Opd} : run env (n + 1) (.dops (⟨⟨d, .e (.lenm m), none⟩, lo, hi⟩ :: l) lv K cs ws .mk i nx pst fr H) = optH (lenmD H (evD fr m)) fun x H' => run env n (.dops l lv K ((i + 1, []) :: dirtyN d cs) ws .mk (i + 1) H'.next ((i + 1, H') :: pst) (putD fr d x) H') := by rw [run_eq]; rfl
theorem run_both {P : Prop} {a b : Cfg} : run env (n + 1) (.both P a b) = .both P (run env n a) (run env n b) := by rw [run_eq]; rfl
theorem run_zero {c : Cfg} : run env 0 c = c := by rw [run_eq]; rfl
theorem run_need {P : Prop} {c : Cfg} : run env (n + 1) (.need P c) = .need P (run env n c) := by rw [run_eq]; rfl
end
section
variable {p : Prog} {ext : Ext} {Q : ResD → Prop}
theorem optC_some {d : D} {k : D → Cfg} : optC (some d) k = k d := rfl
theorem optH_some {d : D} {H : HpD} {k : D → HpD → Cfg} : optH (some (d, H)) k = k d H := rfl
theorem brC_t {a b : Cfg} : brC true a b = a := rfl
theorem brC_f {a b : Cfg} : brC false a b = b := rfl
theorem boolC_bool {t : Bool} {a b : Cfg} : boolC (.lit (.bool t)) a b = brC t a b := rfl
theorem gateC_bool {t w : Bool} {a b : Cfg} : gateC (.lit (.bool t)) w a b = brC (beqB t w) a b := rfl
theorem gateC_tup {l : List D} {w : Bool} {a b : Cfg} : gateC (.tup l) w a b = b := rfl
theorem beqB_t {t : Bool} : beqB t true = t := by cases t <;> rfl
theorem beqB_f {t : Bool} : beqB t false = !t := by cases t <;> rfl
theorem funC_func {f : Nat} {a c : List D} {k : Nat → List D → List D → Cfg} : funC (.func f a c) k = k f a c := rfl
theorem oldC_ptr {nx lo hi : Nat} {pst : List (Nat × HpD)} {ld : HpD → Option D} {x : D} {b o : Nat} {a : Cfg} : oldC nx lo hi pst ld x (.ptr b o) a = .need (b < nx ∧ stillP lo hi ld x pst.tail) a := rfl
theorem oldC_rptr {nx lo hi : Nat} {pst : List (Nat × HpD)} {ld : HpD → Option D} {x : D} {l : List D} {o : Nat} {a : Cfg} : oldC nx lo hi pst ld x (.rptr l o) a = a := rfl
theorem sem_need {P : Prop} {c : Cfg} : Sem p ext Q (.need P c) ↔ P ∧ Sem p ext Q c := Iff.rfl
theorem sem_both {P : Prop} {a b : Cfg} : Sem p ext Q (.both P a b) ↔ (P → Sem p ext Q a) ∧ Sem p ext Q b := Iff.rfl
theorem nilC_row {sz : Nat} {m : Md} {l : List (List D)} {k : Bool → Cfg} : nilC (.row sz m l) (.lit .nilslice) k = .both (l = []) (k true) (k false) := rfl
theorem nilC_nil {k : Bool → Cfg} : nilC (.lit .nilslice) (.lit .nilslice) k = k true := rfl
attribute [simp] sem_both nilC_row nilC_nil
theorem stillP_nil {lo hi : Nat} {ld : HpD → Option D} {x : D} : stillP lo hi ld x [] = True := rfl
theorem stillP_cons {lo hi c : Nat} {H : HpD} {ld : HpD → Option D} {x : D} {l : List (Nat × HpD)} : stillP lo hi ld x ((c, H) :: l) = ((inWin c (lo, hi) = true → rigid x = true ∧ ld H = some x) ∧ stillP lo hi ld x l) := rfl
theorem inWin_d {c lo hi : Nat} : inWin c (lo, hi) = (decide (lo ≤ c) && decide (c ≤ hi)) := by simp only [inWin, nble_d]
attribute [simp] run_zero run_exit_seq run_exit_block exitC_t exitC_f run_skip run_region run_dregion run_seq run_cond run_block run_loop run_exit run_ret run_ok_seq run_ok_block run_ok_nil run_res_exit run_res_ret run_ops_nil run_guard run_a run_load1 run_loadn run_call run_extern run_callv run_store run_append run_appendz run_copy run_clear run_text run_lookup run_mapput run_delete run_lenm run_mark
attribute [simp] run_d_nil run_d_guard run_d_a run_d_load1 run_d_loadn run_d_call run_d_extern run_d_callv run_d_store run_d_append run_d_copy run_d_text run_d_lookup run_d_mapput run_d_lenm run_need run_both
attribute [simp] run_mov run_pick run_build run_nilchk run_bin run_eq_bool run_eq_int run_eq_str run_eq_ptr run_eq_map run_eq_func run_eq_iface run_eq_struct run_eqi run_neg run_not run_compl run_conv run_mkiface run_mkfunc run_slc run_sls run_sla run_faddr run_field1 run_fieldn run_iaddr run_iaddra run_idxs run_idx1 run_idxn run_ext run_lens run_lenb run_lena run_caps run_min run_max run_eq_slice run_d_mov run_d_pick run_d_build run_d_nilchk run_d_bin run_d_eq_bool run_d_eq_int run_d_eq_str run_d_eq_ptr run_d_eq_map run_d_eq_func run_d_eq_iface run_d_eq_struct run_d_eqi run_d_neg run_d_not run_d_compl run_d_conv run_d_mkiface run_d_mkfunc run_d_slc run_d_sls run_d_sla run_d_faddr run_d_field1 run_d_fieldn run_d_iaddr run_d_iaddra run_d_idxs run_d_idx1 run_d_idxn run_d_ext run_d_lens run_d_lenb run_d_lena run_d_caps run_d_min run_d_max run_d_eq_slice
attribute [simp] optC_some optH_some brC_t brC_f boolC_bool gateC_bool gateC_tup beqB_t beqB_f funC_func oldC_ptr oldC_rptr sem_need stillP_nil stillP_cons inWin_d
theorem sem_br {t : Bool} {a b : Cfg} (h1 : t = true → Sem p ext Q a) (h2 : t = false → Sem p ext Q b) : Sem p ext Q (brC t a b) := by
  cases t
  · exact h2 rfl
  · exact h1 rfl
theorem sem_if {P : Prop} [Decidable P] {a b : Cfg} (h1 : P → Sem p ext Q a) (h2 : ¬ P → Sem p ext Q b) : Sem p ext Q (brC (decide P) a b) :=
  sem_br (fun e => h1 (of_decide_eq_true e)) fun e => h2 (of_decide_eq_false e)
theorem loopQ_ok {J : FrD → HpD → Prop} {K : List KD} {fr : FrD} {H : HpD} : loopQ J p ext Q K (.ok fr H) = J fr H := rfl
theorem loopQ_exit {J : FrD → HpD → Prop} {K : List KD} {id : Nat} {fr : FrD} {H : HpD} : loopQ J p ext Q K (.exit id fr H) = Sem p ext Q (.res (.exit id fr H) K .mk) := rfl
theorem loopQ_ret {J : FrD → HpD → Prop} {K : List KD} {fr : FrD} {H : HpD} : loopQ J p ext Q K (.ret fr H) = Sem p ext Q (.res (.ret fr H) [] .mk) := rfl
theorem okQ_ok {J : FrD → HpD → Prop} {fr : FrD} {H : HpD} : okQ J (.ok fr H) = J fr H := rfl
attribute [simp] loopQ_ok loopQ_exit loopQ_ret okQ_ok
theorem lk_nil {t : Nat} : lk [] t = .any := rfl
theorem lk_cons {k t : Nat} {d : D} {l : FrD} : lk ((k, d) :: l) t = if k = t then d else lk l t := by
  simp only [lk, beq_d]; by_cases h : k = t <;> simp [h]
theorem putD_some {fr : FrD} {t : Nat} {d : D} : putD fr (some t) d = (t, d) :: fr := rfl
theorem putD_none {fr : FrD} {d : D} : putD fr none d = fr := rfl
theorem keep_nil {fr : FrD} : keep [] fr = [] := rfl
theorem keep_cons {t : Nat} {l : List Nat} {fr : FrD} : keep (t :: l) fr = (t, lk fr t) :: keep l fr := rfl
theorem evD_tmp {fr : FrD} {t : Nat} : evD fr (.tmp t) = lk fr t := rfl
theorem evD_val {fr : FrD} {v : V} : evD fr (.val v) = dV v := rfl
attribute [simp] lk_nil lk_cons putD_some putD_none keep_nil keep_cons evD_tmp evD_val evsD dV dVs inL argsD
section
variable {env : Env} {fr : FrD} {x y z : Opd}
theorem pickO_bool {t : Bool} {a b : D} : pickO (.lit (.bool t)) a b = some (pickD t a b) := rfl
end
theorem pickD_t {a b : D} : pickD true a b = a := rfl
theorem pickD_f {a b : D} : pickD false a b = b := rfl
theorem litO_bool {b : Bool} : litO (some (.bool b)) = some (.lit (.bool b)) := rfl
theorem litO_int {k : IntKind} {n : Int} : litO (some (.int k n)) = some (.lit (.int k n)) := rfl
theorem litO_str {l : List Nat} : litO (some (.str l)) = some (.lit (.str l)) := rfl
theorem lit1_lit {f : V → Option V} {v : V} : lit1 f (.lit v) = litO (f v) := rfl
theorem binD_lit {tab : Tab} {op : BinOp} {v w : V} : binD tab op (.lit v) (.lit w) = litO (binV tab op v w) := rfl
theorem aggD_some {l : List D} : aggD (some l) = some (.agg l) := rfl
theorem nilchkD_ptr {b o : Nat} : nilchkD (.ptr b o) = some (.ptr b o) := rfl
theorem nilchkD_rptr {l : List D} {o : Nat} : nilchkD (.rptr l o) = some (.rptr l o) := rfl
theorem nilchkD_func {f : Nat} {a c : List D} : nilchkD (.func f a c) = some (.func f a c) := rfl
theorem faddrD_ptr {off b o : Nat} : faddrD off (.ptr b o) = some (.ptr b (o + off)) := rfl
theorem faddrD_rptr {off o : Nat} {l : List D} : faddrD off (.rptr l o) = some (.rptr l (o + off)) := rfl
theorem field1D_agg {off : Nat} {l : List D} : field1D off (.agg l) = l[off]? := rfl
theorem fieldnD_agg {off n : Nat} {l : List D} : fieldnD off n (.agg l) = if off + n ≤ l.length then some (.agg ((l.drop off).take n)) else none := by
  simp only [fieldnD, ble_d]; by_cases h : off + n ≤ l.length <;> simp [h]
theorem extD_tup {i : Nat} {l : List D} : extD i (.tup l) = l[i]? := rfl
theorem lenbD_nil : lenbD (.lit .nilslice) = some (.lit (.int .i64 0)) := rfl
theorem lenbD_slice {b o sz len c : Nat} {ex : Bool} : lenbD (.slice b o sz len c ex) = some (.lit (.int .i64 (len : Int))) := rfl
theorem lenbD_row {sz : Nat} {m : Md} {l : List (List D)} : lenbD (.row sz m l) = some (.lit (.int .i64 (l.length : Int))) := rfl
theorem idxsD_lit {v w : V} : idxsD (.lit v) (.lit w) = litO (idxsV v w) := rfl
theorem elemD_some {e : List D} : elemD (some e) = some (.rptr e 0) := rfl
theorem natD_cast {k : IntKind} {n : Nat} : natD (.lit (.int k (n : Int))) = some n := rfl
theorem natD_lit {k : IntKind} {n : Nat} : natD (.lit (.int k (@OfNat.ofNat Int n _))) = some n := rfl
theorem natD_zero {k : IntKind} : natD (.lit (.int k 0)) = some 0 := rfl
theorem natD_one {k : IntKind} : natD (.lit (.int k 1)) = some 1 := rfl
def atO (sz : Nat) (x : D) (n : Option Nat) : Option D := match n with
  | some n => match x with
    | .slice b o sz' len _ _ => if n < len ∧ sz = sz' then some (.ptr b (o + n * sz)) else none
    | .row sz' _ l => if sz = sz' then elemD l[n]? else none
    | _ => none
  | none => none
theorem iaddrD_at {sz : Nat} {x i : D} : iaddrD sz x i = atO sz x (natD i) := by
  unfold iaddrD atO
  cases natD i with
  | none => rfl
  | some n =>
    cases x <;> simp only []
    · simp only [blt_d, beq_d]
      rename_i b o sz' len cap ex
      by_cases h1 : n < len <;> by_cases h2 : sz = sz' <;> simp [h1, h2]
    · simp only [beq_d]
      rename_i sz' m l
      by_cases h2 : sz = sz' <;> simp [h2]
theorem atO_row {sz n : Nat} {m : Md} {l : List (List D)} : atO sz (.row sz m l) (some n) = elemD l[n]? := by simp [atO]
theorem atO_slice {sz n b o len cap : Nat} {ex : Bool} : atO sz (.slice b o sz len cap ex) (some n) = if n < len then some (.ptr b (o + n * sz)) else none := by simp [atO]
theorem loadD_ptr {H : HpD} {b o : Nat} : loadD H (.ptr b o) = cellD (H.blk b) o := rfl
theorem loadD_rptr {H : HpD} {l : List D} {o : Nat} : loadD H (.rptr l o) = l[o]? := rfl
theorem loadnD_ptr {H : HpD} {n b o : Nat} : loadnD H n (.ptr b o) = aggD (readD H b o n) := rfl
theorem loadnD_rptr {H : HpD} {n o : Nat} {l : List D} : loadnD H n (.rptr l o) = if o + n ≤ l.length then some (.agg ((l.drop o).take n)) else none := by
  simp only [loadnD, ble_d]; by_cases h : o + n ≤ l.length <;> simp [h]
theorem cellD_cells {l : List D} {ro : Bool} {o : Nat} : cellD (.cells l ro) o = l[o]? := rfl
theorem readD_eq {H : HpD} {b o n : Nat} : readD H b o n = match H.blk b with
  | .cells l _ => if o + n ≤ l.length then some ((l.drop o).take n) else none
  | _ => none := by
  unfold readD
  cases H.blk b <;> simp only [ble_d]
  rename_i l ro
  by_cases h : o + n ≤ l.length <;> simp [h]
theorem storeD_ptr {H : HpD} {sz b o : Nat} {x : D} : storeD H sz (.ptr b o) x = storeC H sz b o (cellsD x) := rfl
theorem storeC_some {H : HpD} {sz b o : Nat} {cs : List D} : storeC H sz b o (some cs) = if cs.length = sz then tupO (writeD H b o cs) else none := by
  simp only [storeC, beq_d]; by_cases h : cs.length = sz <;> simp [h]
theorem tupO_some {H : HpD} : tupO (some H) = some (.tup [], H) := rfl
theorem writeD_eq {H : HpD} {b o : Nat} {vs : List D} : writeD H b o vs = putO' H b (writeBD (H.blk b) o vs) := rfl
theorem putO'_some {H : HpD} {b : Nat} {x : BD} : putO' H b (some x) = some (H.put b x) := rfl
theorem writeBD_cells {l : List D} {o : Nat} {vs : List D} : writeBD (.cells l false) o vs = if o + vs.length ≤ l.length ∧ flatsD vs = true then some (.cells (spliceD l o vs) false) else none := by
  simp only [writeBD, ble_d]
  by_cases h : o + vs.length ≤ l.length <;> cases h2 : flatsD vs <;> simp [h]
theorem cellsD_agg {l : List D} : cellsD (.agg l) = some l := rfl
theorem cellsD_lit {v : V} : cellsD (.lit v) = some [.lit v] := rfl
theorem cellsD_ptr {b o : Nat} : cellsD (.ptr b o) = some [.ptr b o] := rfl
theorem cellsD_rptr {l : List D} {o : Nat} : cellsD (.rptr l o) = some [.rptr l o] := rfl
theorem cellsD_slice {b o sz len c : Nat} {ex : Bool} : cellsD (.slice b o sz len c ex) = some [.slice b o sz len c ex] := rfl
theorem cellsD_row {sz : Nat} {m : Md} {l : List (List D)} : cellsD (.row sz m l) = some [.row sz m l] := rfl
theorem cellsD_map {b : Nat} : cellsD (.map b) = some [.map b] := rfl
theorem cellsD_func {f : Nat} {a c : List D} : cellsD (.func f a c) = some [.func f a c] := rfl
theorem cellsD_iface {t : Nat} {d : D} : cellsD (.iface t d) = some [.iface t d] := rfl
theorem fillD_nil {c : List D} : fillD c [] = some c := rfl
theorem fillD_cons {c : List D} {o n : Nat} {d : D} {l : List (Nat × Nat × D)} : fillD c ((o, n, d) :: l) = (cellsD d).bind fun cs => if cs.length = n ∧ o + n ≤ c.length then fillD (spliceD c o cs) l else none := by
  simp only [fillD]
  cases cellsD d with
  | none => rfl
  | some cs =>
    simp only [Option.bind_some, beq_d, ble_d]
    by_cases h1 : cs.length = n <;> by_cases h2 : o + n ≤ c.length <;> simp [h1, h2]
theorem spliceD_zero {l vs : List D} : spliceD l 0 vs = vs ++ l.drop vs.length := by cases l <;> rfl
theorem spliceD_succ {x : D} {l vs : List D} {o : Nat} : spliceD (x :: l) (o + 1) vs = x :: spliceD l o vs := rfl
theorem boxD_some {H : HpD} {fz : Bool} {cs : List D} : boxD H fz (some cs) = if flatsD cs = true then some (match fz with | true => (.rptr cs 0, H) | false => (.ptr H.next 0, H.new (.cells cs false))) else none := by
  simp only [boxD]; cases flatsD cs <;> rfl
theorem bsliceD_some {H : HpD} {fz : Bool} {sz len : Nat} {c : List D} : bsliceD H fz sz len (some c) = if flatsD c = true ∧ c.length = len * sz then some (match fz with
      | true => (.row sz .c (chunkD sz len c), H)
      | false => (.slice H.next 0 sz len len true, H.new (.cells c false))) else none := by
  simp only [bsliceD, beq_d]
  by_cases h : c.length = len * sz <;> cases h2 : flatsD c <;> simp [h]
  all_goals cases fz <;> rfl
section
variable {fr : FrD} {H : HpD} {fz : Bool}
theorem aD_new' {zero : List V} : aD fr H fz (.new zero) = if allFlat zero = true then some (.ptr H.next 0, H.new (.cells (dVs zero) false)) else none := by
  simp only [aD]; cases allFlat zero <;> rfl
theorem aD_box {x : Opd} : aD fr H fz (.box x) = boxD H fz (cellsD (evD fr x)) := rfl
theorem aD_bslice {zero : List V} {sz len : Nat} {ps : List (Nat × Nat × Opd)} : aD fr H fz (.bslice zero sz len ps) = bsliceD H fz sz len (fillD (dVs zero) (evPartsD fr ps)) := rfl
theorem aD_mkslice {zero : List V} {sz by_ : Nat} {l c : Opd} : aD fr H fz (.mkslice zero sz by_ l c) = mksliceD H zero sz by_ (natD (evD fr l)) (natD (evD fr c)) := rfl
theorem aD_mkmap {kk : Option IntKind} : aD fr H fz (.mkmap kk) = some (.map H.next, H.new (.map kk [])) := rfl
theorem aD_bytes {x : Opd} : aD fr H fz (.bytes x) = toBytesD H fz (evD fr x) := rfl
end
theorem flatD_lit {v : V} : flatD (.lit v) = true := rfl
theorem flatD_ptr {b o : Nat} : flatD (.ptr b o) = true := rfl
theorem flatD_rptr {l : List D} {o : Nat} : flatD (.rptr l o) = true := rfl
theorem flatD_slice {b o sz len c : Nat} {ex : Bool} : flatD (.slice b o sz len c ex) = true := rfl
theorem flatD_row {sz : Nat} {m : Md} {l : List (List D)} : flatD (.row sz m l) = true := rfl
theorem flatD_map {b : Nat} : flatD (.map b) = true := rfl
theorem flatD_func {f : Nat} {a c : List D} : flatD (.func f a c) = true := rfl
theorem flatD_iface {t : Nat} {d : D} : flatD (.iface t d) = true := rfl
theorem evoD_none {fr : FrD} : evoD fr none = none := rfl
theorem evoD_some {fr : FrD} {x : Opd} : evoD fr (some x) = some (evD fr x) := rfl
theorem bndD_none : bndD none = some none := rfl
theorem bndD_lit {v : V} : bndD (some (.lit v)) = some (some v) := rfl
theorem isEq_lit {ty : ETy} {v w : V} : isEq ty (.lit v) (.lit w) = eqV ty v w := by simp only [isEq, toV]
theorem eqD_eq {ty : ETy} {neg : Bool} {x y : D} : eqD ty neg x y = (isEq ty x y).map fun r => .lit (.bool (cond neg (!r) r)) := by
  simp only [eqD]; cases isEq ty x y <;> rfl
theorem eqV_bool {a b : Bool} : eqV .bool (.bool a) (.bool b) = some (decide (a = b)) := by simp only [eqV, beqB_d]; cases a <;> cases b <;> rfl
theorem eqV_int {k : IntKind} {a b : Int} : eqV .int (.int k a) (.int k b) = some (decide (a = b)) := by
  simp only [eqV, keq_self, cond_true, ieq_d]; rw [show (a == b) = decide (a = b) from by rw [Bool.eq_iff_iff]; simp]
theorem eqV_nilptr : eqV .ptr .nilptr .nilptr = some true := rfl
theorem isEq_rptr_nil {l : List D} {o : Nat} : isEq .ptr (.rptr l o) (.lit .nilptr) = some false := rfl
attribute [simp] eqV_bool eqV_int eqV_nilptr isEq_rptr_nil Option.map
theorem bin_shr_nn {tab : Tab} {k j : IntKind} {a b : Int} (h : 0 ≤ b) : binV tab .shr (.int k a) (.int j b) = some (.int k (shrI k a b.toNat)) := by
  obtain ⟨n, rfl⟩ : ∃ n : Nat, b = n := ⟨b.toNat, by omega⟩
  rfl
theorem bin_shl_nn {tab : Tab} {k j : IntKind} {a b : Int} (h : 0 ≤ b) : binV tab .shl (.int k a) (.int j b) = some (.int k (shlI k a b.toNat)) := by
  obtain ⟨n, rfl⟩ : ∃ n : Nat, b = n := ⟨b.toNat, by omega⟩
  rfl
theorem natD_nn {k : IntKind} {b : Int} (h : 0 ≤ b) : natD (.lit (.int k b)) = some b.toNat := by
  obtain ⟨n, rfl⟩ : ∃ n : Nat, b = n := ⟨b.toNat, by omega⟩
  rfl
theorem natOf_nn {k : IntKind} {b : Int} (h : 0 ≤ b) : natOf (.int k b) = some b.toNat := by
  obtain ⟨n, rfl⟩ : ∃ n : Nat, b = n := ⟨b.toNat, by omega⟩
  rfl
attribute [simp] bin_rem bin_quo bin_shr_nn bin_shl_nn natD_nn natOf_nn
theorem nx2 {a : Nat} : (a = a + 1 + 1) = False := eq_false (by omega)
theorem ny2 {a : Nat} : (a + 1 + 1 = a) = False := eq_false (by omega)
theorem nx3 {a : Nat} : (a = a + 1 + 1 + 1) = False := eq_false (by omega)
theorem ny3 {a : Nat} : (a + 1 + 1 + 1 = a) = False := eq_false (by omega)
theorem nx4 {a : Nat} : (a = a + 1 + 1 + 1 + 1) = False := eq_false (by omega)
theorem ny4 {a : Nat} : (a + 1 + 1 + 1 + 1 = a) = False := eq_false (by omega)
theorem nx5 {a : Nat} : (a = a + 1 + 1 + 1 + 1 + 1) = False := eq_false (by omega)
theorem ny5 {a : Nat} : (a + 1 + 1 + 1 + 1 + 1 = a) = False := eq_false (by omega)
theorem nx6 {a : Nat} : (a = a + 1 + 1 + 1 + 1 + 1 + 1) = False := eq_false (by omega)
theorem ny6 {a : Nat} : (a + 1 + 1 + 1 + 1 + 1 + 1 = a) = False := eq_false (by omega)
theorem nx7 {a : Nat} : (a = a + 1 + 1 + 1 + 1 + 1 + 1 + 1) = False := eq_false (by omega)
theorem ny7 {a : Nat} : (a + 1 + 1 + 1 + 1 + 1 + 1 + 1 = a) = False := eq_false (by omega)
theorem nx8 {a : Nat} : (a = a + 1 + 1 + 1 + 1 + 1 + 1 + 1 + 1) = False := eq_false (by omega)
theorem ny8 {a : Nat} : (a + 1 + 1 + 1 + 1 + 1 + 1 + 1 + 1 = a) = False := eq_false (by omega)
theorem nx9 {a : Nat} : (a = a + 1 + 1 + 1 + 1 + 1 + 1 + 1 + 1 + 1) = False := eq_false (by omega)
theorem ny9 {a : Nat} : (a + 1 + 1 + 1 + 1 + 1 + 1 + 1 + 1 + 1 = a) = False := eq_false (by omega)
attribute [simp] nx2 ny2 nx3 ny3 nx4 ny4 nx5 ny5 nx6 ny6 nx7 ny7 nx8 ny8 nx9 ny9
theorem isEq_nil_ptr {b o : Nat} : isEq .ptr (.ptr b o) (.lit .nilptr) = some false := rfl
attribute [simp] pickO_bool pickD_t pickD_f
attribute [simp] litO_bool litO_int litO_str lit1_lit binD_lit aggD_some nilchkD_ptr nilchkD_rptr nilchkD_func faddrD_ptr faddrD_rptr field1D_agg fieldnD_agg extD_tup lenbD_nil lenbD_slice lenbD_row idxsD_lit elemD_some natD_cast natD_lit natD_zero natD_one iaddrD_at atO_row atO_slice
attribute [simp] loadD_ptr loadD_rptr loadnD_ptr loadnD_rptr cellD_cells readD_eq storeD_ptr storeC_some tupO_some writeD_eq putO'_some writeBD_cells cellsD_agg cellsD_lit cellsD_ptr cellsD_rptr cellsD_slice cellsD_row cellsD_map cellsD_func cellsD_iface fillD_nil fillD_cons spliceD_zero spliceD_succ evPartsD boxD_some bsliceD_some aD_new' aD_box aD_bslice aD_mkslice aD_mkmap aD_bytes
attribute [simp] flatsD flatD_lit flatD_ptr flatD_rptr flatD_slice flatD_row flatD_map flatD_func flatD_iface evoD_none evoD_some bndD_none bndD_lit isEq_lit eqD_eq isEq_nil_ptr chunkD put_blk new_blk put_next new_next
attribute [simp] D.le_refl D.les_refl D.less_refl D.les D.under D.unders D.underss tupD res1D resLD endD optQ allFlat
end
end Go.Dv
end

section
namespace Go.Lib
open Go.Vm Go.Dv
set_option maxRecDepth 100000
abbrev K51 (F : Nat → Nat) : KC := .seq (.region [⟨(some 6),(.p (.mov (.val (.bool false)))),none⟩] [] [0,1,2])
 (.seq (.region [⟨(some 18),(.p (.mov (.tmp 0))),none⟩,⟨(some 19),(.e (.call (F 23) [(.tmp 18)])),none⟩,⟨(some 7),(.a (.new [.nilslice])),none⟩,⟨none,(.e (.store 1 (.tmp 7) (.tmp 19))),none⟩] [] [1,2,7])
 (.seq (.region [⟨(some 20),(.loadn 1 (.tmp 7)),none⟩,⟨(some 21),(.p (.mov (.tmp 1))),none⟩,⟨(some 22),(.e (.call (F 22) [(.tmp 20),(.tmp 21)])),none⟩,⟨(some 8),(.p (.mov (.tmp 22))),none⟩] [] [2,7,8])
 (.seq (.region [⟨(some 23),(.p (.mov (.tmp 2))),none⟩,⟨(some 24),(.p (.bin .and (.tmp 23) (.val (.int .i64 (.ofNat 255))))),none⟩,⟨(some 25),(.p (.faddr 0 (.tmp 7))),none⟩,⟨(some 26),(.load1 (.tmp 25)),none⟩,⟨(some 27),(.p (.lenb (.tmp 26))),none⟩,⟨(some 28),(.p (.bin .rem (.tmp 24) (.tmp 27))),none⟩,⟨(some 9),(.p (.mov (.tmp 28))),none⟩] [] [8,9])
 (.seq (.region [⟨(some 30),(.p (.mov (.tmp 8))),none⟩,⟨(some 31),(.p (.mov (.tmp 9))),none⟩,⟨(some 32),(.p (.build [.int .i64 (.ofNat 0),.int .i64 (.ofNat 0)] [(0,1,(.val (.int .i64 (.ofNat 1))))])),none⟩,⟨(some 33),(.p (.build [.int .i64 (.ofNat 0),.int .i64 (.ofNat 0)] [(0,1,(.val (.int .i64 (.ofNat 2))))])),none⟩,⟨(some 34),(.a (.bslice [.int .i64 (.ofNat 0),.int .i64 (.ofNat 0),.int .i64 (.ofNat 0),.int .i64 (.ofNat 0)] 2 2 [(0,2,(.tmp 32)),(2,2,(.tmp 33))])),none⟩,⟨(some 35),(.e (.call (F 32) [(.tmp 30),(.tmp 31),(.tmp 34)])),none⟩,⟨(some 29),(.p (.mov (.tmp 35))),none⟩,⟨(some 36),(.p (.ext (.tmp 29) 0)),none⟩,⟨(some 37),(.p (.ext (.tmp 29) 1)),none⟩,⟨(some 10),(.p (.mov (.tmp 36))),none⟩,⟨(some 11),(.p (.mov (.tmp 37))),none⟩] [34] [8,10,11])
 (.seq (.region [⟨(some 39),(.p (.mov (.tmp 8))),none⟩,⟨(some 40),(.p (.build [.int .i64 (.ofNat 0),.int .i64 (.ofNat 0)] [(0,1,(.val (.int .i64 (.ofNat 1))))])),none⟩,⟨(some 41),(.p (.build [.int .i64 (.ofNat 0),.int .i64 (.ofNat 0)] [(0,1,(.val (.int .i64 (.ofNat 2))))])),none⟩,⟨(some 42),(.a (.bslice [.int .i64 (.ofNat 0),.int .i64 (.ofNat 0),.int .i64 (.ofNat 0),.int .i64 (.ofNat 0)] 2 2 [(0,2,(.tmp 40)),(2,2,(.tmp 41))])),none⟩,⟨(some 43),(.e (.call (F 32) [(.tmp 39),(.val (.int .i64 (.negSucc 0))),(.tmp 42)])),none⟩,⟨(some 38),(.p (.mov (.tmp 43))),none⟩,⟨(some 44),(.p (.ext (.tmp 38) 0)),none⟩,⟨(some 45),(.p (.ext (.tmp 38) 1)),none⟩,⟨(some 12),(.p (.mov (.tmp 44))),none⟩,⟨(some 13),(.p (.mov (.tmp 45))),none⟩] [42] [8,10,11,12,13])
 (.seq (.seq (.region [⟨(some 46),(.p (.mov (.tmp 11))),none⟩,⟨(some 47),(.p (.not (.tmp 46))),none⟩,⟨(some 48),(.p (.mov (.tmp 47))),none⟩,⟨(some 49),(.p (.mov (.tmp 13))),(some (48,false))⟩,⟨(some 50),(.p (.not (.tmp 49))),(some (48,false))⟩,⟨(some 51),(.p (.pick (.tmp 48) (.val (.bool true)) (.tmp 50))),none⟩,⟨(some 52),(.p (.mov (.tmp 51))),none⟩,⟨(some 53),(.p (.mov (.tmp 12))),(some (52,false))⟩,⟨(some 54),(.p (.lenb (.tmp 53))),(some (52,false))⟩,⟨(some 55),(.p (.bin .neq (.tmp 54) (.val (.int .i64 (.ofNat 1))))),(some (52,false))⟩,⟨(some 56),(.p (.pick (.tmp 52) (.val (.bool true)) (.tmp 55))),none⟩,⟨(some 57),(.p (.mov (.tmp 56))),none⟩,⟨(some 58),(.p (.mov (.tmp 12))),(some (57,false))⟩,⟨(some 59),(.p (.iaddr 1 (.tmp 58) (.val (.int .i64 (.ofNat 0))))),(some (57,false))⟩,⟨(some 60),(.load1 (.tmp 59)),(some (57,false))⟩,⟨(some 61),(.p (.lenb (.tmp 60))),(some (57,false))⟩,⟨(some 62),(.p (.bin .neq (.tmp 61) (.val (.int .i64 (.ofNat 2))))),(some (57,false))⟩,⟨(some 63),(.p (.pick (.tmp 57) (.val (.bool true)) (.tmp 62))),none⟩] [] [8,10,12,63])
 (.cond (.tmp 63) (.seq (.region [⟨(some 6),(.p (.mov (.val (.bool false)))),none⟩] [] [6])
 (.ret))
 (.skip)))
 (.seq (.region [⟨(some 14),(.p (.mov (.val (.int .i64 (.ofNat 0))))),none⟩,⟨(some 15),(.p (.mov (.val (.int .i64 (.ofNat 0))))),none⟩] [] [8,10,12,14,15])
 (.seq (.seq (.region [⟨(some 64),(.p (.mov (.tmp 10))),none⟩,⟨(some 65),(.p (.lenb (.tmp 64))),none⟩,⟨(some 66),(.p (.mov (.val (.int .i64 (.ofNat 0))))),none⟩] [] [8,10,12,14,15,64,65,66])
 (.block 0 (.loop (.seq (.region [⟨(some 67),(.p (.bin .lss (.tmp 66) (.tmp 65))),none⟩] [] [8,10,12,14,15,64,65,66,67])
 (.seq (.cond (.tmp 67) (.skip)
 (.exit 0))
 (.seq (.block 1 (.seq (.region [⟨(some 68),(.p (.mov (.tmp 66))),none⟩,⟨(some 69),(.p (.iaddr 1 (.tmp 64) (.tmp 66))),none⟩,⟨(some 70),(.load1 (.tmp 69)),none⟩,⟨(some 16),(.p (.mov (.tmp 68))),none⟩,⟨(some 17),(.p (.mov (.tmp 70))),none⟩] [] [8,10,12,14,15,16,17,64,65,66])
 (.seq (.seq (.dregion [⟨⟨(some 71),(.p (.mov (.tmp 17))),none⟩,0,24⟩,⟨⟨(some 72),(.p (.lenb (.tmp 71))),none⟩,0,24⟩,⟨⟨(some 73),(.p (.bin .neq (.tmp 72) (.val (.int .i64 (.ofNat 3))))),none⟩,0,24⟩,⟨⟨(some 74),(.p (.mov (.tmp 73))),none⟩,0,24⟩,⟨⟨(some 75),(.p (.mov (.tmp 17))),(some (74,false))⟩,0,24⟩,⟨⟨(some 76),(.p (.iaddr 4 (.tmp 75) (.val (.int .i64 (.ofNat 1))))),(some (74,false))⟩,0,24⟩,⟨⟨(some 77),(.p (.faddr 2 (.tmp 76))),(some (74,false))⟩,0,24⟩,⟨⟨(some 78),(.load1 (.tmp 77)),(some (74,false))⟩,0,24⟩,⟨⟨(some 79),(.p (.bin .lss (.tmp 78) (.val (.int .i64 (.ofNat 1))))),(some (74,false))⟩,0,24⟩,⟨⟨(some 80),(.p (.pick (.tmp 74) (.val (.bool true)) (.tmp 79))),none⟩,0,24⟩,⟨⟨(some 81),(.p (.mov (.tmp 80))),none⟩,0,24⟩,⟨⟨(some 82),(.p (.mov (.tmp 16))),(some (81,false))⟩,0,24⟩,⟨⟨(some 83),(.p (.bin .gtr (.tmp 82) (.val (.int .i64 (.ofNat 0))))),(some (81,false))⟩,0,24⟩,⟨⟨(some 84),(.p (.mov (.tmp 83))),(some (81,false))⟩,0,24⟩,⟨⟨(some 85),(.p (.mov (.tmp 10))),(some (84,true))⟩,0,24⟩,⟨⟨(some 86),(.p (.mov (.tmp 16))),(some (84,true))⟩,0,24⟩,⟨⟨(some 87),(.p (.bin .sub (.tmp 86) (.val (.int .i64 (.ofNat 1))))),(some (84,true))⟩,0,24⟩,⟨⟨(some 88),(.p (.iaddr 1 (.tmp 85) (.tmp 87))),(some (84,true))⟩,0,24⟩,⟨⟨(some 89),(.load1 (.tmp 88)),(some (84,true))⟩,0,24⟩,⟨⟨(some 90),(.p (.iaddr 4 (.tmp 89) (.val (.int .i64 (.ofNat 0))))),(some (84,true))⟩,0,24⟩,⟨⟨(some 91),(.loadn 4 (.tmp 90)),(some (84,true))⟩,0,24⟩,⟨⟨(some 92),(.p (.mov (.tmp 17))),(some (84,true))⟩,0,24⟩,⟨⟨(some 93),(.p (.iaddr 4 (.tmp 92) (.val (.int .i64 (.ofNat 0))))),(some (84,true))⟩,0,24⟩,⟨⟨(some 94),(.loadn 4 (.tmp 93)),(some (84,true))⟩,0,24⟩,⟨⟨(some 95),(.e (.call (F 46) [(.tmp 91),(.tmp 94)])),(some (84,true))⟩,0,28⟩,⟨⟨(some 96),(.p (.bin .geq (.tmp 95) (.val (.int .i64 (.ofNat 0))))),(some (84,true))⟩,25,28⟩,⟨⟨(some 97),(.p (.pick (.tmp 84) (.tmp 96) (.val (.bool false)))),(some (81,false))⟩,25,28⟩,⟨⟨(some 98),(.p (.pick (.tmp 81) (.val (.bool true)) (.tmp 97))),none⟩,25,28⟩] [8,10,12,14,15,17,64,65,66,98])
 (.cond (.tmp 98) (.seq (.region [⟨(some 6),(.p (.mov (.val (.bool false)))),none⟩] [] [6])
 (.ret))
 (.skip)))
 (.dregion [⟨⟨(some 99),(.p (.mov (.tmp 14))),none⟩,0,14⟩,⟨⟨(some 100),(.p (.mov (.tmp 17))),none⟩,0,14⟩,⟨⟨(some 101),(.p (.iaddr 4 (.tmp 100) (.val (.int .i64 (.ofNat 1))))),none⟩,0,14⟩,⟨⟨(some 102),(.p (.faddr 2 (.tmp 101))),none⟩,0,14⟩,⟨⟨(some 103),(.load1 (.tmp 102)),none⟩,0,14⟩,⟨⟨(some 104),(.p (.bin .add (.tmp 99) (.tmp 103))),none⟩,0,14⟩,⟨⟨(some 105),(.p (.mov (.tmp 15))),none⟩,0,14⟩,⟨⟨(some 106),(.p (.mov (.tmp 17))),none⟩,0,14⟩,⟨⟨(some 107),(.p (.iaddr 4 (.tmp 106) (.val (.int .i64 (.ofNat 2))))),none⟩,0,14⟩,⟨⟨(some 108),(.p (.faddr 2 (.tmp 107))),none⟩,0,14⟩,⟨⟨(some 109),(.load1 (.tmp 108)),none⟩,0,14⟩,⟨⟨(some 110),(.p (.bin .add (.tmp 105) (.tmp 109))),none⟩,0,14⟩,⟨⟨(some 14),(.p (.mov (.tmp 104))),none⟩,0,14⟩,⟨⟨(some 15),(.p (.mov (.tmp 110))),none⟩,0,14⟩] [8,10,12,14,15,64,65,66]))))
 (.region [⟨(some 111),(.p (.bin .add (.tmp 66) (.val (.int .i64 (.ofNat 1))))),none⟩,⟨(some 66),(.p (.mov (.tmp 111))),none⟩] [] [8,10,12,14,15,64,65,66])))))))
 (.seq (.region [⟨(some 112),(.p (.mov (.tmp 14))),none⟩,⟨(some 113),(.p (.mov (.tmp 12))),none⟩,⟨(some 114),(.p (.iaddr 1 (.tmp 113) (.val (.int .i64 (.ofNat 0))))),none⟩,⟨(some 115),(.load1 (.tmp 114)),none⟩,⟨(some 116),(.p (.iaddr 4 (.tmp 115) (.val (.int .i64 (.ofNat 0))))),none⟩,⟨(some 117),(.p (.faddr 2 (.tmp 116))),none⟩,⟨(some 118),(.load1 (.tmp 117)),none⟩,⟨(some 119),(.p (.bin .eql (.tmp 112) (.tmp 118))),none⟩,⟨(some 120),(.p (.mov (.tmp 119))),none⟩,⟨(some 121),(.p (.mov (.tmp 15))),(some (120,true))⟩,⟨(some 122),(.p (.mov (.tmp 12))),(some (120,true))⟩,⟨(some 123),(.p (.iaddr 1 (.tmp 122) (.val (.int .i64 (.ofNat 0))))),(some (120,true))⟩,⟨(some 124),(.load1 (.tmp 123)),(some (120,true))⟩,⟨(some 125),(.p (.iaddr 4 (.tmp 124) (.val (.int .i64 (.ofNat 1))))),(some (120,true))⟩,⟨(some 126),(.p (.faddr 2 (.tmp 125))),(some (120,true))⟩,⟨(some 127),(.load1 (.tmp 126)),(some (120,true))⟩,⟨(some 128),(.p (.bin .eql (.tmp 121) (.tmp 127))),(some (120,true))⟩,⟨(some 129),(.p (.pick (.tmp 120) (.tmp 128) (.val (.bool false)))),none⟩,⟨(some 130),(.p (.mov (.tmp 129))),none⟩,⟨(some 131),(.p (.mov (.tmp 14))),(some (130,true))⟩,⟨(some 132),(.p (.mov (.tmp 8))),(some (130,true))⟩,⟨(some 133),(.p (.lenb (.tmp 132))),(some (130,true))⟩,⟨(some 134),(.p (.bin .eql (.tmp 131) (.tmp 133))),(some (130,true))⟩,⟨(some 135),(.p (.pick (.tmp 130) (.tmp 134) (.val (.bool false)))),none⟩,⟨(some 136),(.p (.mov (.tmp 135))),none⟩,⟨(some 137),(.e (.call (F 52) [])),(some (136,true))⟩,⟨(some 138),(.p (.pick (.tmp 136) (.tmp 137) (.val (.bool false)))),none⟩,⟨(some 6),(.p (.mov (.tmp 138))),none⟩] [] [6])
 (.ret))))))))))
def M51 (F : Nat → Nat) : Fun := ⟨139,3,(K51 F).erase,[.tmp 6]⟩
theorem ok51 {F : Nat → Nat} : (K51 F).ok = true := rfl
end Go.Lib
end

section
namespace Go.Lib
open Go.Vm Go.Dv
set_option maxRecDepth 100000
abbrev K22 (F : Nat → Nat) : KC := .seq (.region [⟨(some 2),(.a (.box (.tmp 0))),none⟩,⟨(some 4),(.p (.mov (.val (.nilslice)))),none⟩] [2] [1,2])
 (.seq (.region [⟨(some 5),(.p (.mov (.val (.nilslice)))),none⟩] [] [1,2,5])
 (.seq (.seq (.region [⟨(some 6),(.p (.mov (.val (.int .i64 (.ofNat 0))))),none⟩] [] [1,2,5,6])
 (.block 0 (.loop (.seq (.seq (.region [⟨(some 8),(.p (.mov (.tmp 6))),none⟩,⟨(some 9),(.p (.mov (.tmp 1))),none⟩,⟨(some 10),(.p (.lenb (.tmp 9))),none⟩,⟨(some 11),(.p (.bin .lss (.tmp 8) (.tmp 10))),none⟩,⟨(some 12),(.p (.mov (.tmp 11))),none⟩,⟨(some 13),(.p (.mov (.tmp 6))),(some (12,true))⟩,⟨(some 14),(.p (.bin .lss (.tmp 13) (.val (.int .i64 (.ofNat 40))))),(some (12,true))⟩,⟨(some 15),(.p (.pick (.tmp 12) (.tmp 14) (.val (.bool false)))),none⟩] [] [1,2,5,6,15])
 (.cond (.tmp 15) (.skip)
 (.exit 0)))
 (.seq (.block 1 (.seq (.dregion [⟨⟨(some 18),(.loadn 1 (.tmp 2)),none⟩,0,5⟩,⟨⟨(some 19),(.p (.mov (.tmp 1))),none⟩,0,5⟩,⟨⟨(some 20),(.p (.mov (.tmp 6))),none⟩,0,5⟩,⟨⟨(some 21),(.p (.iaddr 1 (.tmp 19) (.tmp 20))),none⟩,0,5⟩,⟨⟨(some 22),(.load1 (.tmp 21)),none⟩,0,5⟩,⟨⟨(some 23),(.e (.call (F 24) [(.tmp 18),(.tmp 22)])),none⟩,0,7⟩,⟨⟨(some 7),(.p (.mov (.tmp 23))),none⟩,6,7⟩] [1,2,5,6,7])
 (.seq (.region [⟨(some 24),(.p (.mov (.tmp 7))),none⟩,⟨(some 25),(.p (.mov (.tmp 6))),none⟩,⟨(some 26),(.p (.bin .mul (.tmp 25) (.val (.int .i64 (.ofNat 3))))),none⟩,⟨(some 27),(.p (.mov (.tmp 1))),none⟩,⟨(some 28),(.p (.mov (.tmp 6))),none⟩,⟨(some 29),(.p (.iaddr 1 (.tmp 27) (.tmp 28))),none⟩,⟨(some 30),(.load1 (.tmp 29)),none⟩,⟨(some 31),(.p (.bin .and (.tmp 30) (.val (.int .i64 (.ofNat 1))))),none⟩,⟨(some 32),(.p (.bin .add (.tmp 26) (.tmp 31))),none⟩,⟨(some 33),(.p (.iaddr 4 (.tmp 24) (.val (.int .i64 (.ofNat 0))))),none⟩,⟨(some 34),(.p (.faddr 2 (.tmp 33))),none⟩,⟨none,(.e (.store 1 (.tmp 34) (.tmp 32))),none⟩] [] [1,2,5,6,7])
 (.region [⟨(some 35),(.p (.mov (.tmp 5))),none⟩,⟨(some 36),(.p (.mov (.tmp 7))),none⟩,⟨(some 37),(.a (.bslice [.nilslice] 1 1 [(0,1,(.tmp 36))])),none⟩,⟨(some 38),(.e (.append 1 24 (.tmp 35) (.tmp 37))),none⟩,⟨(some 5),(.p (.mov (.tmp 38))),none⟩] [37] [1,2,5,6]))))
 (.region [⟨(some 16),(.p (.mov (.tmp 6))),none⟩,⟨(some 17),(.p (.bin .add (.tmp 16) (.val (.int .i64 (.ofNat 1))))),none⟩,⟨(some 6),(.p (.mov (.tmp 17))),none⟩] [] [1,2,5,6]))))))
 (.seq (.region [⟨(some 39),(.p (.mov (.tmp 5))),none⟩,⟨(some 4),(.p (.mov (.tmp 39))),none⟩] [] [4])
 (.ret))))
def M22 (F : Nat → Nat) : Fun := ⟨40,2,(K22 F).erase,[.tmp 4]⟩
theorem ok22 {F : Nat → Nat} : (K22 F).ok = true := rfl
abbrev K23 (_F : Nat → Nat) : KC := .seq (.region [⟨(some 2),(.a (.new [.nilslice])),none⟩] [] [0,2])
 (.seq (.region [⟨(some 6),(.p (.build [.str [],.int .i64 (.ofNat 0),.bool false] [(0,1,(.val (.str [107,101,121]))),(1,1,(.val (.int .i64 (.ofNat 1))))])),none⟩,⟨(some 7),(.a (.bslice [.str [],.int .i64 (.ofNat 0),.bool false] 3 1 [(0,3,(.tmp 6))])),none⟩,⟨(some 8),(.p (.build [.nilslice] [(0,1,(.tmp 7))])),none⟩,⟨(some 3),(.a (.new [.nilslice])),none⟩,⟨none,(.e (.store 1 (.tmp 3) (.tmp 8))),none⟩] [] [0,2,3])
 (.seq (.region [⟨(some 9),(.a (.bslice [.str [],.str [],.str [],.str [],.str []] 1 5 [(0,1,(.val (.str [97]))),(1,1,(.val (.str [98,98]))),(2,1,(.val (.str [99,99,99]))),(3,1,(.val (.str [110,117,108,108]))),(4,1,(.val (.str [97,110,100])))])),none⟩,⟨(some 4),(.p (.mov (.tmp 9))),none⟩] [9] [0,2,3,4])
 (.seq (.seq (.region [⟨(some 5),(.p (.mov (.val (.int .i64 (.ofNat 0))))),none⟩] [] [0,2,3,4,5])
 (.block 0 (.loop (.seq (.seq (.region [⟨(some 10),(.p (.mov (.tmp 5))),none⟩,⟨(some 11),(.p (.mov (.tmp 0))),none⟩,⟨(some 12),(.p (.bin .and (.tmp 11) (.val (.int .i64 (.ofNat 255))))),none⟩,⟨(some 13),(.p (.bin .rem (.tmp 12) (.val (.int .i64 (.ofNat 6))))),none⟩,⟨(some 14),(.p (.bin .lss (.tmp 10) (.tmp 13))),none⟩,⟨(some 15),(.p (.mov (.tmp 14))),none⟩,⟨(some 16),(.p (.mov (.tmp 5))),(some (15,true))⟩,⟨(some 17),(.p (.bin .lss (.tmp 16) (.val (.int .i64 (.ofNat 5))))),(some (15,true))⟩,⟨(some 18),(.p (.pick (.tmp 15) (.tmp 17) (.val (.bool false)))),none⟩] [] [0,2,3,4,5,18])
 (.cond (.tmp 18) (.skip)
 (.exit 0)))
 (.seq (.block 1 (.dregion [⟨⟨(some 21),(.p (.faddr 0 (.tmp 3))),none⟩,0,24⟩,⟨⟨(some 22),(.load1 (.tmp 21)),none⟩,0,24⟩,⟨⟨(some 23),(.p (.mov (.tmp 4))),none⟩,0,24⟩,⟨⟨(some 24),(.p (.mov (.tmp 5))),none⟩,0,24⟩,⟨⟨(some 25),(.p (.iaddr 1 (.tmp 23) (.tmp 24))),none⟩,0,24⟩,⟨⟨(some 26),(.load1 (.tmp 25)),none⟩,0,24⟩,⟨⟨(some 27),(.p (.mov (.tmp 0))),none⟩,0,24⟩,⟨⟨(some 28),(.p (.mov (.tmp 5))),none⟩,0,24⟩,⟨⟨(some 29),(.p (.bin .mul (.val (.int .i64 (.ofNat 2))) (.tmp 28))),none⟩,0,24⟩,⟨⟨(some 30),(.p (.bin .add (.val (.int .i64 (.ofNat 8))) (.tmp 29))),none⟩,0,24⟩,⟨⟨(some 31),(.p (.conv (.int .u64) (.tmp 30))),none⟩,0,24⟩,⟨⟨(some 32),(.p (.bin .shr (.tmp 27) (.tmp 31))),none⟩,0,24⟩,⟨⟨(some 33),(.p (.bin .and (.tmp 32) (.val (.int .i64 (.ofNat 1))))),none⟩,0,24⟩,⟨⟨(some 34),(.p (.bin .add (.tmp 33) (.val (.int .i64 (.ofNat 1))))),none⟩,0,24⟩,⟨⟨(some 35),(.p (.mov (.tmp 0))),none⟩,0,24⟩,⟨⟨(some 36),(.p (.mov (.tmp 5))),none⟩,0,24⟩,⟨⟨(some 37),(.p (.bin .mul (.val (.int .i64 (.ofNat 2))) (.tmp 36))),none⟩,0,24⟩,⟨⟨(some 38),(.p (.bin .add (.val (.int .i64 (.ofNat 9))) (.tmp 37))),none⟩,0,24⟩,⟨⟨(some 39),(.p (.conv (.int .u64) (.tmp 38))),none⟩,0,24⟩,⟨⟨(some 40),(.p (.bin .shr (.tmp 35) (.tmp 39))),none⟩,0,24⟩,⟨⟨(some 41),(.p (.bin .and (.tmp 40) (.val (.int .i64 (.ofNat 1))))),none⟩,0,24⟩,⟨⟨(some 42),(.p (.bin .eql (.tmp 41) (.val (.int .i64 (.ofNat 1))))),none⟩,0,24⟩,⟨⟨(some 43),(.p (.build [.str [],.int .i64 (.ofNat 0),.bool false] [(0,1,(.tmp 26)),(1,1,(.tmp 34)),(2,1,(.tmp 42))])),none⟩,0,24⟩,⟨⟨(some 44),(.a (.bslice [.str [],.int .i64 (.ofNat 0),.bool false] 3 1 [(0,3,(.tmp 43))])),none⟩,0,24⟩,⟨⟨(some 45),(.e (.append 3 32 (.tmp 22) (.tmp 44))),none⟩,0,26⟩,⟨⟨(some 46),(.p (.faddr 0 (.tmp 3))),none⟩,25,26⟩,⟨⟨none,(.e (.store 1 (.tmp 46) (.tmp 45))),none⟩,25,27⟩] [0,2,3,4,5]))
 (.region [⟨(some 19),(.p (.mov (.tmp 5))),none⟩,⟨(some 20),(.p (.bin .add (.tmp 19) (.val (.int .i64 (.ofNat 1))))),none⟩,⟨(some 5),(.p (.mov (.tmp 20))),none⟩] [] [0,2,3,4,5]))))))
 (.seq (.region [⟨(some 47),(.loadn 1 (.tmp 3)),none⟩,⟨none,(.e (.store 1 (.tmp 2) (.tmp 47))),none⟩] [] [2])
 (.ret)))))
def M23 (F : Nat → Nat) : Fun := ⟨48,1,(K23 F).erase,[.celln 1 2]⟩
theorem ok23 {F : Nat → Nat} : (K23 F).ok = true := rfl
abbrev K24 (F : Nat → Nat) : KC := .seq (.region [⟨(some 2),(.a (.box (.tmp 0))),none⟩,⟨(some 4),(.p (.mov (.val (.nilslice)))),none⟩] [2] [1,2])
 (.seq (.region [⟨(some 5),(.p (.mov (.val (.nilslice)))),none⟩] [] [1,2,5])
 (.seq (.seq (.region [⟨(some 8),(.p (.faddr 0 (.tmp 2))),none⟩,⟨(some 9),(.load1 (.tmp 8)),none⟩,⟨(some 10),(.p (.lenb (.tmp 9))),none⟩,⟨(some 11),(.p (.mov (.val (.int .i64 (.ofNat 0))))),none⟩] [] [1,5,9,10,11])
 (.block 0 (.loop (.seq (.region [⟨(some 12),(.p (.bin .lss (.tmp 11) (.tmp 10))),none⟩] [] [1,5,9,10,11,12])
 (.seq (.cond (.tmp 12) (.skip)
 (.exit 0))
 (.seq (.block 1 (.seq (.region [⟨(some 13),(.p (.mov (.tmp 11))),none⟩,⟨(some 14),(.p (.iaddr 3 (.tmp 9) (.tmp 11))),none⟩,⟨(some 15),(.loadn 3 (.tmp 14)),none⟩,⟨(some 7),(.a (.new [.str [],.int .i64 (.ofNat 0),.bool false])),none⟩,⟨(some 6),(.p (.mov (.tmp 13))),none⟩,⟨none,(.e (.store 3 (.tmp 7) (.tmp 15))),none⟩] [] [1,5,6,7,9,10,11])
 (.seq (.seq (.region [⟨(some 16),(.p (.mov (.tmp 6))),none⟩,⟨(some 17),(.p (.bin .eql (.tmp 16) (.val (.int .i64 (.ofNat 0))))),none⟩] [] [1,5,6,7,9,10,11,17])
 (.cond (.tmp 17) (.seq (.region [⟨(some 18),(.p (.mov (.tmp 5))),none⟩,⟨(some 19),(.p (.mov (.tmp 1))),none⟩,⟨(some 20),(.p (.bin .and (.tmp 19) (.val (.int .i64 (.ofNat 15))))),none⟩,⟨(some 21),(.p (.build [.bool false,.int .i64 (.ofNat 0),.int .i64 (.ofNat 0),.nilslice] [(1,1,(.val (.int .i64 (.ofNat 1)))),(2,1,(.tmp 20))])),none⟩,⟨(some 22),(.a (.bslice [.bool false,.int .i64 (.ofNat 0),.int .i64 (.ofNat 0),.nilslice] 4 1 [(0,4,(.tmp 21))])),none⟩,⟨(some 23),(.e (.append 4 48 (.tmp 18) (.tmp 22))),none⟩,⟨(some 5),(.p (.mov (.tmp 23))),none⟩] [22] [1,5,9,10,11])
 (.exit 1))
 (.skip)))
 (.region [⟨(some 24),(.p (.mov (.tmp 5))),none⟩,⟨(some 25),(.loadn 3 (.tmp 7)),none⟩,⟨(some 26),(.p (.mov (.tmp 1))),none⟩,⟨(some 27),(.p (.mov (.tmp 6))),none⟩,⟨(some 28),(.p (.bin .mul (.val (.int .i64 (.ofNat 3))) (.tmp 27))),none⟩,⟨(some 29),(.p (.conv (.int .u64) (.tmp 28))),none⟩,⟨(some 30),(.p (.bin .shr (.tmp 26) (.tmp 29))),none⟩,⟨(some 31),(.p (.mov (.tmp 1))),none⟩,⟨(some 32),(.p (.bin .shr (.tmp 31) (.val (.int .u64 (.ofNat 17))))),none⟩,⟨(some 33),(.p (.bin .xor (.tmp 30) (.tmp 32))),none⟩,⟨(some 34),(.e (.call (F 25) [(.tmp 25),(.tmp 33)])),none⟩,⟨(some 35),(.a (.bslice [.bool false,.int .i64 (.ofNat 0),.int .i64 (.ofNat 0),.nilslice] 4 1 [(0,4,(.tmp 34))])),none⟩,⟨(some 36),(.e (.append 4 48 (.tmp 24) (.tmp 35))),none⟩,⟨(some 5),(.p (.mov (.tmp 36))),none⟩] [35] [1,5,9,10,11]))))
 (.region [⟨(some 37),(.p (.bin .add (.tmp 11) (.val (.int .i64 (.ofNat 1))))),none⟩,⟨(some 11),(.p (.mov (.tmp 37))),none⟩] [] [1,5,9,10,11])))))))
 (.seq (.region [⟨(some 38),(.p (.mov (.tmp 5))),none⟩,⟨(some 4),(.p (.mov (.tmp 38))),none⟩] [] [4])
 (.ret))))
def M24 (F : Nat → Nat) : Fun := ⟨39,2,(K24 F).erase,[.tmp 4]⟩
theorem ok24 {F : Nat → Nat} : (K24 F).ok = true := rfl
abbrev K25 (_F : Nat → Nat) : KC := .seq (.region [⟨(some 2),(.a (.box (.tmp 0))),none⟩,⟨(some 4),(.a (.new [.bool false,.int .i64 (.ofNat 0),.int .i64 (.ofNat 0),.nilslice])),none⟩] [2] [1,2,4])
 (.seq (.seq (.region [⟨(some 6),(.p (.faddr 2 (.tmp 2))),none⟩,⟨(some 7),(.load1 (.tmp 6)),none⟩,⟨(some 8),(.p (.mov (.tmp 7))),none⟩,⟨(some 9),(.p (.mov (.tmp 1))),(some (8,true))⟩,⟨(some 10),(.p (.bin .and (.tmp 9) (.val (.int .i64 (.ofNat 7))))),(some (8,true))⟩,⟨(some 11),(.p (.bin .eql (.tmp 10) (.val (.int .i64 (.ofNat 0))))),(some (8,true))⟩,⟨(some 12),(.p (.pick (.tmp 8) (.tmp 11) (.val (.bool false)))),none⟩] [] [1,2,4,12])
 (.cond (.tmp 12) (.seq (.region [⟨(some 13),(.p (.faddr 1 (.tmp 2))),none⟩,⟨(some 14),(.load1 (.tmp 13)),none⟩,⟨(some 15),(.p (.build [.bool false,.int .i64 (.ofNat 0),.int .i64 (.ofNat 0),.nilslice] [(1,1,(.tmp 14)),(0,1,(.val (.bool true)))])),none⟩,⟨none,(.e (.store 4 (.tmp 4) (.tmp 15))),none⟩] [] [4])
 (.ret))
 (.skip)))
 (.seq (.region [⟨(some 16),(.p (.faddr 1 (.tmp 2))),none⟩,⟨(some 17),(.load1 (.tmp 16)),none⟩,⟨(some 18),(.p (.build [.bool false,.int .i64 (.ofNat 0),.int .i64 (.ofNat 0),.nilslice] [(1,1,(.tmp 17))])),none⟩,⟨(some 5),(.a (.new [.bool false,.int .i64 (.ofNat 0),.int .i64 (.ofNat 0),.nilslice])),none⟩,⟨none,(.e (.store 4 (.tmp 5) (.tmp 18))),none⟩] [] [1,2,4,5])
 (.seq (.seq (.region [⟨(some 19),(.p (.faddr 1 (.tmp 2))),none⟩,⟨(some 20),(.load1 (.tmp 19)),none⟩,⟨(some 21),(.p (.bin .eql (.tmp 20) (.val (.int .i64 (.ofNat 1))))),none⟩] [] [1,4,5,21])
 (.cond (.tmp 21) (.seq (.region [⟨(some 22),(.p (.mov (.tmp 1))),none⟩,⟨(some 23),(.p (.bin .shr (.tmp 22) (.val (.int .u64 (.ofNat 3))))),none⟩,⟨(some 24),(.p (.bin .and (.tmp 23) (.val (.int .i64 (.ofNat 7))))),none⟩,⟨(some 25),(.p (.faddr 2 (.tmp 5))),none⟩,⟨none,(.e (.store 1 (.tmp 25) (.tmp 24))),none⟩] [] [1,4,5])
 (.seq (.seq (.region [⟨(some 26),(.p (.mov (.tmp 1))),none⟩,⟨(some 27),(.p (.bin .shr (.tmp 26) (.val (.int .u64 (.ofNat 6))))),none⟩,⟨(some 28),(.p (.bin .and (.tmp 27) (.val (.int .i64 (.ofNat 15))))),none⟩] [] [1,4,5,28])
 (.block 0 (.seq (.region [⟨(some 30),(.p (.bin .eql (.tmp 28) (.val (.int .i64 (.ofNat 0))))),none⟩,⟨(some 29),(.p (.mov (.tmp 30))),none⟩] [] [1,4,5,28,29])
 (.cond (.tmp 29) (.region [⟨(some 31),(.p (.mov (.tmp 1))),none⟩,⟨(some 32),(.p (.bin .mul (.tmp 31) (.val (.int .i64 (.ofNat 712544676207699905))))),none⟩,⟨(some 33),(.p (.faddr 2 (.tmp 5))),none⟩,⟨none,(.e (.store 1 (.tmp 33) (.tmp 32))),none⟩] [] [4,5])
 (.seq (.region [⟨(some 35),(.p (.bin .eql (.tmp 28) (.val (.int .i64 (.ofNat 1))))),none⟩,⟨(some 34),(.p (.mov (.tmp 35))),none⟩] [] [4,5,28,34])
 (.cond (.tmp 34) (.region [⟨(some 36),(.p (.faddr 2 (.tmp 5))),none⟩,⟨(some 37),(.load1 (.tmp 36)),none⟩,⟨(some 38),(.p (.neg (.tmp 37))),none⟩,⟨(some 39),(.p (.faddr 2 (.tmp 5))),none⟩,⟨none,(.e (.store 1 (.tmp 39) (.tmp 38))),none⟩] [] [4,5])
 (.seq (.region [⟨(some 41),(.p (.bin .eql (.tmp 28) (.val (.int .i64 (.ofNat 2))))),none⟩,⟨(some 40),(.p (.mov (.tmp 41))),none⟩] [] [4,5,40])
 (.cond (.tmp 40) (.region [⟨(some 42),(.p (.faddr 2 (.tmp 5))),none⟩,⟨(some 43),(.load1 (.tmp 42)),none⟩,⟨(some 44),(.p (.bin .sub (.val (.int .i64 (.ofNat 9223372036854775807))) (.tmp 43))),none⟩,⟨(some 45),(.p (.faddr 2 (.tmp 5))),none⟩,⟨none,(.e (.store 1 (.tmp 45) (.tmp 44))),none⟩] [] [4,5])
 (.skip)))))))))
 (.seq (.region [⟨(some 46),(.loadn 4 (.tmp 5)),none⟩,⟨none,(.e (.store 4 (.tmp 4) (.tmp 46))),none⟩] [] [4])
 (.ret))))
 (.skip)))
 (.seq (.region [⟨(some 47),(.a (.bslice [.int .u8 (.ofNat 0),.int .u8 (.ofNat 0),.int .u8 (.ofNat 0),.int .u8 (.ofNat 0),.int .u8 (.ofNat 0),.int .u8 (.ofNat 0),.int .u8 (.ofNat 0),.int .u8 (.ofNat 0)] 1 8 [(0,1,(.val (.int .u8 (.ofNat 97)))),(1,1,(.val (.int .u8 (.ofNat 98)))),(2,1,(.val (.int .u8 (.ofNat 99)))),(3,1,(.val (.int .u8 (.ofNat 97)))),(4,1,(.val (.int .u8 (.ofNat 98)))),(5,1,(.val (.int .u8 (.ofNat 99)))),(6,1,(.val (.int .u8 (.ofNat 97)))),(7,1,(.val (.int .u8 (.ofNat 98))))])),none⟩,⟨(some 48),(.e (.mark (.tmp 47))),none⟩,⟨(some 49),(.p (.mov (.tmp 1))),none⟩,⟨(some 50),(.p (.bin .shr (.tmp 49) (.val (.int .u64 (.ofNat 3))))),none⟩,⟨(some 51),(.p (.bin .and (.tmp 50) (.val (.int .i64 (.ofNat 3))))),none⟩,⟨(some 52),(.p (.mov (.tmp 1))),none⟩,⟨(some 53),(.p (.bin .shr (.tmp 52) (.val (.int .u64 (.ofNat 3))))),none⟩,⟨(some 54),(.p (.bin .and (.tmp 53) (.val (.int .i64 (.ofNat 3))))),none⟩,⟨(some 55),(.p (.mov (.tmp 1))),none⟩,⟨(some 56),(.p (.bin .shr (.tmp 55) (.val (.int .u64 (.ofNat 5))))),none⟩,⟨(some 57),(.p (.bin .and (.tmp 56) (.val (.int .i64 (.ofNat 3))))),none⟩,⟨(some 58),(.p (.bin .add (.tmp 54) (.tmp 57))),none⟩,⟨(some 59),(.p (.slc 1 (.tmp 48) (some (.tmp 51)) (some (.tmp 58)) none)),none⟩,⟨(some 60),(.p (.faddr 3 (.tmp 5))),none⟩,⟨none,(.e (.store 1 (.tmp 60) (.tmp 59))),none⟩] [] [4,5])
 (.seq (.region [⟨(some 61),(.loadn 4 (.tmp 5)),none⟩,⟨none,(.e (.store 4 (.tmp 4) (.tmp 61))),none⟩] [] [4])
 (.ret))))))
def M25 (F : Nat → Nat) : Fun := ⟨62,2,(K25 F).erase,[.celln 4 4]⟩
theorem ok25 {F : Nat → Nat} : (K25 F).ok = true := rfl
end Go.Lib
end

section
namespace Go.Lib
open Go.Vm Go.Dv
set_option maxRecDepth 100000
abbrev K1 (F : Nat → Nat) : KC := .seq (.region [⟨(some 2),(.a (.box (.tmp 0))),none⟩,⟨(some 3),(.a (.box (.tmp 1))),none⟩,⟨(some 4),(.p (.mov (.val (.int .i64 (.ofNat 0))))),none⟩] [2,3] [2,3])
 (.seq (.seq (.dregion [⟨⟨(some 6),(.loadn 4 (.tmp 2)),none⟩,0,1⟩,⟨⟨(some 7),(.e (.call (F 8) [(.tmp 6)])),none⟩,0,3⟩,⟨⟨(some 8),(.loadn 4 (.tmp 3)),none⟩,0,3⟩,⟨⟨(some 9),(.e (.call (F 8) [(.tmp 8)])),none⟩,2,4⟩,⟨⟨(some 10),(.e (.call (F 9) [(.tmp 7),(.tmp 9)])),none⟩,4,6⟩,⟨⟨(some 5),(.p (.mov (.tmp 10))),none⟩,5,6⟩] [2,3,5])
 (.seq (.region [⟨(some 11),(.p (.mov (.tmp 5))),none⟩,⟨(some 12),(.p (.bin .neq (.tmp 11) (.val (.int .i64 (.ofNat 0))))),none⟩,⟨(some 13),(.p (.mov (.tmp 12))),none⟩,⟨(some 14),(.p (.faddr 0 (.tmp 2))),(some (13,false))⟩,⟨(some 15),(.load1 (.tmp 14)),(some (13,false))⟩,⟨(some 16),(.p (.pick (.tmp 13) (.val (.bool true)) (.tmp 15))),none⟩] [] [2,3,5,16])
 (.cond (.tmp 16) (.seq (.region [⟨(some 17),(.p (.mov (.tmp 5))),none⟩,⟨(some 4),(.p (.mov (.tmp 17))),none⟩] [] [4])
 (.ret))
 (.skip))))
 (.seq (.seq (.region [⟨(some 18),(.p (.faddr 1 (.tmp 2))),none⟩,⟨(some 19),(.load1 (.tmp 18)),none⟩] [] [2,3,19])
 (.block 0 (.seq (.region [⟨(some 21),(.p (.bin .eql (.tmp 19) (.val (.int .i64 (.ofNat 1))))),none⟩,⟨(some 20),(.p (.mov (.tmp 21))),none⟩] [] [2,3,19,20])
 (.cond (.tmp 20) (.seq (.region [⟨(some 22),(.p (.faddr 2 (.tmp 2))),none⟩,⟨(some 23),(.load1 (.tmp 22)),none⟩,⟨(some 24),(.p (.faddr 2 (.tmp 3))),none⟩,⟨(some 25),(.load1 (.tmp 24)),none⟩,⟨(some 26),(.e (.call (F 10) [(.tmp 23),(.tmp 25)])),none⟩,⟨(some 4),(.p (.mov (.tmp 26))),none⟩] [] [4])
 (.ret))
 (.seq (.region [⟨(some 28),(.p (.bin .eql (.tmp 19) (.val (.int .i64 (.ofNat 2))))),none⟩,⟨(some 27),(.p (.mov (.tmp 28))),none⟩] [] [2,3,27])
 (.cond (.tmp 27) (.seq (.region [⟨(some 29),(.p (.faddr 3 (.tmp 2))),none⟩,⟨(some 30),(.load1 (.tmp 29)),none⟩,⟨(some 31),(.p (.faddr 3 (.tmp 3))),none⟩,⟨(some 32),(.load1 (.tmp 31)),none⟩,⟨(some 33),(.e (.call (F 11) [(.tmp 30),(.tmp 32)])),none⟩,⟨(some 4),(.p (.mov (.tmp 33))),none⟩] [] [4])
 (.ret))
 (.skip)))))))
 (.seq (.region [⟨(some 4),(.p (.mov (.val (.int .i64 (.ofNat 0))))),none⟩] [] [4])
 (.ret))))
def M1 (F : Nat → Nat) : Fun := ⟨34,2,(K1 F).erase,[.tmp 4]⟩
theorem ok1 {F : Nat → Nat} : (K1 F).ok = true := rfl
abbrev K2 (F : Nat → Nat) : KC := .seq (.region [⟨(some 4),(.p (.mov (.val (.int .i64 (.ofNat 0))))),none⟩] [] [0,1])
 (.seq (.region [⟨(some 5),(.p (.mov (.tmp 0))),none⟩,⟨(some 6),(.p (.mov (.tmp 1))),none⟩,⟨(some 7),(.e (.call (F 12) [(.tmp 5),(.tmp 6),(.val (.func (F 1) [] []))])),none⟩,⟨(some 4),(.p (.mov (.tmp 7))),none⟩] [] [4])
 (.ret))
def M2 (F : Nat → Nat) : Fun := ⟨8,2,(K2 F).erase,[.tmp 4]⟩
abbrev K3 (F : Nat → Nat) : KC := .seq (.region [⟨(some 4),(.a (.new [.bool false,.int .i64 (.ofNat 0),.int .i64 (.ofNat 0),.nilslice])),none⟩] [] [0,1,4])
 (.seq (.seq (.region [⟨(some 5),(.p (.mov (.tmp 1))),none⟩,⟨(some 6),(.p (.bin .lss (.tmp 5) (.val (.int .i64 (.ofNat 0))))),none⟩,⟨(some 7),(.p (.mov (.tmp 6))),none⟩,⟨(some 8),(.p (.mov (.tmp 1))),(some (7,false))⟩,⟨(some 9),(.p (.mov (.tmp 0))),(some (7,false))⟩,⟨(some 10),(.p (.lenb (.tmp 9))),(some (7,false))⟩,⟨(some 11),(.p (.bin .geq (.tmp 8) (.tmp 10))),(some (7,false))⟩,⟨(some 12),(.p (.pick (.tmp 7) (.val (.bool true)) (.tmp 11))),none⟩] [] [0,1,4,12])
 (.cond (.tmp 12) (.seq (.region [⟨(some 13),(.p (.build [.bool false,.int .i64 (.ofNat 0),.int .i64 (.ofNat 0),.nilslice] [])),none⟩,⟨none,(.e (.store 4 (.tmp 4) (.tmp 13))),none⟩] [] [4])
 (.ret))
 (.skip)))
 (.seq (.region [⟨(some 14),(.p (.mov (.tmp 0))),none⟩,⟨(some 15),(.p (.mov (.tmp 1))),none⟩,⟨(some 16),(.p (.iaddr 4 (.tmp 14) (.tmp 15))),none⟩,⟨(some 17),(.loadn 4 (.tmp 16)),none⟩,⟨(some 18),(.e (.call (F 5) [(.tmp 17)])),none⟩,⟨none,(.e (.store 4 (.tmp 4) (.tmp 18))),none⟩] [] [4])
 (.ret)))
def M3 (F : Nat → Nat) : Fun := ⟨19,2,(K3 F).erase,[.celln 4 4]⟩
theorem ok3 {F : Nat → Nat} : (K3 F).ok = true := rfl
abbrev K4 (F : Nat → Nat) : KC := .seq (.region [⟨(some 2),(.p (.mov (.val (.nilslice)))),none⟩] [] [0])
 (.seq (.region [⟨(some 3),(.p (.mov (.val (.nilslice)))),none⟩] [] [0,3])
 (.seq (.seq (.region [⟨(some 6),(.p (.mov (.tmp 0))),none⟩,⟨(some 7),(.p (.lenb (.tmp 6))),none⟩,⟨(some 8),(.p (.mov (.val (.int .i64 (.ofNat 0))))),none⟩] [] [3,6,7,8])
 (.block 0 (.loop (.seq (.region [⟨(some 9),(.p (.bin .lss (.tmp 8) (.tmp 7))),none⟩] [] [3,6,7,8,9])
 (.seq (.cond (.tmp 9) (.skip)
 (.exit 0))
 (.seq (.block 1 (.seq (.region [⟨(some 10),(.p (.iaddr 4 (.tmp 6) (.tmp 8))),none⟩,⟨(some 11),(.loadn 4 (.tmp 10)),none⟩,⟨(some 5),(.a (.new [.bool false,.int .i64 (.ofNat 0),.int .i64 (.ofNat 0),.nilslice])),none⟩,⟨none,(.e (.store 4 (.tmp 5) (.tmp 11))),none⟩] [] [3,5,6,7,8])
 (.region [⟨(some 12),(.p (.mov (.tmp 3))),none⟩,⟨(some 13),(.loadn 4 (.tmp 5)),none⟩,⟨(some 14),(.e (.call (F 5) [(.tmp 13)])),none⟩,⟨(some 15),(.a (.bslice [.bool false,.int .i64 (.ofNat 0),.int .i64 (.ofNat 0),.nilslice] 4 1 [(0,4,(.tmp 14))])),none⟩,⟨(some 16),(.e (.append 4 48 (.tmp 12) (.tmp 15))),none⟩,⟨(some 3),(.p (.mov (.tmp 16))),none⟩] [15] [3,6,7,8])))
 (.region [⟨(some 17),(.p (.bin .add (.tmp 8) (.val (.int .i64 (.ofNat 1))))),none⟩,⟨(some 8),(.p (.mov (.tmp 17))),none⟩] [] [3,6,7,8])))))))
 (.seq (.region [⟨(some 18),(.p (.mov (.tmp 3))),none⟩,⟨(some 19),(.e (.call (F 13) [(.tmp 18)])),none⟩,⟨(some 2),(.p (.mov (.tmp 19))),none⟩] [] [2])
 (.ret))))
def M4 (F : Nat → Nat) : Fun := ⟨20,1,(K4 F).erase,[.tmp 2]⟩
theorem ok4 {F : Nat → Nat} : (K4 F).ok = true := rfl
abbrev K5 (F : Nat → Nat) : KC := .seq (.region [⟨(some 1),(.a (.box (.tmp 0))),none⟩,⟨(some 2),(.a (.new [.bool false,.int .i64 (.ofNat 0),.int .i64 (.ofNat 0),.nilslice])),none⟩] [] [1,2])
 (.seq (.region [⟨(some 3),(.p (.faddr 3 (.tmp 1))),none⟩,⟨(some 4),(.load1 (.tmp 3)),none⟩,⟨(some 5),(.e (.call (F 14) [(.tmp 4)])),none⟩,⟨(some 6),(.p (.faddr 3 (.tmp 1))),none⟩,⟨none,(.e (.store 1 (.tmp 6) (.tmp 5))),none⟩] [] [1,2])
 (.seq (.region [⟨(some 7),(.loadn 4 (.tmp 1)),none⟩,⟨none,(.e (.store 4 (.tmp 2) (.tmp 7))),none⟩] [] [2])
 (.ret)))
def M5 (F : Nat → Nat) : Fun := ⟨8,1,(K5 F).erase,[.celln 4 2]⟩
theorem ok5 {F : Nat → Nat} : (K5 F).ok = true := rfl
abbrev K6 (F : Nat → Nat) : KC := .seq (.region [⟨(some 2),(.a (.box (.tmp 0))),none⟩,⟨(some 3),(.a (.box (.tmp 1))),none⟩,⟨(some 4),(.p (.mov (.val (.bool false)))),none⟩] [2,3] [2,3])
 (.seq (.region [⟨(some 5),(.p (.faddr 0 (.tmp 2))),none⟩,⟨(some 6),(.load1 (.tmp 5)),none⟩,⟨(some 7),(.p (.faddr 0 (.tmp 3))),none⟩,⟨(some 8),(.load1 (.tmp 7)),none⟩,⟨(some 9),(.p (.eq .bool false (.tmp 6) (.tmp 8))),none⟩,⟨(some 10),(.p (.mov (.tmp 9))),none⟩,⟨(some 11),(.p (.faddr 1 (.tmp 2))),(some (10,true))⟩,⟨(some 12),(.load1 (.tmp 11)),(some (10,true))⟩,⟨(some 13),(.p (.faddr 1 (.tmp 3))),(some (10,true))⟩,⟨(some 14),(.load1 (.tmp 13)),(some (10,true))⟩,⟨(some 15),(.p (.bin .eql (.tmp 12) (.tmp 14))),(some (10,true))⟩,⟨(some 16),(.p (.pick (.tmp 10) (.tmp 15) (.val (.bool false)))),none⟩,⟨(some 17),(.p (.mov (.tmp 16))),none⟩,⟨(some 18),(.p (.faddr 2 (.tmp 2))),(some (17,true))⟩,⟨(some 19),(.load1 (.tmp 18)),(some (17,true))⟩,⟨(some 20),(.p (.faddr 2 (.tmp 3))),(some (17,true))⟩,⟨(some 21),(.load1 (.tmp 20)),(some (17,true))⟩,⟨(some 22),(.p (.bin .eql (.tmp 19) (.tmp 21))),(some (17,true))⟩,⟨(some 23),(.p (.pick (.tmp 17) (.tmp 22) (.val (.bool false)))),none⟩,⟨(some 24),(.p (.mov (.tmp 23))),none⟩,⟨(some 25),(.p (.faddr 3 (.tmp 2))),(some (24,true))⟩,⟨(some 26),(.load1 (.tmp 25)),(some (24,true))⟩,⟨(some 27),(.p (.faddr 3 (.tmp 3))),(some (24,true))⟩,⟨(some 28),(.load1 (.tmp 27)),(some (24,true))⟩,⟨(some 29),(.e (.call (F 15) [(.tmp 26),(.tmp 28)])),(some (24,true))⟩,⟨(some 30),(.p (.pick (.tmp 24) (.tmp 29) (.val (.bool false)))),none⟩,⟨(some 4),(.p (.mov (.tmp 30))),none⟩] [] [4])
 (.ret))
def M6 (F : Nat → Nat) : Fun := ⟨31,2,(K6 F).erase,[.tmp 4]⟩
abbrev K7 (F : Nat → Nat) : KC := .seq (.region [⟨(some 4),(.p (.mov (.val (.bool false)))),none⟩] [] [0,1])
 (.seq (.region [⟨(some 5),(.p (.mov (.tmp 0))),none⟩,⟨(some 6),(.p (.mov (.tmp 1))),none⟩,⟨(some 7),(.e (.call (F 16) [(.tmp 5),(.tmp 6),(.val (.func (F 17) [] []))])),none⟩,⟨(some 4),(.p (.mov (.tmp 7))),none⟩] [] [4])
 (.ret))
def M7 (F : Nat → Nat) : Fun := ⟨8,2,(K7 F).erase,[.tmp 4]⟩
abbrev K8 (_F : Nat → Nat) : KC := .seq (.region [⟨(some 1),(.a (.box (.tmp 0))),none⟩,⟨(some 2),(.p (.mov (.val (.int .i64 (.ofNat 0))))),none⟩] [1] [1])
 (.seq (.seq (.region [⟨(some 3),(.p (.faddr 0 (.tmp 1))),none⟩,⟨(some 4),(.load1 (.tmp 3)),none⟩] [] [4])
 (.cond (.tmp 4) (.seq (.region [⟨(some 2),(.p (.mov (.val (.int .i64 (.ofNat 0))))),none⟩] [] [2])
 (.ret))
 (.skip)))
 (.seq (.region [⟨(some 2),(.p (.mov (.val (.int .i64 (.ofNat 1))))),none⟩] [] [2])
 (.ret)))
def M8 (F : Nat → Nat) : Fun := ⟨5,1,(K8 F).erase,[.tmp 2]⟩
theorem ok8 {F : Nat → Nat} : (K8 F).ok = true := rfl
abbrev K9 (F : Nat → Nat) : KC := .seq (.region [⟨(some 4),(.p (.mov (.val (.int .i64 (.ofNat 0))))),none⟩] [] [0,1])
 (.seq (.region [⟨(some 7),(.p (.mov (.tmp 0))),none⟩,⟨(some 8),(.e (.call (F 18) [(.tmp 7)])),none⟩,⟨(some 5),(.p (.mov (.tmp 8))),none⟩] [] [0,1,5])
 (.seq (.region [⟨(some 9),(.p (.mov (.tmp 1))),none⟩,⟨(some 10),(.e (.call (F 18) [(.tmp 9)])),none⟩,⟨(some 6),(.p (.mov (.tmp 10))),none⟩] [] [0,1,5,6])
 (.seq (.seq (.region [⟨(some 11),(.p (.mov (.tmp 5))),none⟩] [] [0,1,6,11])
 (.cond (.tmp 11) (.seq (.seq (.region [⟨(some 12),(.p (.mov (.tmp 6))),none⟩] [] [12])
 (.cond (.tmp 12) (.seq (.region [⟨(some 4),(.p (.mov (.val (.int .i64 (.ofNat 0))))),none⟩] [] [4])
 (.ret))
 (.skip)))
 (.seq (.region [⟨(some 4),(.p (.mov (.val (.int .i64 (.negSucc 0))))),none⟩] [] [4])
 (.ret)))
 (.skip)))
 (.seq (.seq (.region [⟨(some 13),(.p (.mov (.tmp 6))),none⟩] [] [0,1,13])
 (.cond (.tmp 13) (.seq (.region [⟨(some 4),(.p (.mov (.val (.int .i64 (.ofNat 1))))),none⟩] [] [4])
 (.ret))
 (.skip)))
 (.seq (.seq (.region [⟨(some 14),(.p (.mov (.tmp 0))),none⟩,⟨(some 15),(.p (.mov (.tmp 1))),none⟩,⟨(some 16),(.p (.bin .lss (.tmp 14) (.tmp 15))),none⟩] [] [0,1,16])
 (.cond (.tmp 16) (.seq (.region [⟨(some 4),(.p (.mov (.val (.int .i64 (.negSucc 0))))),none⟩] [] [4])
 (.ret))
 (.skip)))
 (.seq (.seq (.region [⟨(some 17),(.p (.mov (.tmp 0))),none⟩,⟨(some 18),(.p (.mov (.tmp 1))),none⟩,⟨(some 19),(.p (.bin .gtr (.tmp 17) (.tmp 18))),none⟩] [] [19])
 (.cond (.tmp 19) (.seq (.region [⟨(some 4),(.p (.mov (.val (.int .i64 (.ofNat 1))))),none⟩] [] [4])
 (.ret))
 (.skip)))
 (.seq (.region [⟨(some 4),(.p (.mov (.val (.int .i64 (.ofNat 0))))),none⟩] [] [4])
 (.ret))))))))
def M9 (F : Nat → Nat) : Fun := ⟨20,2,(K9 F).erase,[.tmp 4]⟩
theorem ok9 {F : Nat → Nat} : (K9 F).ok = true := rfl
abbrev K10 (F : Nat → Nat) : KC := .seq (.region [⟨(some 4),(.p (.mov (.val (.int .i64 (.ofNat 0))))),none⟩] [] [0,1])
 (.seq (.region [⟨(some 7),(.p (.mov (.tmp 0))),none⟩,⟨(some 8),(.e (.call (F 19) [(.tmp 7)])),none⟩,⟨(some 5),(.p (.mov (.tmp 8))),none⟩] [] [0,1,5])
 (.seq (.region [⟨(some 9),(.p (.mov (.tmp 1))),none⟩,⟨(some 10),(.e (.call (F 19) [(.tmp 9)])),none⟩,⟨(some 6),(.p (.mov (.tmp 10))),none⟩] [] [0,1,5,6])
 (.seq (.seq (.region [⟨(some 11),(.p (.mov (.tmp 5))),none⟩] [] [0,1,6,11])
 (.cond (.tmp 11) (.seq (.seq (.region [⟨(some 12),(.p (.mov (.tmp 6))),none⟩] [] [12])
 (.cond (.tmp 12) (.seq (.region [⟨(some 4),(.p (.mov (.val (.int .i64 (.ofNat 0))))),none⟩] [] [4])
 (.ret))
 (.skip)))
 (.seq (.region [⟨(some 4),(.p (.mov (.val (.int .i64 (.negSucc 0))))),none⟩] [] [4])
 (.ret)))
 (.skip)))
 (.seq (.seq (.region [⟨(some 13),(.p (.mov (.tmp 6))),none⟩] [] [0,1,13])
 (.cond (.tmp 13) (.seq (.region [⟨(some 4),(.p (.mov (.val (.int .i64 (.ofNat 1))))),none⟩] [] [4])
 (.ret))
 (.skip)))
 (.seq (.seq (.region [⟨(some 14),(.p (.mov (.tmp 0))),none⟩,⟨(some 15),(.p (.mov (.tmp 1))),none⟩,⟨(some 16),(.p (.bin .lss (.tmp 14) (.tmp 15))),none⟩] [] [0,1,16])
 (.cond (.tmp 16) (.seq (.region [⟨(some 4),(.p (.mov (.val (.int .i64 (.negSucc 0))))),none⟩] [] [4])
 (.ret))
 (.skip)))
 (.seq (.seq (.region [⟨(some 17),(.p (.mov (.tmp 0))),none⟩,⟨(some 18),(.p (.mov (.tmp 1))),none⟩,⟨(some 19),(.p (.bin .gtr (.tmp 17) (.tmp 18))),none⟩] [] [19])
 (.cond (.tmp 19) (.seq (.region [⟨(some 4),(.p (.mov (.val (.int .i64 (.ofNat 1))))),none⟩] [] [4])
 (.ret))
 (.skip)))
 (.seq (.region [⟨(some 4),(.p (.mov (.val (.int .i64 (.ofNat 0))))),none⟩] [] [4])
 (.ret))))))))
def M10 (F : Nat → Nat) : Fun := ⟨20,2,(K10 F).erase,[.tmp 4]⟩
theorem ok10 {F : Nat → Nat} : (K10 F).ok = true := rfl
abbrev K11 (F : Nat → Nat) : KC := .seq (.region [⟨(some 4),(.p (.mov (.val (.int .i64 (.ofNat 0))))),none⟩] [] [0,1])
 (.seq (.region [⟨(some 5),(.p (.mov (.tmp 0))),none⟩,⟨(some 6),(.p (.mov (.tmp 1))),none⟩,⟨(some 7),(.e (.extern (F 20) [(.tmp 5),(.tmp 6)])),none⟩,⟨(some 4),(.p (.mov (.tmp 7))),none⟩] [] [4])
 (.ret))
def M11 (F : Nat → Nat) : Fun := ⟨8,2,(K11 F).erase,[.tmp 4]⟩
theorem ok11 {F : Nat → Nat} : (K11 F).ok = true := rfl
abbrev K12 (_F : Nat → Nat) : KC := .seq (.region [⟨(some 6),(.p (.mov (.val (.int .i64 (.ofNat 0))))),none⟩] [] [0,1,2])
 (.seq (.seq (.region [⟨(some 11),(.p (.mov (.tmp 0))),none⟩,⟨(some 12),(.p (.lenb (.tmp 11))),none⟩,⟨(some 13),(.p (.mov (.val (.int .i64 (.ofNat 0))))),none⟩] [] [0,1,2,11,12,13])
 (.block 0 (.loop (.seq (.region [⟨(some 14),(.p (.bin .lss (.tmp 13) (.tmp 12))),none⟩] [] [0,1,2,11,12,13,14])
 (.seq (.cond (.tmp 14) (.skip)
 (.exit 0))
 (.seq (.block 1 (.seq (.region [⟨(some 15),(.p (.mov (.tmp 13))),none⟩,⟨(some 16),(.p (.iaddr 4 (.tmp 11) (.tmp 13))),none⟩,⟨(some 17),(.loadn 4 (.tmp 16)),none⟩,⟨(some 8),(.a (.new [.bool false,.int .i64 (.ofNat 0),.int .i64 (.ofNat 0),.nilslice])),none⟩,⟨(some 7),(.p (.mov (.tmp 15))),none⟩,⟨none,(.e (.store 4 (.tmp 8) (.tmp 17))),none⟩] [] [0,1,2,7,8,11,12,13])
 (.seq (.seq (.region [⟨(some 18),(.p (.mov (.tmp 7))),none⟩,⟨(some 19),(.p (.mov (.tmp 1))),none⟩,⟨(some 20),(.p (.lenb (.tmp 19))),none⟩,⟨(some 21),(.p (.bin .geq (.tmp 18) (.tmp 20))),none⟩] [] [0,1,2,7,8,11,12,13,21])
 (.cond (.tmp 21) (.seq (.region [⟨(some 6),(.p (.mov (.val (.int .i64 (.ofNat 1))))),none⟩] [] [6])
 (.ret))
 (.skip)))
 (.seq (.region [⟨(some 22),(.p (.mov (.tmp 1))),none⟩,⟨(some 23),(.p (.mov (.tmp 7))),none⟩,⟨(some 24),(.p (.iaddr 4 (.tmp 22) (.tmp 23))),none⟩,⟨(some 25),(.loadn 4 (.tmp 24)),none⟩,⟨(some 9),(.a (.new [.bool false,.int .i64 (.ofNat 0),.int .i64 (.ofNat 0),.nilslice])),none⟩,⟨none,(.e (.store 4 (.tmp 9) (.tmp 25))),none⟩] [] [0,1,2,8,9,11,12,13])
 (.seq (.region [⟨(some 26),(.p (.mov (.tmp 2))),none⟩,⟨(some 27),(.loadn 4 (.tmp 8)),none⟩,⟨(some 28),(.loadn 4 (.tmp 9)),none⟩,⟨(some 29),(.e (.callv (.tmp 26) [(.tmp 27),(.tmp 28)])),none⟩,⟨(some 10),(.p (.mov (.tmp 29))),none⟩] [] [0,1,2,10,11,12,13])
 (.seq (.region [⟨(some 30),(.p (.mov (.tmp 10))),none⟩,⟨(some 31),(.p (.bin .neq (.tmp 30) (.val (.int .i64 (.ofNat 0))))),none⟩] [] [0,1,2,10,11,12,13,31])
 (.cond (.tmp 31) (.seq (.region [⟨(some 32),(.p (.mov (.tmp 10))),none⟩,⟨(some 6),(.p (.mov (.tmp 32))),none⟩] [] [6])
 (.ret))
 (.skip))))))))
 (.region [⟨(some 33),(.p (.bin .add (.tmp 13) (.val (.int .i64 (.ofNat 1))))),none⟩,⟨(some 13),(.p (.mov (.tmp 33))),none⟩] [] [0,1,2,11,12,13])))))))
 (.seq (.seq (.region [⟨(some 34),(.p (.mov (.tmp 0))),none⟩,⟨(some 35),(.p (.lenb (.tmp 34))),none⟩,⟨(some 36),(.p (.mov (.tmp 1))),none⟩,⟨(some 37),(.p (.lenb (.tmp 36))),none⟩,⟨(some 38),(.p (.bin .lss (.tmp 35) (.tmp 37))),none⟩] [] [38])
 (.cond (.tmp 38) (.seq (.region [⟨(some 6),(.p (.mov (.val (.int .i64 (.negSucc 0))))),none⟩] [] [6])
 (.ret))
 (.skip)))
 (.seq (.region [⟨(some 6),(.p (.mov (.val (.int .i64 (.ofNat 0))))),none⟩] [] [6])
 (.ret))))
def M12 (F : Nat → Nat) : Fun := ⟨39,3,(K12 F).erase,[.tmp 6]⟩
abbrev K13 (_F : Nat → Nat) : KC := .seq (.region [⟨(some 2),(.p (.mov (.val (.nilslice)))),none⟩] [] [0])
 (.seq (.region [⟨(some 3),(.p (.mov (.tmp 0))),none⟩,⟨(some 4),(.p (.mov (.tmp 0))),none⟩,⟨(some 5),(.p (.lenb (.tmp 4))),none⟩,⟨(some 6),(.p (.mov (.tmp 0))),none⟩,⟨(some 7),(.p (.lenb (.tmp 6))),none⟩,⟨(some 8),(.p (.slc 4 (.tmp 3) none (some (.tmp 5)) (some (.tmp 7)))),none⟩,⟨(some 2),(.p (.mov (.tmp 8))),none⟩] [] [2])
 (.ret))
def M13 (F : Nat → Nat) : Fun := ⟨9,1,(K13 F).erase,[.tmp 2]⟩
theorem ok13 {F : Nat → Nat} : (K13 F).ok = true := rfl
abbrev K14 (_F : Nat → Nat) : KC := .seq (.region [⟨(some 2),(.p (.mov (.val (.nilslice)))),none⟩] [] [0])
 (.seq (.seq (.region [⟨(some 3),(.p (.mov (.tmp 0))),none⟩,⟨(some 4),(.p (.eq .slice false (.tmp 3) (.val (.nilslice)))),none⟩] [] [0,4])
 (.cond (.tmp 4) (.seq (.region [⟨(some 2),(.p (.mov (.val (.nilslice)))),none⟩] [] [2])
 (.ret))
 (.skip)))
 (.seq (.region [⟨(some 5),(.a (.bslice [] 1 0 [])),none⟩,⟨(some 6),(.p (.mov (.tmp 0))),none⟩,⟨(some 7),(.e (.append 1 1 (.tmp 5) (.tmp 6))),none⟩,⟨(some 2),(.p (.mov (.tmp 7))),none⟩] [] [2])
 (.ret)))
def M14 (F : Nat → Nat) : Fun := ⟨8,1,(K14 F).erase,[.tmp 2]⟩
theorem ok14 {F : Nat → Nat} : (K14 F).ok = true := rfl
abbrev K15 (_F : Nat → Nat) : KC := .seq (.region [⟨(some 4),(.p (.mov (.val (.bool false)))),none⟩] [] [0,1])
 (.seq (.region [⟨(some 5),(.p (.mov (.tmp 0))),none⟩,⟨(some 6),(.e (.text (.tmp 5))),none⟩,⟨(some 7),(.p (.mov (.tmp 1))),none⟩,⟨(some 8),(.e (.text (.tmp 7))),none⟩,⟨(some 9),(.p (.bin .eql (.tmp 6) (.tmp 8))),none⟩,⟨(some 4),(.p (.mov (.tmp 9))),none⟩] [] [4])
 (.ret))
def M15 (F : Nat → Nat) : Fun := ⟨10,2,(K15 F).erase,[.tmp 4]⟩
abbrev K16 (_F : Nat → Nat) : KC := .seq (.region [⟨(some 6),(.p (.mov (.val (.bool false)))),none⟩] [] [0,1,2])
 (.seq (.seq (.region [⟨(some 10),(.p (.mov (.tmp 0))),none⟩,⟨(some 11),(.p (.lenb (.tmp 10))),none⟩,⟨(some 12),(.p (.mov (.tmp 1))),none⟩,⟨(some 13),(.p (.lenb (.tmp 12))),none⟩,⟨(some 14),(.p (.bin .neq (.tmp 11) (.tmp 13))),none⟩] [] [0,1,2,14])
 (.cond (.tmp 14) (.seq (.region [⟨(some 6),(.p (.mov (.val (.bool false)))),none⟩] [] [6])
 (.ret))
 (.skip)))
 (.seq (.seq (.region [⟨(some 15),(.p (.mov (.tmp 0))),none⟩,⟨(some 16),(.p (.lenb (.tmp 15))),none⟩,⟨(some 17),(.p (.mov (.val (.int .i64 (.ofNat 0))))),none⟩] [] [1,2,15,16,17])
 (.block 0 (.loop (.seq (.region [⟨(some 18),(.p (.bin .lss (.tmp 17) (.tmp 16))),none⟩] [] [1,2,15,16,17,18])
 (.seq (.cond (.tmp 18) (.skip)
 (.exit 0))
 (.seq (.block 1 (.seq (.region [⟨(some 19),(.p (.mov (.tmp 17))),none⟩,⟨(some 20),(.p (.iaddr 1 (.tmp 15) (.tmp 17))),none⟩,⟨(some 21),(.load1 (.tmp 20)),none⟩,⟨(some 7),(.p (.mov (.tmp 19))),none⟩,⟨(some 8),(.p (.mov (.tmp 21))),none⟩] [] [1,2,7,8,15,16,17])
 (.seq (.region [⟨(some 22),(.p (.mov (.tmp 1))),none⟩,⟨(some 23),(.p (.mov (.tmp 7))),none⟩,⟨(some 24),(.p (.iaddr 1 (.tmp 22) (.tmp 23))),none⟩,⟨(some 25),(.load1 (.tmp 24)),none⟩,⟨(some 9),(.p (.mov (.tmp 25))),none⟩] [] [1,2,8,9,15,16,17])
 (.seq (.region [⟨(some 26),(.p (.mov (.tmp 2))),none⟩,⟨(some 27),(.p (.mov (.tmp 8))),none⟩,⟨(some 28),(.p (.mov (.tmp 9))),none⟩,⟨(some 29),(.e (.callv (.tmp 26) [(.tmp 27),(.tmp 28)])),none⟩,⟨(some 30),(.p (.not (.tmp 29))),none⟩] [] [1,2,15,16,17,30])
 (.cond (.tmp 30) (.seq (.region [⟨(some 6),(.p (.mov (.val (.bool false)))),none⟩] [] [6])
 (.ret))
 (.skip))))))
 (.region [⟨(some 31),(.p (.bin .add (.tmp 17) (.val (.int .i64 (.ofNat 1))))),none⟩,⟨(some 17),(.p (.mov (.tmp 31))),none⟩] [] [1,2,15,16,17])))))))
 (.seq (.region [⟨(some 6),(.p (.mov (.val (.bool true)))),none⟩] [] [6])
 (.ret))))
def M16 (F : Nat → Nat) : Fun := ⟨32,3,(K16 F).erase,[.tmp 6]⟩
abbrev K17 (F : Nat → Nat) : KC := .seq (.region [⟨(some 4),(.p (.mov (.val (.bool false)))),none⟩] [] [0,1])
 (.seq (.region [⟨(some 5),(.p (.mov (.tmp 0))),none⟩,⟨(some 6),(.p (.mov (.tmp 1))),none⟩,⟨(some 7),(.e (.call (F 21) [(.tmp 5),(.tmp 6),(.val (.func (F 6) [] []))])),none⟩,⟨(some 4),(.p (.mov (.tmp 7))),none⟩] [] [4])
 (.ret))
def M17 (F : Nat → Nat) : Fun := ⟨8,2,(K17 F).erase,[.tmp 4]⟩
abbrev K18 (_F : Nat → Nat) : KC := .seq (.region [⟨(some 2),(.p (.mov (.val (.bool false)))),none⟩] [] [0])
 (.seq (.region [⟨(some 3),(.p (.mov (.tmp 0))),none⟩,⟨(some 4),(.p (.mov (.tmp 0))),none⟩,⟨(some 5),(.p (.bin .neq (.tmp 3) (.tmp 4))),none⟩,⟨(some 2),(.p (.mov (.tmp 5))),none⟩] [] [2])
 (.ret))
def M18 (F : Nat → Nat) : Fun := ⟨6,1,(K18 F).erase,[.tmp 2]⟩
theorem ok18 {F : Nat → Nat} : (K18 F).ok = true := rfl
abbrev K19 (_F : Nat → Nat) : KC := .seq (.region [⟨(some 2),(.p (.mov (.val (.bool false)))),none⟩] [] [0])
 (.seq (.region [⟨(some 3),(.p (.mov (.tmp 0))),none⟩,⟨(some 4),(.p (.mov (.tmp 0))),none⟩,⟨(some 5),(.p (.bin .neq (.tmp 3) (.tmp 4))),none⟩,⟨(some 2),(.p (.mov (.tmp 5))),none⟩] [] [2])
 (.ret))
def M19 (F : Nat → Nat) : Fun := ⟨6,1,(K19 F).erase,[.tmp 2]⟩
theorem ok19 {F : Nat → Nat} : (K19 F).ok = true := rfl
abbrev K21 (_F : Nat → Nat) : KC := .seq (.region [⟨(some 6),(.p (.mov (.val (.bool false)))),none⟩] [] [0,1,2])
 (.seq (.seq (.region [⟨(some 10),(.p (.mov (.tmp 0))),none⟩,⟨(some 11),(.p (.lenb (.tmp 10))),none⟩,⟨(some 12),(.p (.mov (.tmp 1))),none⟩,⟨(some 13),(.p (.lenb (.tmp 12))),none⟩,⟨(some 14),(.p (.bin .neq (.tmp 11) (.tmp 13))),none⟩] [] [0,1,2,14])
 (.cond (.tmp 14) (.seq (.region [⟨(some 6),(.p (.mov (.val (.bool false)))),none⟩] [] [6])
 (.ret))
 (.skip)))
 (.seq (.seq (.region [⟨(some 15),(.p (.mov (.tmp 0))),none⟩,⟨(some 16),(.p (.lenb (.tmp 15))),none⟩,⟨(some 17),(.p (.mov (.val (.int .i64 (.ofNat 0))))),none⟩] [] [1,2,15,16,17])
 (.block 0 (.loop (.seq (.region [⟨(some 18),(.p (.bin .lss (.tmp 17) (.tmp 16))),none⟩] [] [1,2,15,16,17,18])
 (.seq (.cond (.tmp 18) (.skip)
 (.exit 0))
 (.seq (.block 1 (.seq (.region [⟨(some 19),(.p (.mov (.tmp 17))),none⟩,⟨(some 20),(.p (.iaddr 4 (.tmp 15) (.tmp 17))),none⟩,⟨(some 21),(.loadn 4 (.tmp 20)),none⟩,⟨(some 8),(.a (.new [.bool false,.int .i64 (.ofNat 0),.int .i64 (.ofNat 0),.nilslice])),none⟩,⟨(some 7),(.p (.mov (.tmp 19))),none⟩,⟨none,(.e (.store 4 (.tmp 8) (.tmp 21))),none⟩] [] [1,2,7,8,15,16,17])
 (.seq (.region [⟨(some 22),(.p (.mov (.tmp 1))),none⟩,⟨(some 23),(.p (.mov (.tmp 7))),none⟩,⟨(some 24),(.p (.iaddr 4 (.tmp 22) (.tmp 23))),none⟩,⟨(some 25),(.loadn 4 (.tmp 24)),none⟩,⟨(some 9),(.a (.new [.bool false,.int .i64 (.ofNat 0),.int .i64 (.ofNat 0),.nilslice])),none⟩,⟨none,(.e (.store 4 (.tmp 9) (.tmp 25))),none⟩] [] [1,2,8,9,15,16,17])
 (.seq (.region [⟨(some 26),(.p (.mov (.tmp 2))),none⟩,⟨(some 27),(.loadn 4 (.tmp 8)),none⟩,⟨(some 28),(.loadn 4 (.tmp 9)),none⟩,⟨(some 29),(.e (.callv (.tmp 26) [(.tmp 27),(.tmp 28)])),none⟩,⟨(some 30),(.p (.not (.tmp 29))),none⟩] [] [1,2,15,16,17,30])
 (.cond (.tmp 30) (.seq (.region [⟨(some 6),(.p (.mov (.val (.bool false)))),none⟩] [] [6])
 (.ret))
 (.skip))))))
 (.region [⟨(some 31),(.p (.bin .add (.tmp 17) (.val (.int .i64 (.ofNat 1))))),none⟩,⟨(some 17),(.p (.mov (.tmp 31))),none⟩] [] [1,2,15,16,17])))))))
 (.seq (.region [⟨(some 6),(.p (.mov (.val (.bool true)))),none⟩] [] [6])
 (.ret))))
def M21 (F : Nat → Nat) : Fun := ⟨32,3,(K21 F).erase,[.tmp 6]⟩
end Go.Lib
end

section
namespace Go.Dv
open Go.Vm
variable {p : Prog} {ext : Ext} {F : Nat → Nat}
structure Has (p : Prog) (ext : Ext) (F : Nat → Nat) (i : Nat) (M : (Nat → Nat) → Fun) : Prop where
  get : p.funs.get (F i) = some (M F)
  ext : ∀ args h, ext (F i) args h = none
def Fin (H : HpD) (d : D) (d' : D) (H' : HpD) : Prop := ∃ H2, WeakV d' H' d H2 ∧ Sub H H2 ∧ d.under H.next
theorem Fin.same {H : HpD} {d : D} (hu : d.under H.next) : Fin H d d H := ⟨H, .refl, .refl, hu⟩
theorem Fin.le {H H' : HpD} {d d' : D} (hs : Sub H H') (hl : D.le d' d) (hu : d.under H.next) : Fin H d d' H' := ⟨H', .le hl, hs, hu⟩
theorem fn_of {i : Nat} {M : (Nat → Nat) → Fun} (hh : Has p ext F i M) {kc : KC} (hb : (M F).body = kc.erase) (hk : kc.ok = true) {args : List D} {d : D} (hn : args.length = (M F).nargs)
    (hs : ∀ H, Sem p ext (endD (M F).results (Fin H d)) (.code kc [] .mk (argsD 0 args) H)) : FnD p ext (F i) args d := by
  intro H
  refine WcD.drop (WcD.mono (enterD hh.ext hh.get hb hk hn (hs H)) ?_)
  rintro d' H' ⟨H2, w, s, u⟩
  exact ⟨d, H2, w, s, u, rfl, rfl⟩
theorem wc_of {i : Nat} {M : (Nat → Nat) → Fun} (hh : Has p ext F i M) {kc : KC} (hb : (M F).body = kc.erase) (hk : kc.ok = true) {args : List D} {H : HpD} {R : D → HpD → Prop} (hn : args.length = (M F).nargs)
    (hs : Sem p ext (endD (M F).results R) (.code kc [] .mk (argsD 0 args) H)) : WcD p ext (F i) args H R := enterD hh.ext hh.get hb hk hn hs
theorem underss_map {α : Type} {n : Nat} {f : α → List D} (h : ∀ x, D.unders n (f x)) : ∀ l : List α, D.underss n (l.map f)
  | [] => trivial
  | x :: l => ⟨h x, underss_map h l⟩
end Go.Dv
end
