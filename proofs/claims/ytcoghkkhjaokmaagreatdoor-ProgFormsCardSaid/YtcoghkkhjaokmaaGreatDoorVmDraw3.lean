/-
  Vm, part 25: a region whose order is open, in any order.
-/
import Derived.Test.YtcoghkkhjaokmaaGreatDoorVmDraw2
namespace Go.Vm

variable {P : Program}

def AtS (L : List (Nat × DO)) (h : Nat → Hp) (S : Nat → Prop) (c : Nat) (b : Nat) (x : Blk) : Prop :=
  (b < (h c).next ∧ (h c).blk b = x) ∨ ∃ (p : Nat) (y : Nat × DO), c ≤ p ∧ L[p]? = some y ∧ S y.1 ∧ b = (h p).next ∧ h (p + 1) = (h p).new x

/-- Where a run stands that has done those in S: up to c (behind the last that may write) all; beyond it some that write none. -/
structure Inv (L : List (Nat × DO)) (fr : Nat → Fr) (h : Nat → Hp) (v : Nat → V) (φ0 : Emb) (w0 : World) (a0 : Act) (S : Nat → Prop) (c : Nat) (φ : Emb) (f : Fr) (a : Act) (w : World) : Prop where
  cN : c ≤ L.length
  cut : c = 0 ∨ ∃ (p : Nat) (y : Nat × DO), c = p + 1 ∧ L[p]? = some y ∧ isE y.2.o.op = true
  low : ∀ (p : Nat) (x : Nat × DO), p < c → L[p]? = some x → S x.1
  high : ∀ (p : Nat) (x : Nat × DO), c ≤ p → L[p]? = some x → S x.1 → isE x.2.o.op = false
  put : ∀ (p : Nat) (x : Nat × DO) (t : Nat), L[p]? = some x → S x.1 → x.2.o.dst = some t → ev f (.tmp t) = v p
  un : ∀ t, (∀ (p : Nat) (x : Nat × DO), L[p]? = some x → S x.1 → x.2.o.dst ≠ some t) → ev f (.tmp t) = ev (fr 0) (.tmp t)
  fr : FR φ f a
  sx : Sx φ0 (h 0) w0 φ (AtS L h S c) w (h L.length).next
  fresh : ∀ b, (h c).next ≤ b → (h c).blk b = .gone
  free : ∀ b, (h c).next ≤ b → b < (h L.length).next → (∀ (p : Nat) (y : Nat × DO) (x : Blk), c ≤ p → L[p]? = some y → S y.1 → h (p + 1) = (h p).new x → b ≠ (h p).next) → φ.at_ b = none
  defs : a.defers = a0.defers
  size : a.tmps.size = a0.tmps.size

section
variable {env : Env} {call : Nat → List V → Hp → Option (V × Hp)} {nt : Nat} {ops : Array Oper} {L : List (Nat × DO)} {D : Nat → Nat → Prop} {fr : Nat → Fr} {h : Nat → Hp} {v : Nat → V} {yes : Nat → Bool}
  {φ0 φ : Emb} {w0 w : World} {a0 a : Act} {S S' : Nat → Prop} {c : Nat} {f : Fr} {q : Nat} {x : Nat × DO}

theorem Stat.inj (st : Stat P nt ops L D) {p q : Nat} {x y : Nat × DO} (hx : L[p]? = some x) (hy : L[q]? = some y) (e : x.1 = y.1) : p = q := by
  rcases Nat.lt_trichotomy p q with h | h | h
  · exact absurd e (st.neq p q x y h hx hy)
  · exact h
  · exact absurd e.symm (st.neq q p y x h hy hx)

theorem len_of {p : Nat} {x : Nat × DO} (hx : L[p]? = some x) : p < L.length := (List.getElem?_eq_some_iff.1 hx).1

theorem Inv.slots (st : Stat P nt ops L D) (I : Inv L fr h v φ0 w0 a0 S c φ f a w) (hx : L[q]? = some x) (hS' : ∀ i, S' i ↔ (S i ∨ i = x.1)) :
    (∀ (p : Nat) (y : Nat × DO) (t : Nat), L[p]? = some y → S' y.1 → y.2.o.dst = some t → ev (putO f x.2.o.dst (v q)) (.tmp t) = v p) ∧
    (∀ t, (∀ (p : Nat) (y : Nat × DO), L[p]? = some y → S' y.1 → y.2.o.dst ≠ some t) → ev (putO f x.2.o.dst (v q)) (.tmp t) = ev (fr 0) (.tmp t)) := by
  constructor
  · intro p y t hy hs hd
    rw [ev_putO]
    by_cases e : x.2.o.dst = some t
    · rw [if_pos e]
      have : p = q := by
        rcases Nat.lt_trichotomy p q with hh | hh | hh
        · exact absurd e (st.dsts p q y x hh hy hx t hd)
        · exact hh
        · exact absurd hd (st.dsts q p x y hh hx hy t e)
      rw [this]
    · rw [if_neg e]
      rcases (hS' y.1).1 hs with k | k
      · exact I.put p y t hy k hd
      · have := st.inj hy hx k
        subst this
        rw [hx] at hy; cases hy
        exact absurd hd e
  · intro t ht
    rw [ev_putO, if_neg (ht q x hx ((hS' x.1).2 (.inr rfl)))]
    exact I.un t fun p y hy hs => ht p y hy ((hS' y.1).2 (.inl hs))

theorem Inv.quietStep (st : Stat P nt ops L D) (I : Inv L fr h v φ0 w0 a0 S c φ f a w) (hx : L[q]? = some x) (hS' : ∀ i, S' i ↔ (S i ∨ i = x.1)) (hE : isE x.2.o.op = false)
    {φ' : Emb} {u : Value} {w' : World} (hle : φ.Le φ') (hu : VR φ' (v q) u) (hdst : ∀ d, x.2.o.dst = some d → d < a.tmps.size) (sx' : Sx φ0 (h 0) w0 φ' (AtS L h S' c) w' (h L.length).next)
    (free' : ∀ b, (h c).next ≤ b → b < (h L.length).next → (∀ (p : Nat) (y : Nat × DO) (x : Blk), c ≤ p → L[p]? = some y → S' y.1 → h (p + 1) = (h p).new x → b ≠ (h p).next) → φ'.at_ b = none) :
    Inv L fr h v φ0 w0 a0 S' c φ' (putO f x.2.o.dst (v q)) (a.put x.2.o.dst u) w' where
  cN := I.cN
  cut := I.cut
  low p y hp hy := (hS' y.1).2 (.inl (I.low p y hp hy))
  high p y hp hy hs := by
    rcases (hS' y.1).1 hs with k | k
    · exact I.high p y hp hy k
    · have := st.inj hy hx k
      subst this
      rw [hx] at hy; cases hy
      exact hE
  put := (I.slots st hx hS').1
  un := (I.slots st hx hS').2
  fr := I.fr.put hle hu hdst
  sx := sx'
  fresh := I.fresh
  free := free'
  defs := by rw [put_defers, I.defs]
  size := by rw [put_size, I.size]

/-- One that lays no block. -/
theorem Inv.still (st : Stat P nt ops L D) (I : Inv L fr h v φ0 w0 a0 S c φ f a w) (hx : L[q]? = some x) (hS' : ∀ i, S' i ↔ (S i ∨ i = x.1)) (hE : isE x.2.o.op = false) (hh : h (q + 1) = h q)
    {u : Value} (hu : VR φ (v q) u) (hdst : ∀ d, x.2.o.dst = some d → d < a.tmps.size) : Inv L fr h v φ0 w0 a0 S' c φ (putO f x.2.o.dst (v q)) (a.put x.2.o.dst u) w :=
  I.quietStep st hx hS' hE (.refl φ) hu hdst
    (I.sx.mono fun b z hz _ => by
      rcases hz with k | ⟨p, y, k1, k2, k3, k4, k5⟩
      · exact .inl k
      · rcases (hS' y.1).1 k3 with k | k
        · exact .inr ⟨p, y, k1, k2, k, k4, k5⟩
        · have := st.inj k2 hx k
          subst this
          rw [hh] at k5
          have := congrArg Hp.next k5
          have : (h p).next = (h p).next + 1 := this
          omega)
    (fun b h1 h2 h3 => I.free b h1 h2 fun p y z k1 k2 k3 k4 => h3 p y z k1 k2 ((hS' y.1).2 (.inl k3)) k4)

theorem Inv.hrAt (can : Can env call L fr h v yes) (I : Inv L fr h v φ0 w0 a0 S c φ f a w) (hcq : c ≤ q) (hq : q ≤ L.length) (hprev : ∀ (p : Nat) (y : Nat × DO), p < q → L[p]? = some y → S y.1) :
    (∀ b, (h q).next ≤ b → (h q).blk b = .gone) ∧ (∀ b, ((h q).blk b).live = true → AtS L h S c b ((h q).blk b)) := by
  obtain ⟨r1, r2⟩ := can.range I.fresh hcq hq fun p x a b hx => I.high p x a hx (hprev p x b hx)
  refine ⟨r1, fun b hb => ?_⟩
  have hlt : b < (h q).next := by
    rcases Nat.lt_or_ge b (h q).next with k | k
    · exact k
    · rw [r1 b k] at hb; cases hb
  rcases r2 b hlt with ⟨k1, k2⟩ | ⟨p, k1, k2, k3, k4⟩
  · exact .inl ⟨k1, k2.symm⟩
  · have hp : L[p]? = some L[p] := List.getElem?_eq_getElem (by omega)
    exact .inr ⟨p, _, k1, hp, hprev p _ k2 hp, k3, k4⟩

theorem Inv.effStep (st : Stat P nt ops L D) (can : Can env call L fr h v yes) (hrise : Rises call) (I : Inv L fr h v φ0 w0 a0 S c φ f a w) (hx : L[q]? = some x) (hS : ¬ S x.1) (hS' : ∀ i, S' i ↔ (S i ∨ i = x.1))
    (hcq : c ≤ q) (hE : isE x.2.o.op = true) (hprev : ∀ (p : Nat) (y : Nat × DO), p < q → L[p]? = some y → S y.1) {χ : Emb} {w' : World} {u : Value} (hr : HR φ (h q) w) (stp : St φ (h q) w χ (h (q + 1)) w')
    (hu : VR χ (v q) u) (hdst : ∀ d, x.2.o.dst = some d → d < a.tmps.size) : Inv L fr h v φ0 w0 a0 S' (q + 1) χ (putO f x.2.o.dst (v q)) (a.put x.2.o.dst u) w' := by
  have hqN := len_of hx
  have hne : ∀ (p : Nat) (y : Nat × DO), q + 1 ≤ p → L[p]? = some y → S' y.1 → S y.1 := fun p y hp hy hs => by
    rcases (hS' y.1).1 hs with k | k
    · exact k
    · have := st.inj hy hx k; omega
  have hm := fun {p q : Nat} (h1 : p ≤ q) (h2 : q ≤ L.length) => can.mono hrise h1 h2
  obtain ⟨g1, g2⟩ := I.hrAt can hcq (by omega) hprev
  refine ⟨by omega, .inr ⟨q, x, rfl, hx, hE⟩, fun p y hp hy => ?_, fun p y hp hy hs => I.high p y (by omega) hy (hne p y hp hy hs), (I.slots st hx hS').1, (I.slots st hx hS').2, I.fr.put stp.le hu hdst, ?_,
    stp.hr.fresh, fun b h1 h2 h3 => ?_, by rw [put_defers, I.defs], by rw [put_size, I.size]⟩
  · rcases Nat.lt_or_ge p q with k | k
    · exact (hS' y.1).2 (.inl (hprev p y k hy))
    · have : p = q := by omega
      subst this
      rw [hx] at hy; cases hy
      exact (hS' x.1).2 (.inr rfl)
  · refine I.sx.eff hr stp g2 (hm (Nat.zero_le _) (by omega)) (hm (by omega) (Nat.le_refl _)) fun b z hz _ => ?_
    rcases hz with ⟨_, k⟩ | ⟨p, y, k1, k2, k3, k4, k5⟩
    · exact .inl k
    · have := len_of k2
      refine .inr ⟨by rw [k4]; exact hm k1 (by omega), .inr ⟨p, y, by omega, k2, hne p y k1 k2 k3, k4, k5⟩⟩
  · rw [stp.new b (.inr h1)]
    refine I.free b (Nat.le_trans (hm (by omega) (by omega)) h1) h2 fun p y z k1 k2 k3 k4 => ?_
    rcases Nat.lt_trichotomy p q with k | k | k
    · intro e
      have e1 : (h (p + 1)).next = (h p).next + 1 := by rw [k4]; rfl
      have := hm (p := p + 1) (q := q + 1) (by omega) (by omega)
      omega
    · subst k
      rw [hx] at k2; cases k2
      exact absurd k3 hS
    · exact h3 p y z k k2 ((hS' y.1).2 (.inl k3)) k4

theorem Inv.agree (st : Stat P nt ops L D) (can : Can env call L fr h v yes) (I : Inv L fr h v φ0 w0 a0 S c φ f a w) (hx : L[q]? = some x) (hS : ¬ S x.1) (hD : ∀ i, D i x.1 → S i)
    (hU : ∀ (p : Nat) (y : Nat × DO), L[p]? = some y → S y.1 → ¬ D x.1 y.1) : Agree x.2.o.looks (fr q) f := by
  intro t ht
  rcases can.ev_at t (q := q) (by have := len_of hx; omega) with ⟨p, y, hp, hy, hd, he⟩ | ⟨hn, he⟩
  · rw [he]
    exact (I.put p y t hy (hD _ (st.wr p q y x hp hy hx t hd ht)) hd).symm
  · rw [he]
    refine (I.un t fun p y hy hs hd => ?_).symm
    rcases Nat.lt_trichotomy p q with k | k | k
    · exact hn p y k hy hd
    · subst k
      rw [hx] at hy; cases hy
      exact hS hs
    · exact hU p y hy hs (st.rw q p x y k hx hy t hd ht)

theorem Inv.step (st : Stat P nt ops L D) (can : Can env call L fr h v yes) (hrise : Rises call) (hcall : CallOk P env call) (ok0 : EnvOk P φ0 env) (hnt : nt ≤ a0.tmps.size) (I : Inv L fr h v φ0 w0 a0 S c φ f a w)
    (hx : L[q]? = some x) (hS : ¬ S x.1) (hS' : ∀ i, S' i ↔ (S i ∨ i = x.1)) (hD : ∀ i, D i x.1 → S i) (hU : ∀ (p : Nat) (y : Nat × DO), L[p]? = some y → S y.1 → ¬ D x.1 y.1) {K : Act → World → Prop} {Q : Exit → Act → World → Prop}
    (hk : ∀ c' φ' f' a' w', Inv L fr h v φ0 w0 a0 S' c' φ' f' a' w' → K a' w') : wpOp P ops Q x.1 K a w := by
  obtain ⟨o, ho, hc⟩ := st.comp q x hx
  obtain ⟨c1, c2, c3, c4⟩ := cOper_some hc
  have hqN := len_of hx
  have ok : EnvOk P φ env := ok0.mono I.sx.le
  have hcq : c ≤ q := by
    rcases Nat.lt_or_ge q c with k | k
    · exact absurd (I.low q x k hx) hS
    · exact k
  have hag := I.agree st can hx hS hD hU
  have hag1 : Agree (gtmps x.2.o.guard) (fr q) f := hag.left
  have hag2 : Agree x.2.o.op.tmps (fr q) f := hag.right
  have hgate := gate_agree hag1
  obtain ⟨g1, g2⟩ := gate_ok c2 I.fr
  have hdst : ∀ d, x.2.o.dst = some d → d < a.tmps.size := fun d e => by
    rw [I.size]
    exact Nat.lt_of_lt_of_le (c4 d (c3 ▸ e)) hnt
  have hprev : isE x.2.o.op = true → ∀ (p : Nat) (y : Nat × DO), p < q → L[p]? = some y → S y.1 := fun he p y hp hy => hD _ (st.eff p q y x hp hy hx he)
  have hmono := fun {p q : Nat} (h1 : p ≤ q) (h2 : q ≤ L.length) => can.mono hrise h1 h2
  unfold wpOp
  rw [ho]
  simp only
  have hput : ∀ u, a.put o.dst u = a.put x.2.o.dst u := fun u => by rw [c3]
  rcases can.step q x hx with ⟨hy, hg, hv⟩ | ⟨hy, hg, hv, hh⟩
  case inr =>
    rw [hgate] at hg
    rw [if_neg (by rw [g2 hg]; simp)]
    cases hE : isE x.2.o.op with
    | false => rw [hput]; exact hk _ _ _ _ _ (I.still st hx hS' hE hh (by rw [hv]; exact undef_rel) hdst)
    | true =>
      obtain ⟨r1, r2⟩ := I.hrAt can hcq (by omega) (hprev hE)
      have hr := I.sx.hr r2 r1
      rw [hput]
      exact hk _ _ _ _ _ (I.effStep st can hrise hx hS hS' hcq hE (hprev hE) hr (by rw [hh]; exact .refl hr) (by rw [hv]; exact undef_rel) hdst)
  rw [hgate] at hg
  rw [if_pos (g1 hg)]
  left
  have hcl : isL x.2.o.op = true → opV env call f (h c) x.2.o.op = some (v q, h c) := by
    intro hl
    rw [← opV_agree hag2]
    refine can.still q x hx hy hl c I.cut ?_ ?_
    · cases hlo : x.2.lo with
      | zero => exact Nat.zero_le _
      | succ k =>
        obtain ⟨y, k1, k2, k3⟩ := st.lo q x hx hl k hlo
        rcases Nat.lt_or_ge k c with kk | kk
        · exact kk
        · have := I.high k y kk k1 (hD _ k3)
          rw [k2] at this; cases this
    · rcases Nat.lt_or_ge x.2.hi c with kk | kk
      · have hlt : x.2.hi < L.length := Nat.lt_of_lt_of_le kk I.cN
        have hy' : L[x.2.hi]? = some L[x.2.hi] := List.getElem?_eq_getElem hlt
        exact absurd (st.hi q x hx hl _ hy') (hU _ _ hy' (I.low _ _ kk hy'))
      · exact kk
  have hltc : ∀ b, ((h c).blk b).live = true → b < (h c).next := fun b hb => by
    rcases Nat.lt_or_ge b (h c).next with k | k
    · exact k
    · rw [I.fresh b k] at hb; cases hb
  have hrc : HR φ (h c) w := I.sx.hr (fun b hb => .inl ⟨hltc b hb, rfl⟩) I.fresh
  rw [opV_agree hag2] at hv
  generalize hop : x.2.o.op = m at *
  cases m with
  | p p =>
    simp only [opV] at hv
    split at hv
    case h_2 => cases hv
    rename_i v' hv'
    simp only [Option.some.injEq, Prod.mk.injEq] at hv
    obtain ⟨u, h1, h2⟩ := p_sim ok I.fr c1 hv'
    rw [hv.1] at h1
    exact run_value (h2 w) (by rw [hput]; exact hk _ _ _ _ _ (I.still st hx hS' (by rw [hop]; rfl) hv.2.symm h1 hdst))
  | load1 y =>
    have hcl := hcl rfl
    have hqq : h (q + 1) = h q := by
      simp only [opV] at hv
      repeat' (first | (cases hv; done) | split at hv)
      simp only [Option.some.injEq, Prod.mk.injEq] at hv
      exact hv.2.symm
    simp only [opV] at hcl
    split at hcl
    case h_2 => cases hcl
    rename_i b k ha
    split at hcl
    case h_2 => cases hcl
    rename_i z l hl
    simp only [Option.some.injEq, Prod.mk.injEq] at hcl
    obtain ⟨pl, us, r1, r2, r3, r4⟩ := hrc.read hl
    cases r3 with | cons _ u _ us' k1 k2 =>
    rw [hcl.1] at k1
    exact run_value (load1_sim ok I.fr c1 ha r1 r4 rfl) (by rw [hput]; exact hk _ _ _ _ _ (I.still st hx hS' (by rw [hop]; rfl) hqq k1 hdst))
  | loadn n y =>
    have hcl := hcl rfl
    have hqq : h (q + 1) = h q := by
      simp only [opV] at hv
      repeat' (first | (cases hv; done) | split at hv)
      simp only [Option.some.injEq, Prod.mk.injEq] at hv
      exact hv.2.symm
    simp only [opV] at hcl
    split at hcl
    case h_2 => cases hcl
    rename_i b k ha
    split at hcl
    case h_2 => cases hcl
    rename_i l hl
    simp only [Option.some.injEq, Prod.mk.injEq] at hcl
    obtain ⟨pl, us, r1, r2, r3, r4⟩ := hrc.read hl
    have hu : VR φ (v q) (.agg us.toArray) := by rw [← hcl.1]; exact .agg _ _ (by simpa using r3)
    exact run_value (loadn_sim ok I.fr c1 ha r1 r4 (by rw [← r3.length, r2])) (by rw [hput]; exact hk _ _ _ _ _ (I.still st hx hS' (by rw [hop]; rfl) hqq hu hdst))
  | a p =>
    simp only [opV] at hv
    split at hv
    case h_2 => cases hv
    rename_i blk mk hv'
    simp only [Option.some.injEq, Prod.mk.injEq] at hv
    obtain ⟨hv1, hv2⟩ := hv
    obtain ⟨u, obj, pl, w1, h1, h2, h3, h4, h5⟩ := a_sim ok I.fr c1 hv' w
    have hnq : (h (q + 1)).next = (h q).next + 1 := by rw [← hv2]; rfl
    have hb1 : (h c).next ≤ (h q).next := hmono hcq (by omega)
    have hb2 : (h q).next < (h L.length).next := by have := hmono (p := q + 1) (q := L.length) (by omega) (Nat.le_refl _); omega
    have hfree : φ.at_ (h q).next = none := I.free _ hb1 hb2 fun p y z k1 k2 k3 k4 e => by
      have e1 : (h (p + 1)).next = (h p).next + 1 := by rw [k4]; rfl
      have := len_of k2
      rcases Nat.lt_trichotomy p q with k | k | k
      · have := hmono (p := p + 1) (q := q) (by omega) (by omega); omega
      · subst k
        rw [hx] at k2; cases k2
        exact hS k3
      · have := hmono (p := q + 1) (q := p) (by omega) (by omega); omega
    have hsx1 : Sx φ0 (h 0) w0 φ (AtS L h S c) w1 (h L.length).next := by
      rcases h1 with rfl | rfl
      · exact I.sx
      · exact I.sx.drew
    have hsz : w1.heap.size = w.heap.size := by rcases h1 with rfl | rfl <;> rfl
    have hat : ∀ b' x', AtS L h S' c b' x' → x'.live = true → (b' = (h q).next ∧ x' = blk) ∨ (b' ≠ (h q).next ∧ AtS L h S c b' x') := by
      intro b' x' hz hl
      rcases hz with ⟨k1, k2⟩ | ⟨p, y, k1, k2, k3, k4, k5⟩
      · exact .inr ⟨by omega, .inl ⟨k1, k2⟩⟩
      · have := len_of k2
        have e1 : (h (p + 1)).next = (h p).next + 1 := by rw [k5]; rfl
        rcases Nat.lt_trichotomy p q with k | k | k
        · refine .inr ⟨by have := hmono (p := p + 1) (q := q) (by omega) (by omega); omega, .inr ⟨p, y, k1, k2, ?_, k4, k5⟩⟩
          rcases (hS' y.1).1 k3 with s | s
          · exact s
          · have := st.inj k2 hx s; omega
        · subst k
          refine .inl ⟨k4, ?_⟩
          rw [← hv2] at k5
          have := congrArg (fun g => g.blk (h p).next) k5
          simp only [blk_new, if_true] at this
          exact this.symm
        · refine .inr ⟨by have := hmono (p := q + 1) (q := p) (by omega) (by omega); omega, .inr ⟨p, y, k1, k2, ?_, k4, k5⟩⟩
          rcases (hS' y.1).1 k3 with s | s
          · exact s
          · have := st.inj k2 hx s; omega
    have hsx2 := hsx1.alloc (b := (h q).next) (x := blk) (o := obj) (pl := pl) (hmono (Nat.zero_le _) (by omega)) hb2 hfree (by rw [hsz]; exact h3) (fun χ w' hle hh => h5 χ w' hle (by rw [← hsz]; exact hh)) hat
    have hle : φ.Le ⟨fun y => if y = (h q).next then some pl else φ.at_ y, φ.sym⟩ := ⟨fun y z e => by
      show (if y = (h q).next then some pl else φ.at_ y) = some z
      split
      · rename_i e'; rw [e', hfree] at e; cases e
      · exact e, rfl⟩
    have hu := h4 ⟨fun y => if y = (h q).next then some pl else φ.at_ y, φ.sym⟩ (h q).next hle (by show (if (h q).next = (h q).next then some pl else _) = _; rw [if_pos rfl])
    rw [hv1] at hu
    refine run_value h2 ?_
    rw [hput]
    refine hk _ _ _ _ _ (I.quietStep st hx hS' (by rw [hop]; rfl) hle hu hdst hsx2 fun b k1 k2 k3 => ?_)
    show (if b = (h q).next then some pl else φ.at_ b) = none
    rw [if_neg (k3 q x blk hcq hx ((hS' x.1).2 (.inr rfl)) hv2.symm)]
    exact I.free b k1 k2 fun p y z m1 m2 m3 m4 => k3 p y z m1 m2 ((hS' y.1).2 (.inl m3)) m4
  | e p =>
    obtain ⟨r1, r2⟩ := I.hrAt can hcq (by omega) (hprev rfl)
    have hr := I.sx.hr r2 r1
    have hfr : Fresh φ (h q).next (h (q + 1)).next := fun b k1 k2 => I.free b (Nat.le_trans (hmono hcq (by omega)) k1) (Nat.lt_of_lt_of_le k2 (hmono (by omega) (Nat.le_refl _))) fun p y z m1 m2 m3 m4 e => by
      have e1 : (h (p + 1)).next = (h p).next + 1 := by rw [m4]; rfl
      have := len_of m2
      rcases Nat.lt_trichotomy p q with k | k | k
      · have := hmono (p := p + 1) (q := q) (by omega) (by omega); omega
      · subst k
        rw [hx] at m2; cases m2
        exact hS m3
      · have := hmono (p := q + 1) (q := p) (by omega) (by omega); omega
    exact op_sim ok hcall I.fr c1 hr hfr hv fun u ψ w' k1 k2 => by rw [hput]; exact hk _ _ _ _ _ (I.effStep st can hrise hx hS hS' hcq (by rw [hop]; rfl) (hprev rfl) hr k2 k1 hdst)

end
end Go.Vm
