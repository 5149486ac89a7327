/-
  Vm, part 26: a region whose order is open: every order that may be drawn.
-/
import Derived.Test.YtcoghkkhjaokmaaGreatDoorVmDraw3
namespace Go.Vm

variable {P : Program}

section
variable {env : Env} {call : Nat → List V → Hp → Option (V × Hp)} {nt : Nat} {ops : Array Oper} {L : List (Nat × DO)} {D : Nat → Nat → Prop} {fr : Nat → Fr} {h : Nat → Hp} {v : Nat → V} {yes : Nat → Bool}
  {φ0 φ : Emb} {w0 w : World} {a0 a : Act} {c : Nat} {f : Fr}

def Lst (listed : Array Bool) (i : Nat) : Prop := listed.getD i true = true

theorem Lst.of_false {listed : Array Bool} {i : Nat} (h : listed.getD i false = true) : Lst listed i := by
  unfold Lst
  rcases Nat.lt_or_ge i listed.size with k | k
  · simp [k] at h ⊢; exact h
  · simp [Array.getElem?_eq_none k] at h

theorem Lst.to_false {listed : Array Bool} {i : Nat} (h : Lst listed i) (hi : i < listed.size) : listed.getD i false = true := by
  unfold Lst at h
  simp [hi] at h ⊢
  exact h

theorem lst_set {listed : Array Bool} {j : Nat} (hj : j < listed.size) (i : Nat) : Lst (listed.setIfInBounds j true) i ↔ (Lst listed i ∨ i = j) := by
  unfold Lst
  by_cases e : j = i
  · subst e; simp [hj]
  · rw [getD_set_ne true e]
    constructor
    · exact .inl
    · rintro (k | k)
      · exact k
      · exact absurd k.symm e

/-- Who waits for nothing. -/
theorem Stat.ready (st : Stat P nt ops L D) {listed : Array Bool} (hs : listed.size = ops.size) {p : Nat} {x : Nat × DO} (hx : L[p]? = some x) (hn : ¬ Lst listed x.1) (hprev : ∀ (q : Nat) (y : Nat × DO), q < p → L[q]? = some y → Lst listed y.1) :
    x.1 ∈ Region.ready .any ops listed := by
  obtain ⟨o, ho, _⟩ := st.comp p x hx
  have hxn := (Array.getElem?_eq_some_iff.1 ho).1
  refine mem_ready.2 ⟨by simpa [Lst] using hn, o, ho, fun e he hb => ?_⟩
  obtain ⟨d1, d2⟩ := st.dep x.1 o e ho he hb
  obtain ⟨q, y, hy, ey⟩ := st.cover e.on d2
  rw [← ey] at d1 d2 ⊢
  refine Lst.to_false (hprev q y ?_ hy) (by omega)
  rcases Nat.lt_trichotomy q p with k | k | k
  · exact k
  · subst k
    rw [hx] at hy; cases hy
    exact absurd d1 (st.irr _ hxn)
  · exact absurd d1 (st.topo p q x y k hx hy)

theorem Stat.all_of (st : Stat P nt ops L D) {listed : Array Bool} (hs : listed.size = ops.size) (hr : Region.ready .any ops listed = []) : ∀ (p : Nat) (x : Nat × DO), L[p]? = some x → Lst listed x.1 := by
  intro p
  induction p using Nat.strongRecOn with
  | _ p ih =>
    intro x hx
    by_cases hn : Lst listed x.1
    · exact hn
    · have := st.ready hs hx hn fun q y hq hy => ih q hq y hy
      rw [hr] at this
      cases this

theorem Inv.done (can : Can env call L fr h v yes) (hrise : Rises call) {S : Nat → Prop} (I : Inv L fr h v φ0 w0 a0 S c φ f a w) (hall : ∀ (p : Nat) (x : Nat × DO), L[p]? = some x → S x.1) :
    FR φ (fr L.length) a ∧ St φ0 (h 0) w0 φ (h L.length) w := by
  constructor
  · intro t
    have ht := I.fr t
    have : ev f (.tmp t) = ev (fr L.length) (.tmp t) := by
      rcases can.ev_at t (q := L.length) (Nat.le_refl _) with ⟨p, y, hp, hy, hd, he⟩ | ⟨hn, he⟩
      · rw [he]; exact I.put p y t hy (hall p y hy) hd
      · rw [he]; exact I.un t fun p y hy _ hd => hn p y (len_of hy) hy hd
    rw [← this]; exact ht
  · obtain ⟨r1, r2⟩ := I.hrAt can I.cN (Nat.le_refl _) fun p y _ hy => hall p y hy
    exact I.sx.done r2 r1 (can.mono hrise (Nat.zero_le _) (Nat.le_refl _))

theorem any_order (st : Stat P nt ops L D) (can : Can env call L fr h v yes) (hrise : Rises call) (hcall : CallOk P env call) (ok0 : EnvOk P φ0 env) (hnt : nt ≤ a0.tmps.size) {Q : Exit → Act → World → Prop}
    (hk : ∀ ψ a' w', FR ψ (fr L.length) a' → St φ0 (h 0) w0 ψ (h L.length) w' → a'.defers = a0.defers → a'.tmps.size = a0.tmps.size → Q .normal a' w') :
    ∀ (fuel : Nat) (U : List Nat) (listed : Array Bool) (c : Nat) (φ : Emb) (f : Fr) (a : Act) (w : World), U.length ≤ fuel → (∀ i, i < ops.size → ¬ Lst listed i → i ∈ U) → listed.size = ops.size →
      (∀ j, j < ops.size → Lst listed j → ∀ i, D i j → Lst listed i) → Inv L fr h v φ0 w0 a0 (Lst listed) c φ f a w → wpAny P .any ops Q fuel listed a w := by
  intro fuel
  have fin : ∀ (listed : Array Bool) (c : Nat) (φ : Emb) (f : Fr) (a : Act) (w : World), listed.size = ops.size → Inv L fr h v φ0 w0 a0 (Lst listed) c φ f a w → Region.ready .any ops listed = [] → Q .normal a w := by
    intro listed c φ f a w hs I hr
    obtain ⟨k1, k2⟩ := I.done can hrise (st.all_of hs hr)
    exact hk φ a w k1 k2 I.defs I.size
  induction fuel with
  | zero =>
    intro U listed c φ f a w hU hin hs hdown I
    have hr : Region.ready .any ops listed = [] := by
      rw [List.eq_nil_iff_forall_not_mem]
      intro j hj
      obtain ⟨h1, o, ho, _⟩ := mem_ready.1 hj
      have := hin j (Array.getElem?_eq_some_iff.1 ho).1 (by unfold Lst; rw [h1]; simp)
      have hU0 : U = [] := List.length_eq_zero_iff.1 (by omega)
      rw [hU0] at this
      cases this
    exact ⟨hr, fin listed c φ f a w hs I hr⟩
  | succ fuel ih =>
    intro U listed c φ f a w hU hin hs hdown I
    refine ⟨fin listed c φ f a w hs I, fun j hj => ?_⟩
    obtain ⟨h1, o, ho, hdep⟩ := mem_ready.1 hj
    have hjn := (Array.getElem?_eq_some_iff.1 ho).1
    have hnl : ¬ Lst listed j := by unfold Lst; rw [h1]; simp
    obtain ⟨q, x, hx, ex⟩ := st.cover j hjn
    subst ex
    have hD : ∀ i, D i x.1 → Lst listed i := by
      intro i hi
      obtain ⟨e, he, hb, hor⟩ := st.step x.1 o i ho hi
      have hl := Lst.of_false (hdep e he hb)
      rcases hor with rfl | hd
      · exact hl
      · exact hdown e.on (st.dep x.1 o e ho he hb).2 hl i hd
    refine I.step st can hrise hcall ok0 hnt hx hnl (lst_set (by omega)) hD (fun p y hy hs' hd => ?_) fun c' φ' f' a' w' I' => ?_
    · obtain ⟨o', ho', _⟩ := st.comp p y hy
      exact hnl (hdown y.1 (Array.getElem?_eq_some_iff.1 ho').1 hs' x.1 hd)
    · refine ih (U.erase x.1) (listed.setIfInBounds x.1 true) c' φ' f' a' w' ?_ ?_ (by simpa using hs) ?_ I'
      · have := List.length_erase_of_mem (hin x.1 hjn hnl)
        omega
      · intro i hi hni
        have h2 : ¬ Lst listed i := fun hl => hni ((lst_set (by omega) i).2 (.inl hl))
        have h3 : i ≠ x.1 := fun e => hni ((lst_set (by omega) i).2 (.inr e))
        exact (List.mem_erase_of_ne h3).2 (hin i hi h2)
      · intro j' hj' hl i hi
        rcases (lst_set (by omega) j').1 hl with k | k
        · exact (lst_set (by omega) i).2 (.inl (hdown j' hj' k i hi))
        · subst k; exact (lst_set (by omega) i).2 (.inl (hD i hi))

end

theorem dregion_wp (hm : P.follows .mixedOrders = true) {env : Env} {call : Nat → List V → Hp → Option (V × Hp)} (hrise : Rises call) (hcall : CallOk P env call) {nt : Nat} {ops : Array Oper} {l : List DO} (hc : cDraw P nt ops = some l)
    {fr0 fr' : Fr} {h0 h' : Hp} (hv : runD env call l 0 fr0 h0 [(0, h0)] [] = some (fr', h')) {φ : Emb} {a : Act} {w : World} (ok : EnvOk P φ env) (hf : FR φ fr0 a) (hr : HR φ h0 w) (hfr : Fresh φ h0.next h'.next) (hn : nt ≤ a.tmps.size)
    {id : Nat} {Q : Exit → Act → World → Prop} (hk : ∀ ψ a' w', FR ψ fr' a' → St φ h0 w ψ h' w' → a'.defers = a.defers → a'.tmps.size = a.tmps.size → Q .normal a' w') : (Code.region id ops true).wp P Q a w := by
  obtain ⟨L, D, st, rfl⟩ := stat_of hc
  obtain ⟨fr, h, v, yes, can, rfl, rfl, rfl, rfl⟩ := can_of hv
  refine wp_region_any hm ?_
  have hlst : ∀ i, i < ops.size → ¬ Lst (Array.replicate ops.size false) i := fun i hi hl => by
    unfold Lst at hl
    simp [hi] at hl
  have hno : ∀ (p : Nat) (y : Nat × DO), L[p]? = some y → ¬ Lst (Array.replicate ops.size false) y.1 := fun p y hy => by
    obtain ⟨o, ho, _⟩ := st.comp p y hy
    exact hlst _ (Array.getElem?_eq_some_iff.1 ho).1
  refine any_order st can hrise hcall ok hn (w0 := w.drew) (fun ψ a' w' k1 k2 k3 k4 => hk ψ a' w' k1 ((St.drew hr).trans k2) k3 k4) ops.size (List.range ops.size) _ 0 φ (fr 0) a w.drew (by simp) (fun i hi _ => List.mem_range.2 hi) (by simp)
    (fun j hj hl => absurd hl (hlst j hj)) ⟨Nat.zero_le _, .inl rfl, fun p x hp => absurd hp (Nat.not_lt_zero _), fun p x _ hx hs => absurd hs (hno p x hx), fun p x t hx hs => absurd hs (hno p x hx), fun _ _ => rfl, hf, ?_, hr.fresh, ?_, rfl, rfl⟩
  · refine (Sx.start hr.drew).mono fun b x hz _ => ?_
    rcases hz with ⟨_, k⟩ | ⟨p, y, _, k2, k3, _⟩
    · exact k
    · exact absurd k3 (hno p y k2)
  · intro b k1 k2 _
    exact hfr b k1 k2

end Go.Vm
