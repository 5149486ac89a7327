/-
  Vm, part 23: regions whose order is open: what the checks say, and the one order that is run.
-/
import Derived.Test.YtcoghkkhjaokmaaGreatDoorVmRun2
import Derived.Orders
namespace Go.Vm

variable {P : Program}

theorem allR_all {α : Type} {r : α → Bool} : ∀ {l : List α}, allR r l = true → ∀ x, x ∈ l → r x = true
  | [], _, x, hx => by cases hx
  | y :: l, h, x, hx => by
    simp only [allR] at h
    rw [cond_eq_ite] at h; split at h
    · rename_i hy
      rcases List.mem_cons.1 hx with rfl | hx
      · exact hy
      · exact allR_all h x hx
    · cases h

theorem allPairs_get {α : Type} {r : α → α → Bool} : ∀ {l : List α}, allPairs r l = true → ∀ {p q : Nat} {x y : α}, p < q → l[p]? = some x → l[q]? = some y → r x y = true
  | [], _, p, q, x, y, _, h1, _ => by simp at h1
  | z :: l, h, p, q, x, y, hpq, h1, h2 => by
    simp only [allPairs] at h
    rw [cond_eq_ite] at h; split at h
    case isFalse => cases h
    rename_i hz
    cases q with
    | zero => omega
    | succ q =>
      simp only [List.getElem?_cons_succ] at h2
      cases p with
      | zero =>
        simp at h1
        subst h1
        exact allR_all hz y (List.mem_of_getElem? h2)
      | succ p =>
        simp only [List.getElem?_cons_succ] at h1
        exact allPairs_get h (by omega) h1 h2

theorem memN_mem {n : Nat} : ∀ {l : List Nat}, memN n l = true → n ∈ l
  | [], h => by cases h
  | x :: l, h => by
    simp only [memN] at h
    rw [cond_eq_ite] at h; split at h
    · rename_i e; rw [nbeq] at e; exact List.mem_cons.2 (.inl e.symm)
    · exact List.mem_cons.2 (.inr (memN_mem h))

theorem mem_memN {n : Nat} : ∀ {l : List Nat}, n ∈ l → memN n l = true
  | [], h => by cases h
  | x :: l, h => by
    simp only [memN]
    rw [cond_eq_ite]; split
    · rfl
    · rename_i e
      rcases List.mem_cons.1 h with h | h
      · exact absurd (nbeq.2 h.symm) e
      · exact mem_memN h

theorem ancL_spec {anc : Nat → Nat} {i : Nat} : ∀ {l : List Edge}, Nat.testBit (ancL anc l) i = true → ∃ e, e ∈ l ∧ Region.binds .any e = true ∧ (e.on = i ∨ Nat.testBit (anc e.on) i = true)
  | [], h => by simp [ancL] at h
  | e :: l, h => by
    simp only [ancL] at h
    rw [cond_eq_ite] at h; split at h
    · rename_i hb
      have h' : Nat.testBit ((2 ^ e.on ||| anc e.on) ||| ancL anc l) i = true := h
      rw [Nat.testBit_or, Nat.testBit_or, Bool.or_eq_true, Bool.or_eq_true] at h'
      rcases h' with (h' | h') | h'
      · rw [Nat.testBit_two_pow] at h'
        exact ⟨e, List.mem_cons_self, hb, .inl (by simpa using h')⟩
      · exact ⟨e, List.mem_cons_self, hb, .inr h'⟩
      · obtain ⟨e', h1, h2⟩ := ancL_spec h'
        exact ⟨e', List.mem_cons_of_mem _ h1, h2⟩
    · obtain ⟨e', h1, h2⟩ := ancL_spec h
      exact ⟨e', List.mem_cons_of_mem _ h1, h2⟩

theorem ancL_has {anc : Nat → Nat} : ∀ {l : List Edge} {e : Edge}, e ∈ l → Region.binds .any e = true → Nat.testBit (ancL anc l) e.on = true
  | [], e, h, _ => by cases h
  | x :: l, e, h, hb => by
    simp only [ancL]
    rw [cond_eq_ite]
    split
    · show Nat.testBit ((2 ^ x.on ||| anc x.on) ||| ancL anc l) e.on = true
      rw [Nat.testBit_or, Nat.testBit_or, Bool.or_eq_true, Bool.or_eq_true]
      rcases List.mem_cons.1 h with h | h
      · subst h; exact .inl (.inl (by rw [Nat.testBit_two_pow]; simp))
      · exact .inr (ancL_has h hb)
    · rename_i hx
      rcases List.mem_cons.1 h with h | h
      · subst h; exact absurd hb hx
      · exact ancL_has h hb

/-- What the checks say. D i j: number i comes before number j, whatever the order. -/
structure Stat (P : Program) (nt : Nat) (ops : Array Oper) (L : List (Nat × DO)) (D : Nat → Nat → Prop) : Prop where
  comp : ∀ (p : Nat) (x : Nat × DO), L[p]? = some x → ∃ o, ops[x.1]? = some o ∧ cOper P nt ops o = some x.2.o
  cover : ∀ i, i < ops.size → ∃ (p : Nat) (x : Nat × DO), L[p]? = some x ∧ x.1 = i
  step : ∀ (j : Nat) (o : Oper) (i : Nat), ops[j]? = some o → D i j → ∃ e, e ∈ o.after ∧ Region.binds .any e = true ∧ (e.on = i ∨ D i e.on)
  irr : ∀ j, j < ops.size → ¬ D j j
  dep : ∀ (j : Nat) (o : Oper) (e : Edge), ops[j]? = some o → e ∈ o.after → Region.binds .any e = true → D e.on j ∧ e.on < ops.size
  neq : ∀ (p q : Nat) (x y : Nat × DO), p < q → L[p]? = some x → L[q]? = some y → x.1 ≠ y.1
  topo : ∀ (p q : Nat) (x y : Nat × DO), p < q → L[p]? = some x → L[q]? = some y → ¬ D y.1 x.1
  dsts : ∀ (p q : Nat) (x y : Nat × DO), p < q → L[p]? = some x → L[q]? = some y → ∀ t, x.2.o.dst = some t → y.2.o.dst ≠ some t
  eff : ∀ (p q : Nat) (x y : Nat × DO), p < q → L[p]? = some x → L[q]? = some y → isE y.2.o.op = true → D x.1 y.1
  wr : ∀ (p q : Nat) (x y : Nat × DO), p < q → L[p]? = some x → L[q]? = some y → ∀ t, x.2.o.dst = some t → t ∈ y.2.o.looks → D x.1 y.1
  rw : ∀ (p q : Nat) (x y : Nat × DO), p < q → L[p]? = some x → L[q]? = some y → ∀ t, y.2.o.dst = some t → t ∈ x.2.o.looks → D x.1 y.1
  lo : ∀ (q : Nat) (x : Nat × DO), L[q]? = some x → isL x.2.o.op = true → ∀ c, x.2.lo = c + 1 → ∃ y : Nat × DO, L[c]? = some y ∧ isE y.2.o.op = true ∧ D y.1 x.1
  hi : ∀ (q : Nat) (x : Nat × DO), L[q]? = some x → isL x.2.o.op = true → ∀ y : Nat × DO, L[x.2.hi]? = some y → D x.1 y.1

theorem mapO_get {α β : Type} {f : α → Option β} : ∀ {l : List α} {r : List β}, mapO f l = some r → ∀ {p : Nat} {y : β}, r[p]? = some y → ∃ x, l[p]? = some x ∧ f x = some y
  | [], r, h, p, y, hy => by simp [mapO] at h; subst h; simp at hy
  | x :: l, r, h, p, y, hy => by
    obtain ⟨z, q, h1, h2, rfl⟩ := mapO_cons h
    cases p with
    | zero => simp at hy; subst hy; exact ⟨x, rfl, h1⟩
    | succ p => simp only [List.getElem?_cons_succ] at hy ⊢; exact mapO_get h2 hy

theorem pairOk_spec {anc : Nat → Nat} {x y : Nat × DO} (h : pairOk anc x y = true) :
    x.1 ≠ y.1 ∧ Nat.testBit (anc x.1) y.1 = false ∧ (∀ t, x.2.o.dst = some t → y.2.o.dst ≠ some t) ∧
    (Nat.testBit (anc y.1) x.1 = true ∨ (isE y.2.o.op = false ∧ (∀ t, x.2.o.dst = some t → t ∉ y.2.o.looks) ∧ (∀ t, y.2.o.dst = some t → t ∉ x.2.o.looks))) := by
  unfold pairOk at h
  rw [cond_eq_ite] at h; split at h
  · cases h
  rename_i h1
  rw [cond_eq_ite] at h; split at h
  · cases h
  rename_i h2
  rw [cond_eq_ite] at h; split at h
  · cases h
  rename_i h3
  refine ⟨fun e => h1 (nbeq.2 e), by simpa using h2, fun t e1 e2 => h3 (by rw [e1, e2]; exact nbeq.2 rfl), ?_⟩
  rw [cond_eq_ite] at h; split at h
  · rename_i h4; exact .inl h4
  rw [cond_eq_ite] at h; split at h
  · cases h
  rename_i h5
  rw [cond_eq_ite] at h; split at h
  · cases h
  rename_i h6
  refine .inr ⟨by simpa using h5, fun t e1 e2 => h6 ?_, fun t e1 e2 => ?_⟩
  · rw [e1]; exact mem_memN e2
  · rw [e1] at h
    have : memN t x.2.o.looks = true := mem_memN e2
    simp [hitsD, this] at h

theorem stat_of {nt : Nat} {ops : Array Oper} {l : List DO} (h : cDraw P nt ops = some l) : ∃ L D, Stat P nt ops L D ∧ l = L.map (·.2) := by
  unfold cDraw at h
  split at h
  · cases h
  rename_i ms hms
  simp only at h
  split at h
  · cases h
  rename_i L hL
  rw [cond_eq_ite] at h; split at h
  case isFalse => cases h
  rename_i hok
  cases h
  generalize hanc : (fun i => (Region.before ops).getD i 0) = anc at hok
  refine ⟨L, fun i j => Nat.testBit (anc j) i = true, ?_, rfl⟩
  unfold drawOk at hok
  rw [cond_eq_ite] at hok; split at hok
  case isFalse => cases hok
  rename_i k1
  rw [cond_eq_ite] at hok; split at hok
  case isFalse => cases hok
  rename_i k2
  rw [cond_eq_ite] at hok; split at hok
  case isFalse => cases hok
  rename_i k3
  have pair : ∀ p q x y, p < q → L[p]? = some x → L[q]? = some y → pairOk anc x y = true := fun p q x y hpq hx hy => allPairs_get k3 hpq hx hy
  have hanc : ∀ j o, ops[j]? = some o → anc j = ancL anc o.after.toList ∧ Nat.testBit (anc j) j = false ∧ ∀ e, e ∈ o.after.toList → Region.binds .any e = true → e.on < ops.size := by
    intro j o ho
    have hlt := (Array.getElem?_eq_some_iff.1 ho).1
    have hj := allR_all k1 j (List.mem_range.2 hlt)
    unfold ancOk at hj
    rw [ho] at hj
    simp only at hj
    rw [cond_eq_ite] at hj; split at hj
    case isFalse => cases hj
    rename_i j1
    rw [cond_eq_ite] at hj; split at hj
    · cases hj
    rename_i j2
    refine ⟨nbeq.1 j1, by simpa using j2, fun e he hb => ?_⟩
    have := allR_all hj e he
    rw [hb] at this
    exact nblt.1 this
  have wind : ∀ (q : Nat) (x : Nat × DO), L[q]? = some x → isL x.2.o.op = true → loOk anc L x.1 x.2.lo = true ∧ hiOk anc L x.1 x.2.hi = true := by
    intro q x hx hl
    have := allR_all hok x (List.mem_of_getElem? hx)
    unfold windOk at this
    rw [hl] at this
    simp only [cond_true] at this
    rw [cond_eq_ite] at this; split at this
    · rename_i hh; exact ⟨hh, this⟩
    · cases this
  constructor
  case comp =>
    intro p x hx
    obtain ⟨i, hi, hf⟩ := mapO_get hL hx
    split at hf
    case h_2 => cases hf
    rename_i m hm
    cases hf
    obtain ⟨o, ho, hc⟩ := mapO_get hms hm
    exact ⟨o, by simpa using ho, hc⟩
  case cover =>
    intro i hi
    have := memN_mem (allR_all k2 i (List.mem_range.2 hi))
    obtain ⟨x, hx, e⟩ := List.mem_map.1 this
    obtain ⟨p, hp, e2⟩ := List.mem_iff_getElem.1 hx
    exact ⟨p, x, by rw [List.getElem?_eq_getElem hp, e2], e⟩
  case step =>
    intro j o i ho hd
    rw [(hanc j o ho).1] at hd
    obtain ⟨e, h1, h2, h3⟩ := ancL_spec hd
    exact ⟨e, by simpa using h1, h2, h3⟩
  case irr =>
    intro j hj hd
    have := (hanc j _ (Array.getElem?_eq_getElem hj)).2.1
    rw [this] at hd
    cases hd
  case dep =>
    intro j o e ho he hb
    obtain ⟨h1, h2, h3⟩ := hanc j o ho
    refine ⟨?_, h3 e (by simpa using he) hb⟩
    rw [h1]
    exact ancL_has (by simpa using he) hb
  case neq => exact fun p q x y hpq hx hy => (pairOk_spec (pair p q x y hpq hx hy)).1
  case topo => exact fun p q x y hpq hx hy hd => by rw [(pairOk_spec (pair p q x y hpq hx hy)).2.1] at hd; cases hd
  case dsts => exact fun p q x y hpq hx hy => (pairOk_spec (pair p q x y hpq hx hy)).2.2.1
  case eff =>
    intro p q x y hpq hx hy he
    rcases (pairOk_spec (pair p q x y hpq hx hy)).2.2.2 with h | ⟨h, _⟩
    · exact h
    · rw [he] at h; cases h
  case wr =>
    intro p q x y hpq hx hy t h1 h2
    rcases (pairOk_spec (pair p q x y hpq hx hy)).2.2.2 with h | ⟨_, h, _⟩
    · exact h
    · exact absurd h2 (h t h1)
  case rw =>
    intro p q x y hpq hx hy t h1 h2
    rcases (pairOk_spec (pair p q x y hpq hx hy)).2.2.2 with h | ⟨_, _, h⟩
    · exact h
    · exact absurd h2 (h t h1)
  case lo =>
    intro q x hx hl c hc
    have := (wind q x hx hl).1
    rw [hc] at this
    simp only [loOk, getX_eq] at this
    split at this
    · rename_i i d hy
      rw [cond_eq_ite] at this; split at this
      · rename_i he; exact ⟨(i, d), hy, he, this⟩
      · cases this
    · cases this
  case hi =>
    intro q x hx hl y hy
    have := (wind q x hx hl).2
    simp only [hiOk, getX_eq, hy] at this
    exact this

/-! ### The one order -/

/-- A run: the slots, the heap ahead of each place, what each comes to, whether it is done. -/
structure Can (env : Env) (call : Nat → List V → Hp → Option (V × Hp)) (L : List (Nat × DO)) (fr : Nat → Fr) (h : Nat → Hp) (v : Nat → V) (yes : Nat → Bool) : Prop where
  put : ∀ (p : Nat) (x : Nat × DO), L[p]? = some x → fr (p + 1) = putO (fr p) x.2.o.dst (v p)
  step : ∀ (p : Nat) (x : Nat × DO), L[p]? = some x → (yes p = true ∧ gate (fr p) x.2.o.guard = .yes ∧ opV env call (fr p) (h p) x.2.o.op = some (v p, h (p + 1))) ∨
      (yes p = false ∧ gate (fr p) x.2.o.guard = .no ∧ v p = .tup [] ∧ h (p + 1) = h p)
  still : ∀ (q : Nat) (x : Nat × DO), L[q]? = some x → yes q = true → isL x.2.o.op = true → ∀ c, (c = 0 ∨ ∃ (p : Nat) (y : Nat × DO), c = p + 1 ∧ L[p]? = some y ∧ isE y.2.o.op = true) → x.2.lo ≤ c → c ≤ x.2.hi →
    opV env call (fr q) (h c) x.2.o.op = some (v q, h c)

theorem stillAll_spec {r : Rd} : ∀ {st : List (Nat × Hp)}, stillAll r st = true → ∀ c hh, (c, hh) ∈ st → r.lo ≤ c → c ≤ r.hi → stillAt r hh = true
  | [], _, c, hh, hm, _, _ => by cases hm
  | (c', h') :: st, h, c, hh, hm, h1, h2 => by
    simp only [stillAll] at h
    rcases List.mem_cons.1 hm with e | hm
    · cases e
      rw [nble.2 h1, nble.2 h2] at h
      simp only [cond_true] at h
      rw [cond_eq_ite] at h; split at h
      · rename_i hh; exact hh
      · cases h
    · have : stillAll r st = true := by
        rw [cond_eq_ite] at h; split at h
        · rw [cond_eq_ite] at h; split at h
          · rw [cond_eq_ite] at h; split at h
            · exact h
            · cases h
          · exact h
        · exact h
      exact stillAll_spec this c hh hm h1 h2

theorem allStill_spec {st : List (Nat × Hp)} : ∀ {rds : List Rd}, allStill st rds = true → ∀ r, r ∈ rds → stillAll r st = true
  | [], _, r, hr => by cases hr
  | x :: l, h, r, hr => by
    simp only [allStill] at h
    rw [cond_eq_ite] at h; split at h
    · rename_i hx
      rcases List.mem_cons.1 hr with rfl | hr
      · exact hx
      · exact allStill_spec h r hr
    · cases h

def RunOf (env : Env) (call : Nat → List V → Hp → Option (V × Hp)) (L : List (Nat × DO)) (p0 : Nat) (fr0 : Fr) (h0 : Hp) (st : List (Nat × Hp)) (rds : List Rd) (fr' : Fr) (h' : Hp) : Prop :=
    ∃ (fr : Nat → Fr) (h : Nat → Hp) (v : Nat → V) (yes : Nat → Bool) (stF : List (Nat × Hp)) (rdF : List Rd), fr 0 = fr0 ∧ h 0 = h0 ∧ fr L.length = fr' ∧ h L.length = h' ∧
      (∀ (p : Nat) (x : Nat × DO), L[p]? = some x → fr (p + 1) = putO (fr p) x.2.o.dst (v p)) ∧
      (∀ (p : Nat) (x : Nat × DO), L[p]? = some x → (yes p = true ∧ gate (fr p) x.2.o.guard = .yes ∧ opV env call (fr p) (h p) x.2.o.op = some (v p, h (p + 1))) ∨
        (yes p = false ∧ gate (fr p) x.2.o.guard = .no ∧ v p = .tup [] ∧ h (p + 1) = h p)) ∧
      allStill stF rdF = true ∧ (∀ s, s ∈ st → s ∈ stF) ∧ (∀ r, r ∈ rds → r ∈ rdF) ∧ (∀ (p : Nat) (x : Nat × DO), L[p]? = some x → isE x.2.o.op = true → (p0 + p + 1, h (p + 1)) ∈ stF) ∧
      (∀ (p : Nat) (x : Nat × DO), L[p]? = some x → yes p = true → ∀ r, r ∈ rdOf (fr p) (h p) x.2 → r ∈ rdF)

theorem can_of_run {env : Env} {call : Nat → List V → Hp → Option (V × Hp)} : ∀ (L : List (Nat × DO)) (p0 : Nat) (fr0 : Fr) (h0 : Hp) (st : List (Nat × Hp)) (rds : List Rd) (fr' : Fr) (h' : Hp),
    runD env call (L.map (·.2)) p0 fr0 h0 st rds = some (fr', h') → RunOf env call L p0 fr0 h0 st rds fr' h'
  | [], p0, fr0, h0, st, rds, fr', h', e => by
    simp only [List.map_nil, runD] at e
    rw [cond_eq_ite] at e; split at e
    case isFalse => cases e
    rename_i hs
    cases e
    exact ⟨fun _ => fr0, fun _ => h0, fun _ => .tup [], fun _ => false, st, rds, rfl, rfl, rfl, rfl, by simp, by simp, hs, fun _ h => h, fun _ h => h, by simp, by simp⟩
  | x :: L, p0, fr0, h0, st, rds, fr', h', e => by
    simp only [List.map_cons, runD] at e
    have go : ∀ (b : Bool) (v0 : V) (h1 : Hp) (rds1 : List Rd), (∀ r, r ∈ rds → r ∈ rds1) → (b = true → ∀ r, r ∈ rdOf fr0 h0 x.2 → r ∈ rds1) →
        ((b = true ∧ gate fr0 x.2.o.guard = .yes ∧ opV env call fr0 h0 x.2.o.op = some (v0, h1)) ∨ (b = false ∧ gate fr0 x.2.o.guard = .no ∧ v0 = .tup [] ∧ h1 = h0)) →
        runD env call (L.map (·.2)) (p0 + 1) (putO fr0 x.2.o.dst v0) h1 (cond (isE x.2.o.op) ((p0 + 1, h1) :: st) st) rds1 = some (fr', h') → RunOf env call (x :: L) p0 fr0 h0 st rds fr' h' := by
      intro b v0 h1 rds1 hr1 hr2 hb e1
      obtain ⟨fr, h, v, yes, stF, rdF, f1, f2, f3, f4, f5, f6, f7, f8, f9, f10, f11⟩ := can_of_run L (p0 + 1) _ h1 _ rds1 fr' h' e1
      refine ⟨fun | 0 => fr0 | p + 1 => fr p, fun | 0 => h0 | p + 1 => h p, fun | 0 => v0 | p + 1 => v p, fun | 0 => b | p + 1 => yes p, stF, rdF, rfl, rfl, f3, f4, ?_, ?_, f7, fun s hs => f8 s ?_, fun r hr => f9 r (hr1 r hr), ?_, ?_⟩
      · intro p y hy
        cases p with
        | zero => simp at hy; subst hy; exact f1
        | succ p => exact f5 p y (by simpa using hy)
      · intro p y hy
        cases p with
        | zero => simp at hy; subst hy; dsimp only; rw [f2]; exact hb
        | succ p => exact f6 p y (by simpa using hy)
      · rw [cond_eq_ite]; split
        · exact List.mem_cons_of_mem _ hs
        · exact hs
      · intro p y hy he
        cases p with
        | zero =>
          simp at hy; subst hy
          refine f8 _ ?_
          rw [he]
          dsimp only
          rw [f2]
          exact List.mem_cons_self
        | succ p =>
          have := f10 p y (by simpa using hy) he
          rw [show p0 + (p + 1) + 1 = p0 + 1 + p + 1 by omega]
          exact this
      · intro p y hy hyes r hr
        cases p with
        | zero => simp at hy; subst hy; exact f9 r (hr2 hyes r hr)
        | succ p => exact f11 p y (by simpa using hy) hyes r hr
    split at e
    · rename_i hg
      exact go false (.tup []) h0 rds (fun _ h => h) (fun h => by cases h) (.inr ⟨rfl, hg, rfl, rfl⟩) e
    · cases e
    · rename_i hg
      split at e
      case h_2 => cases e
      rename_i v0 h1 hv
      exact go true v0 h1 _ (fun r hr => List.mem_append_right _ hr) (fun _ r hr => List.mem_append_left _ hr) (.inl ⟨rfl, hg, hv⟩) e

theorem read_length {h : Hp} {b o n : Nat} {l : List V} (e : h.read b o n = some l) : l.length = n := by
  unfold Hp.read at e
  split at e
  · obtain ⟨h1, h2⟩ := takeX_eq e
    rw [h1, List.length_take]; omega
  · cases e

theorem can_of {env : Env} {call : Nat → List V → Hp → Option (V × Hp)} {L : List (Nat × DO)} {fr0 fr' : Fr} {h0 h' : Hp} (e : runD env call (L.map (·.2)) 0 fr0 h0 [(0, h0)] [] = some (fr', h')) :
    ∃ fr h v yes, Can env call L fr h v yes ∧ fr 0 = fr0 ∧ h 0 = h0 ∧ fr L.length = fr' ∧ h L.length = h' := by
  obtain ⟨fr, h, v, yes, stF, rdF, f1, f2, f3, f4, f5, f6, f7, f8, f9, f10, f11⟩ := can_of_run L 0 fr0 h0 _ _ fr' h' e
  refine ⟨fr, h, v, yes, ⟨f5, f6, ?_⟩, f1, f2, f3, f4⟩
  intro q x hx hy hl c hc h1 h2
  have hst : (c, h c) ∈ stF := by
    rcases hc with rfl | ⟨p, y, rfl, hp, he⟩
    · rw [f2]; exact f8 _ (List.mem_singleton.2 rfl)
    · have := f10 p y hp he
      rwa [Nat.zero_add] at this
  have hrd := f11 q x hx hy
  have hop : opV env call (fr q) (h q) x.2.o.op = some (v q, h (q + 1)) := by
    rcases f6 q x hx with ⟨_, _, k⟩ | ⟨k, _⟩
    · exact k
    · rw [hy] at k; cases k
  have key : ∀ b o l, ⟨x.2.lo, x.2.hi, b, o, l⟩ ∈ rdF → (h c).read b o l.length = some l := by
    intro b o l hm
    have := stillAll_spec (allStill_spec f7 _ hm) c (h c) hst h1 h2
    unfold stillAt at this
    simp only at this
    split at this
    · rename_i l' hl'
      rw [hl', sames_eq this]
    · cases this
  cases hm : x.2.o.op <;> rw [hm] at hl hop <;> simp only [isL, reduceCtorEq] at hl
  case load1 a =>
    simp only [opV] at hop ⊢
    unfold rdOf at hrd
    rw [hm] at hrd
    simp only at hrd
    split at hop
    case h_2 => cases hop
    rename_i b o ha
    rw [ha] at hrd
    simp only at hrd
    cases hr : (h q).read b o 1 with
    | none => rw [hr] at hop; cases hop
    | some l =>
      rw [hr] at hop hrd
      have hlen : l.length = 1 := read_length hr
      have := key b o l (hrd _ (List.mem_singleton.2 rfl))
      rw [hlen] at this
      rw [this]
      cases l with
      | nil => cases hlen
      | cons z r =>
        simp only [Option.some.injEq, Prod.mk.injEq] at hop ⊢
        exact ⟨hop.1, trivial⟩
  case loadn n a =>
    simp only [opV] at hop ⊢
    unfold rdOf at hrd
    rw [hm] at hrd
    simp only at hrd
    split at hop
    case h_2 => cases hop
    rename_i b o ha
    rw [ha] at hrd
    simp only at hrd
    cases hr : (h q).read b o n with
    | none => rw [hr] at hop; cases hop
    | some l =>
      rw [hr] at hop hrd
      have hlen : l.length = n := read_length hr
      have := key b o l (hrd _ (List.mem_singleton.2 rfl))
      rw [hlen] at this
      rw [this]
      simp only [Option.some.injEq, Prod.mk.injEq] at hop ⊢
      exact ⟨hop.1, trivial⟩

end Go.Vm
