/-
  Vm, part 9: every operation on values alone does what the model's does.
-/
import Derived.Test.YtcoghkkhjaokmaaGreatDoorVmPure2
namespace Go.Vm

variable {P : Program} {φ : Emb}

theorem szP_info {t : TypeId} {n : Nat} (h : szP P t = some n) : ∃ i, P.info? t = some i ∧ i.size = n := by
  unfold szP at h
  cases hi : P.info? t with
  | none => simp [hi] at h
  | some i => simp [hi] at h; exact ⟨i, rfl, h⟩

theorem zeroP_info (hs : φ.symOk) {t : TypeId} {z : V} (h : zeroP P t = some z) : ∃ i u, P.info? t = some i ∧ i.zero = some u ∧ VR φ z u ∧ VRs φ z.cells u.cells.toList := by
  unfold zeroP at h
  cases hi : P.info? t with
  | none => simp [hi] at h
  | some i =>
    cases hz : i.zero with
    | none => simp [hi, hz] at h
    | some u =>
      simp [hi, hz] at h
      have := cv_rel (φ := φ) h
      exact ⟨i, u, rfl, hz, this, this.cells hs⟩

theorem foldl_set (off : Nat) : ∀ (vs : List Value) (k : Nat) (cs : Array Value), off + k + vs.length ≤ cs.size →
    ((vs.zipIdx k).foldl (fun cs p => cs.setIfInBounds (off + p.2) p.1) cs).size = cs.size ∧
    ∀ i, ((vs.zipIdx k).foldl (fun cs p => cs.setIfInBounds (off + p.2) p.1) cs)[i]? = if off + k ≤ i ∧ i < off + k + vs.length then vs[i - (off + k)]? else cs[i]?
  | [], k, cs, _ => ⟨rfl, fun i => by rw [if_neg (fun hh => by simp at hh; omega)]; rfl⟩
  | v :: r, k, cs, h => by
    simp only [List.length_cons] at h
    obtain ⟨h1, h2⟩ := foldl_set off r (k + 1) (cs.setIfInBounds (off + k) v) (by simp; omega)
    simp only [List.zipIdx_cons, List.foldl_cons]
    refine ⟨by rw [h1]; simp, fun i => ?_⟩
    rw [h2 i]
    simp only [List.length_cons]
    by_cases c1 : off + (k + 1) ≤ i ∧ i < off + (k + 1) + r.length
    · rw [if_pos c1, if_pos (by omega), show i - (off + k) = (i - (off + (k + 1))) + 1 by omega]
      simp
    · rw [if_neg c1]
      by_cases e : i = off + k
      · subst e
        rw [if_pos (by omega)]
        simp [Array.getElem?_setIfInBounds]
        omega
      · rw [if_neg (by omega), Array.getElem?_setIfInBounds, if_neg (by omega)]

/-- What a struct's, an array's or a slice's literal is filled with. -/
theorem fill_ok (hs : φ.symOk) (hg : φ.glOk P) {fr : Fr} {a : Act} (hf : FR φ fr a) (place : Nat → Option (Nat × Nat)) :
    ∀ (l : List (Nat × Operand)) {pr : List (Nat × Nat × Opd)} {z c : List V} {cs : Array Value}, cParts P place l = some pr → fillV z (evParts fr pr) = some c → VRs φ z cs.toList →
      ∃ cs', Instr.fill place cs (l.map fun p => (p.1, a.eval p.2)) = some cs' ∧ VRs φ c cs'.toList
  | [], pr, z, c, cs, h1, h2, h3 => by
    simp [cParts, mapO] at h1; subst h1
    simp [evParts, fillV] at h2; subst h2
    exact ⟨cs, rfl, h3⟩
  | (i, x) :: l, pr, z, c, cs, h1, h2, h3 => by
    obtain ⟨q, pr', e1, e2, rfl⟩ := mapO_cons h1
    obtain ⟨o, n, y, hp, hx, rfl⟩ : ∃ o n y, place i = some (o, n) ∧ cOpd P x = some y ∧ q = (o, n, y) := by
      cases hp : place i with
      | none => simp [hp] at e1
      | some p =>
        cases hx : cOpd P x with
        | none => simp [hp, hx] at e1
        | some y => simp [hp, hx] at e1; exact ⟨p.1, p.2, y, rfl, rfl, e1.symm⟩
    simp only [evParts, fillV, nbeq_d, nble_d, Bool.cond_decide] at h2
    split at h2
    case isFalse => cases h2
    rename_i hn
    split at h2
    case isFalse => cases h2
    rename_i hle
    have hy := opd_rel hg hf hx
    have hcy := hy.cells hs
    have hl1 := hcy.length
    have hl2 := h3.length
    have hsz : (a.eval x).cells.size = n := by rw [← hn, hl1]; simp
    have hsz2 : cs.size = z.length := by rw [hl2]; simp
    obtain ⟨g1, g2⟩ := foldl_set o (a.eval x).cells.toList 0 cs (by simp; omega)
    have hfold : (a.eval x).cells.zipIdx.foldl (fun cs p => cs.setIfInBounds (o + p.2) p.1) cs = ((a.eval x).cells.toList.zipIdx 0).foldl (fun cs p => cs.setIfInBounds (o + p.2) p.1) cs := by
      rw [← Array.foldl_toList]
      congr 1
      simp
    have hr : VRs φ (splice z o (ev fr y).cells) ((a.eval x).cells.zipIdx.foldl (fun cs p => cs.setIfInBounds (o + p.2) p.1) cs).toList := by
      have hlen : o + (ev fr y).cells.length ≤ z.length := by omega
      refine VRs.of_get ?_ fun i v u k1 k2 => ?_
      · rw [splice_length _ _ _ hlen, hfold]
        simp only [Array.length_toList, g1]
        omega
      · rw [splice_get _ _ _ _ hlen] at k1
        rw [hfold] at k2
        simp only [Array.getElem?_toList, g2, Nat.add_zero] at k2
        by_cases c1 : o ≤ i ∧ i < o + (ev fr y).cells.length
        · rw [if_pos c1] at k1
          rw [if_pos (by omega)] at k2
          obtain ⟨u', m1, m2⟩ := hcy.get k1
          rw [← Array.getElem?_toList, m1] at k2; cases k2; exact m2
        · rw [if_neg c1] at k1
          rw [if_neg (by omega)] at k2
          obtain ⟨u', m1, m2⟩ := h3.get k1
          rw [← Array.getElem?_toList, m1] at k2; cases k2; exact m2
    obtain ⟨cs', m1, m2⟩ := fill_ok hs hg hf place l e2 h2 hr
    refine ⟨cs', ?_, m2⟩
    simp only [List.map_cons, Instr.fill, hp]
    rw [if_neg (by simp; omega)]
    exact m1

theorem places_ok : ∀ {fs : List Field} {pl : List (Nat × Nat)}, placesP P fs = some pl → fs.mapM (fun f => (P.info? f.type).map fun i => (f.offset, i.size)) = some pl
  | [], pl, h => by simp [placesP, mapO] at h; subst h; rfl
  | f :: fs, pl, h => by
    obtain ⟨q, r, h1, h2, rfl⟩ := mapO_cons h
    cases hn : szP P f.type with
    | none => simp [hn] at h1
    | some n =>
      simp [hn] at h1
      subst h1
      obtain ⟨i, hi, rfl⟩ := szP_info hn
      have := places_ok (fs := fs) h2
      simp [List.mapM_cons, hi, this]

theorem getX_eq {α : Type} : ∀ (l : List α) (n : Nat), getX l n = l[n]?
  | [], _ => by simp [getX]
  | x :: l, 0 => rfl
  | x :: l, n + 1 => by simp [getX, getX_eq l n]

theorem fold_ok {f : V → V → Option V} {g : Value → Value → Sem Value} (h : ∀ {x y v u1 u2}, f x y = some v → VR φ x u1 → VR φ y u2 → ∃ u, VR φ v u ∧ ∀ w, (g u1 u2).run P w = .ok u w) :
    ∀ (l : List V) (r : List Value) (x v : V) (u : Value), foldV f x l = some v → VR φ x u → VRs φ l r → ∃ u', VR φ v u' ∧ ∀ w, (r.foldlM g u).run P w = .ok u' w
  | [], r, x, v, u, h1, h2, h3 => by
    cases h3
    simp [foldV] at h1; subst h1; exact ⟨u, h2, fun w => by simp⟩
  | y :: l, r, x, v, u, h1, h2, h3 => by
    cases h3 with | cons _ u2 _ r h3 h4 =>
    simp only [foldV] at h1
    cases hz : f x y with
    | none => simp [hz] at h1
    | some z =>
      rw [hz] at h1
      obtain ⟨u3, k1, k2⟩ := h hz h2 h3
      obtain ⟨u4, k3, k4⟩ := fold_ok h l r z v u3 h1 k1 h4
      exact ⟨u4, k3, fun w => by simp [List.foldlM_cons, k2, k4]⟩

theorem below_ok {tab : Tab} (ht : TabOk P φ.sym tab) {a b : V} {u1 u2 : Value} {r : Bool} (h : belowT tab a b = some r) (ha : numOf φ.sym a = some u1) (hb : numOf φ.sym b = some u2) :
    ∃ k n m, u1 = .int k n ∧ u2 = .int k m ∧ r = decide (n < m) := by
  unfold belowT at h
  split at h
  case h_2 => cases h
  rename_i r' hl
  cases h
  obtain ⟨⟨k, n, e1, e2⟩, u, e3, e4⟩ := ht _ _ _ _ _ _ hl ha hb
  obtain ⟨m, e2⟩ := e2 rfl
  subst e1
  subst e2
  refine ⟨k, n, m, rfl, rfl, ?_⟩
  simp only [numOf, Option.some.injEq] at e3
  have hk : keq k k = true := by cases k <;> rfl
  have ha : arith .lss k n m = some (.bool (ilt n m)) := rfl
  obtain ⟨u', r1, r2⟩ := arith_ok (P := P) (φ := φ) ha
  cases r1
  have w0 : World := default
  have := (e4 0 w0).symm.trans (r2 0 w0)
  rw [← e3] at this
  have e5 : Value.bool r = Value.bool (ilt n m) := by
    injection this
  have e6 : r = ilt n m := by injection e5
  rw [e6, ilt_d]

theorem num_sym {i : Nat} {u : Value} (h : VR φ (.sym i) u) : numOf φ.sym (.sym i) = some u := by cases h; rfl
theorem num_int {k : IntKind} {n : Int} {u : Value} (h : VR φ (.int k n) u) : numOf φ.sym (.int k n) = some u := by cases h; rfl

theorem min_ok {tab : Tab} (ht : TabOk P φ.sym tab) {x y v : V} {u1 u2 : Value} (h : min2V tab x y = some v) (hx : VR φ x u1) (hy : VR φ y u2) : ∃ u, VR φ v u ∧ ∀ w, (Builtin.min2 u1 u2).run P w = .ok u w := by
  have key : ∀ {r : Bool}, belowT tab y x = some r → numOf φ.sym y = some u2 → numOf φ.sym x = some u1 → pick2 (some r) y x = some v → ∃ u, VR φ v u ∧ ∀ w, (Builtin.min2 u1 u2).run P w = .ok u w := by
    intro r hb h2 h1 hp
    obtain ⟨k, n, m, rfl, rfl, rfl⟩ := below_ok ht hb h2 h1
    by_cases c : n < m
    · rw [decide_eq_true c] at hp; cases hp
      exact ⟨_, hy, fun w => by simp [Builtin.min2, c]⟩
    · rw [decide_eq_false c] at hp; cases hp
      exact ⟨_, hx, fun w => by simp [Builtin.min2, c]⟩
  unfold min2V at h
  split at h
  case h_4 => cases h
  · rename_i k a j b
    cases hk : keq k j with
    | false => rw [hk] at h; cases h
    | true =>
      rw [hk] at h; cases h
      cases hx; cases hy
      refine ⟨_, .int _ _, fun w => ?_⟩
      simp only [Builtin.min2, ilt_d, Bool.cond_decide, Sem.run_pure]
  · rename_i i k b
    cases hb : belowT tab (.int k b) (.sym i) with
    | none => rw [hb] at h; cases h
    | some r => rw [hb] at h; exact key hb (num_int hy) (num_sym hx) h
  · rename_i k a j
    cases hb : belowT tab (.sym j) (.int k a) with
    | none => rw [hb] at h; cases h
    | some r => rw [hb] at h; exact key hb (num_sym hy) (num_int hx) h

theorem max_ok {tab : Tab} (ht : TabOk P φ.sym tab) {x y v : V} {u1 u2 : Value} (h : max2V tab x y = some v) (hx : VR φ x u1) (hy : VR φ y u2) : ∃ u, VR φ v u ∧ ∀ w, (Builtin.max2 u1 u2).run P w = .ok u w := by
  have key : ∀ {r : Bool}, belowT tab x y = some r → numOf φ.sym y = some u2 → numOf φ.sym x = some u1 → pick2 (some r) y x = some v → ∃ u, VR φ v u ∧ ∀ w, (Builtin.max2 u1 u2).run P w = .ok u w := by
    intro r hb h2 h1 hp
    obtain ⟨k, n, m, rfl, rfl, rfl⟩ := below_ok ht hb h1 h2
    by_cases c : n < m
    · rw [decide_eq_true c] at hp; cases hp
      exact ⟨_, hy, fun w => by simp [Builtin.max2, c]⟩
    · rw [decide_eq_false c] at hp; cases hp
      exact ⟨_, hx, fun w => by simp [Builtin.max2, c]⟩
  unfold max2V at h
  split at h
  case h_4 => cases h
  · rename_i k a j b
    cases hk : keq k j with
    | false => rw [hk] at h; cases h
    | true =>
      rw [hk] at h; cases h
      cases hx; cases hy
      refine ⟨_, .int _ _, fun w => ?_⟩
      simp only [Builtin.max2, ilt_d, Bool.cond_decide, Sem.run_pure]
  · rename_i i k b
    cases hb : belowT tab (.sym i) (.int k b) with
    | none => rw [hb] at h; cases h
    | some r => rw [hb] at h; exact key hb (num_int hy) (num_sym hx) h
  · rename_i k a j
    cases hb : belowT tab (.int k a) (.sym j) with
    | none => rw [hb] at h; cases h
    | some r => rw [hb] at h; exact key hb (num_sym hy) (num_int hx) h

end Go.Vm
