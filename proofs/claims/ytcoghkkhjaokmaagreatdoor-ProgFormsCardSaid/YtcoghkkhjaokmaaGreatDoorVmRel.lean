/-
  Vm, part 5: how the small machine's values and heap stand to the model's.
-/
import Derived.Test.YtcoghkkhjaokmaaGreatDoorVmNum
import Derived.Test.YtcoghkkhjaokmaaGreatDoorVmComp
import Derived.Below
namespace Go.Vm

/-! ### Tables -/

theorem T.get_setF {α : Type} (x : α) : ∀ (f : Nat) (t : T α) (n m : Nat), n < f → (T.setF f t n x).get m = if m = n then some x else t.get m
  | 0, _, _, _, h => by omega
  | f + 1, t, n, m, h => by
    have ev : ∀ a, Nat.div a 2 = a / 2 := fun _ => rfl
    have em : ∀ a, Nat.mod a 2 = a % 2 := fun _ => rfl
    cases n with
    | zero =>
      cases t with
      | leaf => cases m with
        | zero => simp [T.setF, T.get]
        | succ m => simp only [T.setF, T.get]; split <;> simp
      | node l v r => cases m <;> simp [T.setF, T.get]
    | succ n =>
      have hlt : n / 2 < f := by omega
      rcases Nat.mod_two_eq_zero_or_one n with h0 | h1
      · cases t with
        | leaf =>
          simp only [T.setF, em, h0]
          cases m with
          | zero => simp [T.get]
          | succ m =>
            rcases Nat.mod_two_eq_zero_or_one m with m0 | m1
            · simp only [T.get, em, m0, ev, T.get_setF x f _ _ _ hlt]
              by_cases e : m = n
              · simp [e]
              · rw [if_neg (by omega), if_neg (by omega)]
            · simp only [T.get, em, m1]
              rw [if_neg (by omega)]
        | node l v r =>
          simp only [T.setF, em, h0]
          cases m with
          | zero => simp [T.get]
          | succ m =>
            rcases Nat.mod_two_eq_zero_or_one m with m0 | m1
            · simp only [T.get, em, m0, ev, T.get_setF x f _ _ _ hlt]
              by_cases e : m = n
              · simp [e]
              · rw [if_neg (by omega), if_neg (by omega)]
            · simp only [T.get, em, m1]
              rw [if_neg (by omega)]
      · cases t with
        | leaf =>
          simp only [T.setF, em, h1]
          cases m with
          | zero => simp [T.get]
          | succ m =>
            rcases Nat.mod_two_eq_zero_or_one m with m0 | m1
            · simp only [T.get, em, m0]
              rw [if_neg (by omega)]
            · simp only [T.get, em, m1, ev, T.get_setF x f _ _ _ hlt]
              by_cases e : m = n
              · simp [e]
              · rw [if_neg (by omega), if_neg (by omega)]
        | node l v r =>
          simp only [T.setF, em, h1]
          cases m with
          | zero => simp [T.get]
          | succ m =>
            rcases Nat.mod_two_eq_zero_or_one m with m0 | m1
            · simp only [T.get, em, m0]
              rw [if_neg (by omega)]
            · simp only [T.get, em, m1, ev, T.get_setF x f _ _ _ hlt]
              by_cases e : m = n
              · simp [e]
              · rw [if_neg (by omega), if_neg (by omega)]

theorem T.get_set {α : Type} (t : T α) (n m : Nat) (x : α) : (t.set n x).get m = if m = n then some x else t.get m :=
  T.get_setF x (n + 1) t n m (by omega)

@[simp] theorem T.get_leaf {α : Type} (n : Nat) : (T.leaf : T α).get n = none := by cases n <;> rfl

/-! ### Lists -/

theorem takeX_eq {α : Type} : ∀ {n : Nat} {l r : List α}, takeX n l = some r → r = l.take n ∧ n ≤ l.length
  | 0, l, r, h => by simp [takeX] at h; subst h; simp
  | n + 1, [], r, h => by simp [takeX] at h
  | n + 1, x :: l, r, h => by
    simp only [takeX] at h
    cases h1 : takeX n l with
    | none => simp [h1] at h
    | some q =>
      rw [h1] at h
      obtain ⟨rfl, hl⟩ := takeX_eq h1
      simp at h
      subst h
      simp; omega

theorem takeX_of {α : Type} : ∀ {n : Nat} {l : List α}, n ≤ l.length → takeX n l = some (l.take n)
  | 0, l, _ => by simp [takeX]
  | n + 1, [], h => by simp at h
  | n + 1, x :: l, h => by
    simp only [takeX]
    rw [takeX_of (by simpa using h)]
    simp

theorem over_length : ∀ (l vs : List V), vs.length ≤ l.length → (over l vs).length = l.length
  | [], [], _ => rfl
  | [], _ :: _, h => by simp at h
  | _ :: _, [], _ => rfl
  | _ :: l, _ :: vs, h => by simp [over, over_length l vs (by simpa using h)]

theorem over_get : ∀ (l vs : List V) (i : Nat), vs.length ≤ l.length → (over l vs)[i]? = if i < vs.length then vs[i]? else l[i]?
  | [], [], i, _ => by simp [over]
  | [], _ :: _, _, h => by simp at h
  | x :: l, [], i, _ => by simp [over]
  | x :: l, v :: vs, 0, _ => by simp [over]
  | x :: l, v :: vs, i + 1, h => by simp [over, over_get l vs i (by simpa using h)]

theorem splice_length : ∀ (l : List V) (o : Nat) (vs : List V), o + vs.length ≤ l.length → (splice l o vs).length = l.length
  | l, 0, vs, h => by simp only [splice]; exact over_length l vs (by omega)
  | [], o + 1, vs, h => by simp at h
  | x :: l, o + 1, vs, h => by simp [splice, splice_length l o vs (by simp at h; omega)]

theorem splice_get : ∀ (l : List V) (o : Nat) (vs : List V) (i : Nat), o + vs.length ≤ l.length →
    (splice l o vs)[i]? = if o ≤ i ∧ i < o + vs.length then vs[i - o]? else l[i]?
  | l, 0, vs, i, h => by simp only [splice]; rw [over_get l vs i (by omega)]; simp
  | [], o + 1, vs, i, h => by simp at h
  | x :: l, o + 1, vs, 0, h => by simp [splice]
  | x :: l, o + 1, vs, i + 1, h => by
    simp only [splice, List.getElem?_cons_succ]
    rw [splice_get l o vs i (by simp at h; omega)]
    have e : i + 1 - (o + 1) = i - o := by omega
    rw [e]
    by_cases c : o ≤ i ∧ i < o + vs.length
    · rw [if_pos c, if_pos (by omega)]
    · rw [if_neg c, if_neg (by omega)]

/-! ### Values -/

/-- Where a block of the small machine lies: in which block, from where on, and how much of it is its own. -/
structure Place where
  blk : Nat
  base : Nat
  ext : Nat

/-- Where the blocks lie; what the unknowns are. -/
structure Emb where
  at_ : Nat → Option Place
  sym : Nat → Value

mutual
inductive VR (φ : Emb) : V → Value → Prop
  | bool (b : Bool) : VR φ (.bool b) (.bool b)
  | int (k : IntKind) (n : Int) : VR φ (.int k n) (.int k n)
  | sym (i : Nat) : VR φ (.sym i) (φ.sym i)
  | str (s : ByteArray) : VR φ (.str (s.data.toList.map UInt8.toNat)) (.string s)
  | nilptr : VR φ .nilptr (.pointer none)
  | ptr (b o : Nat) (pl : Place) (h : φ.at_ b = some pl) : VR φ (.ptr b o) (.pointer (some ⟨pl.blk, pl.base + o, none⟩))
  | nilslice : VR φ .nilslice (.slice none 0 0)
  | slice (b o sz len c : Nat) (ex : Bool) (a : Addr) (cc : Nat)
      (h : 0 < cc → ∃ pl, φ.at_ b = some pl ∧ a = ⟨pl.blk, pl.base + o, none⟩ ∧ (ex = false → o + cc * sz = pl.ext))
      (h1 : len ≤ c) (h2 : c ≤ cc) (h3 : ex = true → c = cc) : VR φ (.slice b o sz len c ex) (.slice (some a) len cc)
  | nilmap : VR φ .nilmap (.map none)
  | map (b : Nat) (pl : Place) (h : φ.at_ b = some pl) : VR φ (.map b) (.map (some pl.blk))
  | func (f : Nat) (a c : List V) (a' c' : Array Value) (ha : VRs φ a a'.toList) (hc : VRs φ c c'.toList) : VR φ (.func f a c) (.func (.func f) a' c')
  | nilfunc : VR φ .nilfunc .nilFunc
  | niliface : VR φ .niliface .nilIface
  | iface (t : Nat) (v : V) (u : Value) (h : VR φ v u) : VR φ (.iface t v) (.iface t u)
  | agg (l : List V) (cs : Array Value) (h : VRs φ l cs.toList) : VR φ (.agg l) (.agg cs)
  | tup (l : List V) (cs : Array Value) (h : VRs φ l cs.toList) : VR φ (.tup l) (.tuple cs)
inductive VRs (φ : Emb) : List V → List Value → Prop
  | nil : VRs φ [] []
  | cons (v : V) (u : Value) (l : List V) (r : List Value) (h : VR φ v u) (h' : VRs φ l r) : VRs φ (v :: l) (u :: r)
end

/-- More blocks. -/
structure Emb.Le (φ ψ : Emb) : Prop where
  at_ : ∀ b pl, φ.at_ b = some pl → ψ.at_ b = some pl
  sym : ψ.sym = φ.sym

theorem Emb.Le.refl (φ : Emb) : φ.Le φ := ⟨fun _ _ h => h, rfl⟩
theorem Emb.Le.trans {φ ψ χ : Emb} (h : φ.Le ψ) (k : ψ.Le χ) : φ.Le χ := ⟨fun b pl e => k.at_ b pl (h.at_ b pl e), k.sym.trans h.sym⟩

mutual
theorem VR.mono {φ ψ : Emb} (h : φ.Le ψ) : ∀ {v : V} {u : Value}, VR φ v u → VR ψ v u
  | _, _, .bool b => .bool b
  | _, _, .int k n => .int k n
  | _, _, .sym i => h.sym ▸ .sym i
  | _, _, .str s => .str s
  | _, _, .nilptr => .nilptr
  | _, _, .ptr b o pl e => .ptr b o pl (h.at_ _ _ e)
  | _, _, .nilslice => .nilslice
  | _, _, .slice b o sz len c ex a cc e h1 h2 h3 => .slice b o sz len c ex a cc (fun hc => let ⟨pl, p1, p2, p3⟩ := e hc; ⟨pl, h.at_ _ _ p1, p2, p3⟩) h1 h2 h3
  | _, _, .nilmap => .nilmap
  | _, _, .map b pl e => .map b pl (h.at_ _ _ e)
  | _, _, .func f a c a' c' ha hc => .func f a c a' c' (VRs.mono h ha) (VRs.mono h hc)
  | _, _, .nilfunc => .nilfunc
  | _, _, .niliface => .niliface
  | _, _, .iface t v u e => .iface t v u (VR.mono h e)
  | _, _, .agg l cs e => .agg l cs (VRs.mono h e)
  | _, _, .tup l cs e => .tup l cs (VRs.mono h e)
theorem VRs.mono {φ ψ : Emb} (h : φ.Le ψ) : ∀ {v : List V} {u : List Value}, VRs φ v u → VRs ψ v u
  | _, _, .nil => .nil
  | _, _, .cons v u l r e e' => .cons v u l r (VR.mono h e) (VRs.mono h e')
end

theorem VRs.length {φ : Emb} : ∀ {l : List V} {r : List Value}, VRs φ l r → l.length = r.length
  | _, _, .nil => rfl
  | _, _, .cons _ _ _ _ _ h => by simp [VRs.length h]

theorem VRs.get {φ : Emb} : ∀ {l : List V} {r : List Value}, VRs φ l r → ∀ {i : Nat} {v : V}, l[i]? = some v → ∃ u, r[i]? = some u ∧ VR φ v u
  | _, _, .nil, i, v, h => by simp at h
  | _, _, .cons v u l r e e', 0, w, h => by simp at h; subst h; exact ⟨u, rfl, e⟩
  | _, _, .cons v u l r e e', i + 1, w, h => by simpa using VRs.get e' (by simpa using h)

theorem VRs.of_get {φ : Emb} : ∀ {l : List V} {r : List Value}, l.length = r.length → (∀ (i : Nat) (v : V) (u : Value), l[i]? = some v → r[i]? = some u → VR φ v u) → VRs φ l r
  | [], [], _, _ => .nil
  | [], _ :: _, h, _ => by simp at h
  | _ :: _, [], h, _ => by simp at h
  | v :: l, u :: r, h, e => .cons v u l r (e 0 v u rfl rfl) (VRs.of_get (by simpa using h) fun i w x h1 h2 => e (i + 1) w x (by simpa using h1) (by simpa using h2))

theorem VRs.append {φ : Emb} : ∀ {a b : List V} {x y : List Value}, VRs φ a x → VRs φ b y → VRs φ (a ++ b) (x ++ y)
  | _, _, _, _, .nil, h => h
  | _, _, _, _, .cons v u l r e e', h => .cons v u _ _ e (VRs.append e' h)

theorem VRs.take {φ : Emb} {a : List V} {x : List Value} (h : VRs φ a x) (n : Nat) : VRs φ (a.take n) (x.take n) := by
  refine VRs.of_get (by simp [h.length]) fun i v u h1 h2 => ?_
  rw [List.getElem?_take] at h1 h2
  split at h1
  · rename_i hi
    rw [if_pos hi] at h2
    obtain ⟨u', e, r⟩ := h.get h1
    rw [e] at h2; cases h2; exact r
  · cases h1

theorem VRs.drop {φ : Emb} {a : List V} {x : List Value} (h : VRs φ a x) (n : Nat) : VRs φ (a.drop n) (x.drop n) := by
  refine VRs.of_get (by simp [h.length]) fun i v u h1 h2 => ?_
  rw [List.getElem?_drop] at h1 h2
  obtain ⟨u', e, r⟩ := h.get h1
  rw [e] at h2; cases h2; exact r

/-- The unknowns are numbers. -/
def Emb.symOk (φ : Emb) : Prop := ∀ i, ∃ k n, φ.sym i = .int k n

theorem VR.cells {φ : Emb} (hs : φ.symOk) : ∀ {v : V} {u : Value}, VR φ v u → VRs φ v.cells u.cells.toList := by
  intro v u h
  cases h
  case agg l cs h => exact h
  case sym i =>
    obtain ⟨k, n, e⟩ := hs i
    have := VR.sym (φ := φ) i
    rw [e] at this ⊢
    exact .cons _ _ _ _ this .nil
  all_goals exact .cons _ _ _ _ (by constructor <;> assumption) .nil

/-- A value of one cell is one of the model's, too. -/
theorem VR.one {φ : Emb} (hs : φ.symOk) {v : V} {u : Value} (h : VR φ v u) (hf : v.flat = true) : u.oneCell' = true := by
  cases h
  case sym i => obtain ⟨k, n, e⟩ := hs i; rw [e]; rfl
  all_goals first | rfl | (simp [V.flat] at hf)

end Go.Vm
