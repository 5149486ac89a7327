/-
  Vm, part 7: operations on values alone do what the model's do.
-/
import Derived.Test.YtcoghkkhjaokmaaGreatDoorVmHeap
import Derived.Laws.Tables
import Derived.Laws.StructEq
import Derived.Laws.Slices
import Derived.Laws.Strings
import Derived.Laws.BytesString
namespace Go.Vm

variable {P : Program} {φ : Emb}

/-- The program's own variables lie where they lie. -/
def Emb.glOk (P : Program) (φ : Emb) : Prop := ∀ g, g < P.globals.size → ∃ e, φ.at_ g = some ⟨g, 0, e⟩

/-- A frame's slots. -/
def FR (φ : Emb) (fr : Fr) (a : Act) : Prop := ∀ t, VR φ (ev fr (.tmp t)) (a.tmps.getD t undef)

theorem mapO_length {α β : Type} {f : α → Option β} : ∀ {l : List α} {r : List β}, mapO f l = some r → r.length = l.length
  | [], r, h => by simp [mapO] at h; subst h; rfl
  | x :: l, r, h => by
    simp only [mapO] at h
    cases h1 : f x with
    | none => simp [h1] at h
    | some y =>
      cases h2 : mapO f l with
      | none => simp [h1, h2] at h
      | some q => simp [h1, h2] at h; subst h; simp [mapO_length h2]

theorem mapO_cons {α β : Type} {f : α → Option β} {x : α} {l : List α} {r : List β} (h : mapO f (x :: l) = some r) : ∃ y q, f x = some y ∧ mapO f l = some q ∧ r = y :: q := by
  simp only [mapO] at h
  cases h1 : f x with
  | none => simp [h1] at h
  | some y =>
    cases h2 : mapO f l with
    | none => simp [h1, h2] at h
    | some q => simp [h1, h2] at h; exact ⟨y, q, rfl, rfl, h.symm⟩

theorem cvFlat_rel {v : Value} {x : V} (h : cvFlat v = some x) : VR φ x v := by
  unfold cvFlat at h
  split at h
  case h_9 f a c =>
    simp only [nbeq_d, Bool.cond_decide] at h
    split at h
    · split at h
      · rename_i h1 h2
        simp at h1 h2 h
        subst h1; subst h2; subst h
        exact .func _ _ _ _ _ .nil .nil
      · cases h
    · cases h
  case h_10 => cases h
  all_goals (simp at h; subst h; constructor)

theorem cvs_rel : ∀ {l : List Value} {r : List V}, mapO cvFlat l = some r → VRs φ r l
  | [], r, h => by simp [mapO] at h; subst h; exact .nil
  | x :: l, r, h => by
    obtain ⟨y, q, h1, h2, rfl⟩ := mapO_cons h
    exact .cons _ _ _ _ (cvFlat_rel h1) (cvs_rel h2)

theorem cv_rel {v : Value} {x : V} (h : cv v = some x) : VR φ x v := by
  unfold cv at h
  split at h
  · rename_i cs
    cases h1 : mapO cvFlat cs.toList with
    | none => simp [h1] at h
    | some l => simp [h1] at h; subst h; exact .agg _ _ (cvs_rel h1)
  · rename_i vs
    simp only [nbeq_d, Bool.cond_decide] at h
    split at h
    · rename_i h0
      simp at h0 h; subst h0; subst h
      exact .tup _ _ .nil
    · cases h
  · exact cvFlat_rel h

theorem opd_rel (hg : φ.glOk P) {fr : Fr} {a : Act} (hf : FR φ fr a) {x : Operand} {y : Opd} (h : cOpd P x = some y) : VR φ (ev fr y) (a.eval x) := by
  cases x with
  | tmp t => simp [cOpd] at h; subst h; exact hf t
  | const v =>
    simp only [cOpd] at h
    cases h1 : cv v with
    | none => simp [h1] at h
    | some z => simp [h1] at h; subst h; exact cv_rel h1
  | global g =>
    simp only [cOpd, nblt_d, Bool.cond_decide] at h
    split at h
    · rename_i hlt
      simp at h; subst h
      obtain ⟨e, he⟩ := hg g hlt
      exact .ptr g 0 ⟨g, 0, e⟩ he
    · cases h
  | func f => simp [cOpd] at h; subst h; exact .func _ _ _ _ _ .nil .nil

theorem opds_rel (hg : φ.glOk P) {fr : Fr} {a : Act} (hf : FR φ fr a) : ∀ {l : List Operand} {r : List Opd}, cOpds P l = some r → VRs φ (evs fr r) (l.map a.eval)
  | [], r, h => by simp [cOpds, mapO] at h; subst h; exact .nil
  | x :: l, r, h => by
    obtain ⟨y, q, h1, h2, rfl⟩ := mapO_cons h
    exact .cons _ _ _ _ (opd_rel hg hf h1) (opds_rel hg hf h2)

/-- An operand that may lack. -/
def OR (φ : Emb) : Option V → Option Value → Prop
  | none, none => True
  | some v, some u => VR φ v u
  | _, _ => False

theorem opt_rel (hg : φ.glOk P) {fr : Fr} {a : Act} (hf : FR φ fr a) {x : Option Operand} {y : Option Opd} (h : cOpt P x = some y) : OR φ (evo fr y) (x.map a.eval) := by
  cases x with
  | none => simp [cOpt] at h; subst h; trivial
  | some x =>
    simp only [cOpt] at h
    cases h1 : cOpd P x with
    | none => simp [h1] at h
    | some z => simp [h1] at h; subst h; exact opd_rel hg hf h1

theorem lift_ok {s : Sem Value} {u : Value} {w w' : World} (h : s.run P w = .ok u w') : (do pure (Next.value (← s)) : Sem Next).run P w = .ok (.value u) w' := by
  simp [h]

/-! ### Numbers and texts -/

theorem arith_ok {op : BinOp} {k : IntKind} {a b : Int} {v : V} (h : arith op k a b = some v) :
    ∃ u, VR φ v u ∧ ∀ t w, (binOp op t (.int k a) (.int k b)).run P w = .ok u w := by
  cases op <;> simp only [arith, ieq_d, ilt_d, Option.some.injEq, reduceCtorEq] at h
  case add => subst h; exact ⟨_, .int _ _, fun t w => by simp [binOp, Op.intArith, wr_eq]⟩
  case sub => subst h; exact ⟨_, .int _ _, fun t w => by simp [binOp, Op.intArith, wr_eq]; rfl⟩
  case mul => subst h; exact ⟨_, .int _ _, fun t w => by simp [binOp, Op.intArith, wr_eq]⟩
  case quo =>
    cases e : (b == Int.ofNat 0) with
    | true => rw [e] at h; cases h
    | false =>
      rw [e] at h; cases h
      have hb : ¬ b = 0 := by simpa using e
      exact ⟨_, .int _ _, fun t w => by simp [binOp, Op.intDiv, hb, wr_eq]⟩
  case rem =>
    cases e : (b == Int.ofNat 0) with
    | true => rw [e] at h; cases h
    | false =>
      rw [e] at h; cases h
      have hb : ¬ b = 0 := by simpa using e
      exact ⟨_, .int _ _, fun t w => by simp [binOp, Op.intDiv, hb]⟩
  case and => subst h; exact ⟨_, .int _ _, fun t w => by simp only [binOp, Op.intBits]; simp only [wr_eq, Int.ofNat_eq_natCast, bits_and]; simp⟩
  case or => subst h; exact ⟨_, .int _ _, fun t w => by simp only [binOp, Op.intBits]; simp only [wr_eq, Int.ofNat_eq_natCast, bits_or]; simp⟩
  case xor => subst h; exact ⟨_, .int _ _, fun t w => by simp only [binOp, Op.intBits]; simp only [wr_eq, Int.ofNat_eq_natCast, bits_xor]; simp⟩
  case andNot => subst h; exact ⟨_, .int _ _, fun t w => by simp only [binOp, Op.intBits]; simp only [wr_eq, Int.ofNat_eq_natCast, bits_andNot]; simp⟩
  case eql => subst h; exact ⟨_, .bool _, fun t w => by simp [binOp, Op.intCmp]⟩
  case neq => subst h; exact ⟨_, .bool _, fun t w => by simp [binOp, Op.intCmp]; rfl⟩
  case lss => subst h; exact ⟨_, .bool _, fun t w => by simp [binOp, Op.intCmp]⟩
  case leq => subst h; exact ⟨_, .bool _, fun t w => by simp [binOp, Op.intCmp]; rw [Bool.eq_iff_iff]; simp⟩
  case gtr => subst h; exact ⟨_, .bool _, fun t w => by simp [binOp, Op.intCmp]⟩
  case geq => subst h; exact ⟨_, .bool _, fun t w => by simp [binOp, Op.intCmp]; rw [Bool.eq_iff_iff]; simp⟩

theorem str_eq (s : ByteArray) : s.toList = s.data.toList := ByteArray.toList_eq s

theorem map_inj {a b : List UInt8} (h : a.map UInt8.toNat = b.map UInt8.toNat) : a = b := by
  induction a generalizing b with
  | nil => cases b with
    | nil => rfl
    | cons => simp at h
  | cons x a ih => cases b with
    | nil => simp at h
    | cons y b => simp at h; rw [ih h.2, UInt8.toNat_inj.1 h.1]

theorem neqs_map (a b : List UInt8) : neqs (a.map UInt8.toNat) (b.map UInt8.toNat) = (a == b) := by
  rw [Bool.eq_iff_iff, neqs_iff, beq_iff_eq]
  exact ⟨map_inj, fun h => by rw [h]⟩

theorem str_ok {op : BinOp} {a b : ByteArray} {v : V} (h : strArith op (a.data.toList.map UInt8.toNat) (b.data.toList.map UInt8.toNat) = some v) :
    ∃ u, VR φ v u ∧ ∀ t w, (binOp op t (.string a) (.string b)).run P w = .ok u w := by
  cases op <;> simp only [strArith, neqs_map, slt_eq, Option.some.injEq, reduceCtorEq] at h
  case add =>
    simp only [nble_d, Bool.cond_decide] at h
    split at h
    case isFalse => cases h
    rename_i hl
    cases h
    have e : (a ++ b).data.toList.map UInt8.toNat = a.data.toList.map UInt8.toNat ++ b.data.toList.map UInt8.toNat := by
      simp [ByteArray.data_append]
    refine ⟨.string (a ++ b), e ▸ .str (a ++ b), fun t w => ?_⟩
    have hs : ¬ (((a.size + b.size : Nat) : Int) > IntKind.i64.max) := by
      simp only [List.length_map, Array.length_toList] at hl
      have : a.size = a.data.size := rfl
      have : b.size = b.data.size := rfl
      rw [IntKind.max_i64]; omega
    simp only [binOp, Op.stringOp, if_neg hs, Sem.run_pure]
  all_goals (subst h; refine ⟨_, .bool _, fun t w => ?_⟩; simp only [binOp, Op.stringOp, str_eq, Sem.run_pure])

/-- The value of a number, or of an unknown. -/
def numOf (σ : Nat → Value) : V → Option Value
  | .int k n => some (.int k n)
  | .sym i => some (σ i)
  | .bool b => some (.bool b)
  | _ => none

/-- What is told of the unknowns holds. -/
def TabOk (P : Program) (σ : Nat → Value) (tab : Tab) : Prop :=
  ∀ op x y r u1 u2, tab.look op x y = some r → numOf σ x = some u1 → numOf σ y = some u2 →
    (∃ k n, u1 = .int k n ∧ (op = .lss → ∃ m, u2 = .int k m)) ∧ ∃ u, numOf σ r = some u ∧ ∀ t w, (binOp op t u1 u2).run P w = .ok u w

theorem num_rel {v : V} {u : Value} (h : numOf φ.sym v = some u) : VR φ v u := by
  cases v <;> simp [numOf] at h <;> subst h <;> constructor

theorem guard_int {op : BinOp} {t : TypeId} {x y : Operand} {k : IntKind} {n : Int} {u : Value} : eqGuard op t x y (.int k n) u = pure () := by cases op <;> rfl
theorem guard_str {op : BinOp} {t : TypeId} {x y : Operand} {s : ByteArray} {u : Value} : eqGuard op t x y (.string s) u = pure () := by cases op <;> rfl

theorem bin_ok {tab : Tab} (ht : TabOk P φ.sym tab) {op : BinOp} {x y v : V} {u1 u2 : Value} (hx : VR φ x u1) (hy : VR φ y u2) (h : binV tab op x y = some v) :
    ∃ u, VR φ v u ∧ ∀ t X Y w, (do eqGuard op t X Y u1 u2; binOp op t u1 u2 : Sem Value).run P w = .ok u w := by
  have key : ∀ u, (∃ k n, u1 = .int k n) ∨ (∃ s, u1 = .string s) → (VR φ v u ∧ ∀ t w, (binOp op t u1 u2).run P w = .ok u w) →
      VR φ v u ∧ ∀ t X Y w, (do eqGuard op t X Y u1 u2; binOp op t u1 u2 : Sem Value).run P w = .ok u w := by
    rintro u hk ⟨h1, h2⟩
    refine ⟨h1, fun t X Y w => ?_⟩
    rcases hk with ⟨k, n, rfl⟩ | ⟨s, rfl⟩
    · rw [guard_int]; simpa using h2 t w
    · rw [guard_str]; simpa using h2 t w
  unfold binV at h
  split at h
  · -- two numbers
    rename_i k a j b
    cases hx; cases hy
    split at h
    · split at h
      · rename_i n
        cases h
        exact ⟨_, key _ (.inl ⟨k, a, rfl⟩) ⟨.int _ _, fun t w => by simp [binOp, Op.shift, shl_eq]; intro h; omega⟩⟩
      · cases h
    · split at h
      · rename_i n
        cases h
        exact ⟨_, key _ (.inl ⟨k, a, rfl⟩) ⟨.int _ _, fun t w => by simp [binOp, Op.shift, shr_eq]; intro h; omega⟩⟩
      · cases h
    · cases hk : keq k j with
      | false => rw [hk] at h; cases h
      | true =>
        rw [hk] at h
        have e := keq_iff.1 hk
        subst e
        obtain ⟨u, h1, h2⟩ := arith_ok (P := P) (φ := φ) h
        exact ⟨u, key u (.inl ⟨k, a, rfl⟩) ⟨h1, h2⟩⟩
  · rename_i a b
    cases hx with | str s1 => cases hy with | str s2 =>
    obtain ⟨u, h1, h2⟩ := str_ok (P := P) (φ := φ) h
    exact ⟨u, key u (.inr ⟨_, rfl⟩) ⟨h1, h2⟩⟩
  · cases hx; cases hy
    obtain ⟨e, u, h1, h2⟩ := ht _ _ _ _ _ _ h rfl rfl
    exact ⟨u, key u (.inl (let ⟨k, n, h, _⟩ := e; ⟨k, n, h⟩)) ⟨num_rel h1, h2⟩⟩
  · cases hx; cases hy
    obtain ⟨e, u, h1, h2⟩ := ht _ _ _ _ _ _ h rfl rfl
    exact ⟨u, key u (.inl (let ⟨k, n, h, _⟩ := e; ⟨k, n, h⟩)) ⟨num_rel h1, h2⟩⟩
  · cases hx; cases hy
    obtain ⟨e, u, h1, h2⟩ := ht _ _ _ _ _ _ h rfl rfl
    exact ⟨u, key u (.inl (let ⟨k, n, h, _⟩ := e; ⟨k, n, h⟩)) ⟨num_rel h1, h2⟩⟩
  · cases h

end Go.Vm
