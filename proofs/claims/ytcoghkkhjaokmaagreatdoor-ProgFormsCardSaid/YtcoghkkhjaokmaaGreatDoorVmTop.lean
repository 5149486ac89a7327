/-
  Vm, part 28: a law that the small machine answers with true.
-/
import Derived.Test.YtcoghkkhjaokmaaGreatDoorVmSound
import Derived.RowKit3
import Derived.ChangeSame
namespace Go.Vm

variable {P : Program}

/-! ### The functions' table -/

def AllT {α : Type} (Q : Nat → α → Prop) : Nat → Nat → T α → Prop
  | _, _, .leaf => True
  | a, b, .node l v r => (match v with
    | some x => Q b x
    | none => True) ∧ AllT Q (2 * a) (a + b) l ∧ AllT Q (2 * a) (2 * a + b) r

theorem AllT.get {α : Type} {Q : Nat → α → Prop} : ∀ {t : T α} {a b : Nat}, AllT Q a b t → ∀ {n : Nat} {x : α}, t.get n = some x → Q (a * n + b) x
  | .leaf, _, _, _, n, x, hx => by simp at hx
  | .node l v r, a, b, h, n, x, hx => by
    obtain ⟨h1, h2, h3⟩ := h
    have ev : ∀ a, Nat.div a 2 = a / 2 := fun _ => rfl
    have em : ∀ a, Nat.mod a 2 = a % 2 := fun _ => rfl
    cases n with
    | zero =>
      simp only [T.get] at hx
      subst hx
      simpa using h1
    | succ m =>
      rcases Nat.mod_two_eq_zero_or_one m with m0 | m1
      · simp only [T.get, em, m0, ev] at hx
        have := AllT.get h2 hx
        rwa [show 2 * a * (m / 2) + (a + b) = a * (m + 1) + b by
          have : m = 2 * (m / 2) := by omega
          rw [this, Nat.mul_add]
          simp
          rw [Nat.mul_assoc, Nat.mul_left_comm, Nat.add_assoc]] at this
      · simp only [T.get, em, m1, ev] at hx
        have := AllT.get h3 hx
        rwa [show 2 * a * (m / 2) + (2 * a + b) = a * (m + 1) + b by
          have : m = 2 * (m / 2) + 1 := by omega
          rw [this]
          rw [show (2 * (m / 2) + 1) / 2 = m / 2 by omega]
          rw [show 2 * (m / 2) + 1 + 1 = 2 * (m / 2 + 1) by omega]
          rw [Nat.mul_left_comm, Nat.mul_add, Nat.mul_add]
          simp [Nat.mul_assoc, Nat.add_assoc]] at this

/-- One function is what it is said to be. -/
def IsFun (P : Program) (i : Nat) (m : Fun) : Prop := ∃ fn, P.funcs[i]? = some fn ∧ cFun P fn = some m ∧ entered P i = true

theorem valid_of {p : Prog} (h : AllT (IsFun P) 1 0 p.funs) : Valid P p := fun f m hm => by
  have := h.get hm
  rw [Nat.one_mul, Nat.add_zero] at this
  exact this

def intsB (P : Program) (l : List Nat) : Bool :=
  allR (fun t => match P.info? t, P.underlying t with
    | some i, some (.int _) => i.comparable
    | _, _ => false) l

theorem ints_of {l : List Nat} (h : intsB P l = true) : IntsOk P l := by
  intro t ht
  have hm : t ∈ l := by
    clear h
    induction l with
    | nil => cases ht
    | cons x l ih =>
      simp only [eqiV.hasN] at ht
      rw [cond_eq_ite] at ht; split at ht
      · rename_i e; rw [nbeq] at e; exact List.mem_cons.2 (.inl e.symm)
      · exact List.mem_cons.2 (.inr (ih ht))
  have := allR_all h t hm
  split at this
  · rename_i i k h1 h2; exact ⟨i, k, h1, this, h2⟩
  · cases this

/-! ### The top -/

def h00 (g : Nat) : Hp := { next := g, t := .leaf }

def runs (p : Prog) (ext : Ext) (n f : Nat) (args : List V) (g : Nat) : Bool :=
  match call p ext n f args (h00 g) with
  | some (.bool true, _) => true
  | _ => false

theorem blk_h00 (g b : Nat) : (h00 g).blk b = .gone := by
  simp [h00, Hp.blk]

/-- No externs. -/
def noExt : Ext := fun _ _ _ => none
theorem noExt_rises : Rises noExt := fun _ _ _ _ _ h => by cases h
theorem noExt_ok {env : Env} : CallOk P env noExt := fun _ _ _ _ _ _ _ _ h => by cases h

def emb0 (P : Program) (σ : Nat → Value) : Emb := ⟨fun b => if b < P.globals.size then some ⟨b, 0, 0⟩ else none, σ⟩

theorem keptBut_of {w w' : World} (h1 : w'.os = w.os) (h2 : w'.output = w.output) (h3 : ∀ k, k < w.heap.size → w'.heap[k]? = w.heap[k]?) : w.keptBut w' (fun _ => False) := by
  refine ⟨h1, h2, fun i hi => ?_⟩
  rw [h3 i hi]
  cases h : w.heap[i]? with
  | none => simp
  | some o => cases o <;> simp

theorem top (hm : P.follows .mixedOrders = true) {p : Prog} (hp : Valid P p) {ext : Ext} (hrx : Rises ext) (hx : CallOk P p.env ext) (σ : Nat → Value) (hσ : ∀ i, ∃ k n, σ i = .int k n) (htab : TabOk P σ p.env.tab) (hints : IntsOk P p.env.ints)
    {f n : Nat} {args : List V} {us : List Value} (hen : entered P f = true) (hv : runs p ext n f args P.globals.size = true) (hargs : VRs (emb0 P σ) args us) (w : World) :
    Calls P f us.toArray w fun e w' => e = .returned (.bool true) ∧ w.keptBut w' (fun _ => False) := by
  unfold runs at hv
  split at hv
  case h_2 => cases hv
  rename_i h' hc
  have hr : HR (emb0 P σ) (h00 P.globals.size) w := ⟨fun b hb => (by rw [blk_h00] at hb; cases hb), fun b b' pl pl' hb => (by rw [blk_h00] at hb; cases hb), fun b _ => blk_h00 _ b⟩
  have hok : EnvOk P (emb0 P σ) p.env := ⟨hσ, fun g hg => ⟨0, by show (if g < P.globals.size then _ else _) = _; rw [if_pos hg]⟩, htab, hints⟩
  have hfr : Fresh (emb0 P σ) (h00 P.globals.size).next h'.next := fun b h1 h2 => by
    show (if b < P.globals.size then some (⟨b, 0, 0⟩ : Place) else none) = _
    have h1 : P.globals.size ≤ b := h1
    rw [if_neg (by omega)]
  have := call_ok hm hp hrx hx n (emb0 P σ) f args (h00 P.globals.size) (.bool true) h' w us hc hok hr hfr hargs
  rcases this with ⟨_, h2⟩ | ⟨u, ψ, w', h1, _⟩
  · refine h2.mono ?_
    rintro e w' ⟨u, ψ, rfl, r1, r2⟩
    cases r1
    refine ⟨rfl, keptBut_of r2.os r2.output fun k hk => r2.kept k hk fun b pl hb => by rw [blk_h00] at hb; cases hb⟩
  · rw [callFunc_entered hen] at h1
    cases h1

/-- One thing told of one unknown number. -/
theorem tab_one {op : BinOp} (hop : op ≠ .lss) {k : IntKind} {n c r : Int} (hb : binV [] op (.int k n) (.int k c) = some (.int k r)) : TabOk P (fun _ => .int k n) [(op, .sym 0, .int k c, .int k r)] := by
  intro op' x y z u1 u2 h1 h2 h3
  simp only [Tab.look] at h1
  rw [cond_eq_ite] at h1; split at h1
  case isFalse => cases h1
  rename_i e1
  rw [cond_eq_ite] at h1; split at h1
  case isFalse => cases h1
  rename_i e2
  rw [cond_eq_ite] at h1; split at h1
  case isFalse => cases h1
  rename_i e3
  cases h1
  have e2 := same_eq e2
  have e3 := same_eq e3
  subst e2
  subst e3
  have e1 : op = op' := by cases op <;> cases op' <;> first | rfl | cases e1
  subst e1
  simp only [numOf, Option.some.injEq] at h2 h3
  subst h2
  subst h3
  have hemb : TabOk P (⟨fun _ => none, fun _ => .int k n⟩ : Emb).sym [] := fun _ _ _ _ _ _ h => by cases h
  obtain ⟨u, r1, r2⟩ := bin_ok (φ := ⟨fun _ => none, fun _ => .int k n⟩) hemb (.int k n) (.int k c) hb
  cases r1
  refine ⟨⟨k, n, rfl, fun e => absurd e hop⟩, _, rfl, fun t w => ?_⟩
  have := r2 t (.const undef) (.const undef) w
  rw [guard_int] at this
  simpa using this

/-- What is told of unknown numbers, one by one. -/
def Told (σ : Nat → Value) (e : BinOp × V × V × V) : Prop := ∃ k n j c r, numOf σ e.2.1 = some (.int k n) ∧ numOf σ e.2.2.1 = some (.int j c) ∧ (e.1 = .lss → j = k) ∧ binV [] e.1 (.int k n) (.int j c) = some r ∧
  ((∃ i m, r = .int i m ∧ numOf σ e.2.2.2 = some (.int i m)) ∨ ∃ b, r = .bool b ∧ numOf σ e.2.2.2 = some (.bool b))

theorem look_mem {op : BinOp} {x y r : V} : ∀ {tab : Tab}, tab.look op x y = some r → (op, x, y, r) ∈ tab
  | [], h => by cases h
  | (o, a, b, z) :: l, h => by
    simp only [Tab.look] at h
    rw [cond_eq_ite] at h; split at h
    case isFalse => exact List.mem_cons_of_mem _ (look_mem h)
    rename_i e1
    rw [cond_eq_ite] at h; split at h
    case isFalse => exact List.mem_cons_of_mem _ (look_mem h)
    rename_i e2
    rw [cond_eq_ite] at h; split at h
    case isFalse => exact List.mem_cons_of_mem _ (look_mem h)
    rename_i e3
    cases h
    have e1 : o = op := by cases o <;> cases op <;> first | rfl | cases e1
    rw [← e1, ← same_eq e2, ← same_eq e3]
    exact List.mem_cons_self

theorem tab_of {σ : Nat → Value} {tab : Tab} (h : ∀ e, e ∈ tab → Told σ e) : TabOk P σ tab := by
  intro op x y r u1 u2 h1 h2 h3
  obtain ⟨k, n, j, c, q, t1, t2, t5, t3, t4⟩ := h _ (look_mem h1)
  simp only at t1 t2 t3 t4 t5
  rw [h2] at t1; cases t1
  rw [h3] at t2; cases t2
  have hemb : TabOk P (⟨fun _ => none, σ⟩ : Emb).sym [] := fun _ _ _ _ _ _ h => by cases h
  obtain ⟨u, r1, r2⟩ := bin_ok (φ := ⟨fun _ => none, σ⟩) hemb (.int k n) (.int j c) t3
  have hu : numOf σ r = some u := by
    rcases t4 with ⟨i, m, rfl, t4⟩ | ⟨b, rfl, t4⟩
    · cases r1; exact t4
    · cases r1; exact t4
  refine ⟨⟨k, n, rfl, fun e => ⟨c, by rw [t5 e]⟩⟩, u, hu, fun t w => ?_⟩
  have := r2 t (.const undef) (.const undef) w
  rw [guard_int] at this
  simpa using this

/-- One of two numbers. -/
def two (x y : Value) : Nat → Value
  | 0 => x
  | _ + 1 => y

theorem and_small {a0 : Int} {m : Nat} (hm : m < 65536) : binV [] .and (.int .i64 a0) (.int .i64 (.ofNat m)) = some (.int .i64 (.ofNat (Nat.land (toU .i64 a0) m))) := by
  have hle : Nat.land (toU .i64 a0) m ≤ m := Nat.and_le_right
  have h1 : binV [] .and (.int .i64 a0) (.int .i64 (.ofNat m)) = some (.int .i64 (wr .i64 (.ofNat (Nat.land (toU .i64 a0) (toU .i64 (.ofNat m)))))) := rfl
  have h2 : toU .i64 (.ofNat m) = m := by
    show m % 18446744073709551616 = m
    omega
  rw [h1, h2]
  generalize Nat.land (toU .i64 a0) m = q at hle
  have h3 : wr .i64 (.ofNat q) = .ofNat q := by
    show cond (Nat.blt q 9223372036854775808) (Int.ofNat q) (wrS .i64 (.ofNat q)) = _
    rw [show Nat.blt q 9223372036854775808 = true from nblt.2 (by omega)]
    rfl
  rw [h3]

/-- A law of a number of which a few bits count, and of them what is left over by N: N runs. -/
theorem forms (hm : P.follows .mixedOrders = true) {mach : Tab → Prog} (hp : ∀ t, Valid P (mach t)) {ints : List Nat} (he : ∀ t, (mach t).env = ⟨t, ints⟩) (hints : IntsOk P ints) {ext : Ext} (hrx : Rises ext) (hx : ∀ t, CallOk P ⟨t, ints⟩ ext)
    {f n m N : Nat} (hmm : m < 65536) (hN : 0 < N) (hen : entered P f = true)
    (hall : ∀ r : Fin N, runs (mach [(.and, .sym 0, .int .i64 (.ofNat m), .sym 1), (.rem, .sym 1, .int .i64 (.ofNat N), .int .i64 (.ofNat r.val))]) ext n f [.sym 0] P.globals.size = true) (a0 : Int) (w : World) :
    Calls P f #[.int .i64 a0] w fun e w' => e = .returned (.bool true) ∧ w.keptBut w' (fun _ => False) := by
  have h1 := and_small (a0 := a0) hmm
  generalize Nat.land (toU .i64 a0) m = q at h1
  have h2 : binV [] .rem (.int .i64 (.ofNat q)) (.int .i64 (.ofNat N)) = some (.int .i64 (.ofNat (q % N))) := by
    show cond (ieq (.ofNat N) (.ofNat 0)) none (some (V.int .i64 (Int.tmod (.ofNat q) (.ofNat N)))) = _
    have : ieq (.ofNat N) (.ofNat 0) = false := by
      cases h : ieq (.ofNat N) (.ofNat 0) with
      | false => rfl
      | true => rw [ieq_iff] at h; exfalso; have : (N : Int) = 0 := h; omega
    rw [this]
    rfl
  have ht : TabOk P (two (.int .i64 a0) (.int .i64 (.ofNat q))) [(.and, .sym 0, .int .i64 (.ofNat m), .sym 1), (.rem, .sym 1, .int .i64 (.ofNat N), .int .i64 (.ofNat (q % N)))] := tab_of fun e hmem => by
    rcases List.mem_cons.1 hmem with rfl | hmem
    · exact ⟨_, _, _, _, _, rfl, rfl, fun e => (by cases e), h1, .inl ⟨_, _, rfl, rfl⟩⟩
    · rcases List.mem_cons.1 hmem with rfl | hmem
      · exact ⟨_, _, _, _, _, rfl, rfl, fun e => (by cases e), h2, .inl ⟨_, _, rfl, rfl⟩⟩
      · cases hmem
  refine top hm (hp _) hrx (by rw [he]; exact hx _) (two (.int .i64 a0) (.int .i64 (.ofNat q))) (fun i => by cases i <;> exact ⟨_, _, rfl⟩) (by rw [he]; exact ht) (by rw [he]; exact hints) hen (hall ⟨q % N, Nat.mod_lt _ hN⟩) ?_ w
  exact .cons _ _ _ _ (.sym 0) .nil

/-- Old places are as they were: what a law's row asks whose arguments bear no places. -/
theorem post_plain {H : Type} {enc : TypeId × Value → H} {P : Program} {f : Func} {s : ChangeSpec} {apart fresh handsOn again : Bool} {W W' : World} {args : Array Value} {v : Value} {ds gs : List (DataW H)}
    (hW : DataW.Whole enc P f.params.toList s.vars apart W args.toList ds gs [])
    (hres : ∀ (b : Nat) (sp : Nat → Bool) (hd : Bool), DataW.TrodAll enc P W' b sp hd f.resultTypes.toList (v.resultList f.resultTypes.size) (s.fn H (ds ++ gs)).results [])
    (hargs : ∀ sp : Nat → Bool, DataW.TrodAll enc P W' 0 sp true f.params.toList args.toList (s.fn H (ds ++ gs)).args [])
    (hvars : ∀ sp : Nat → Bool, DataW.TrodVars enc P W' sp s.vars (s.fn H (ds ++ gs)).vars [])
    (hk : W.keptBut W' (fun _ => False))
    (hok : ∀ (j : Nat) (t : TypeId) (r : Value), f.resultTypes[j]? = some t → (v.resultList f.resultTypes.size)[j]? = some r → Value.okWide P W' .any 0 t r) :
    s.post enc P f apart fresh handsOn again W args v W' := by
  have ha := Go.ChangeShapes.trodAll_append (hargs (fun _ => true)) (hres 0 (fun _ => true) true)
  refine ⟨ds, gs, [], [], [], [], hW, hres _ _ _, hargs _, hvars _, World.keptBut_mono (fun p hp => hp.elim) hk, fun _ => ⟨hok, _, _, [], ⟨[], [], ha, hvars _, rfl, fun b off hp => (by cases hp), fun _ => (by simp)⟩, fun p hp _ => hp⟩⟩

end Go.Vm
