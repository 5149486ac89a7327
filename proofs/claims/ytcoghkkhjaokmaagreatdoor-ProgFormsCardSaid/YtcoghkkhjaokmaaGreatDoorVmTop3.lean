/-
  Vm, part 40: laws of several arguments: numbers, bools, and slices of numbers that are only read (they may share memory).
-/
import Derived.Test.YtcoghkkhjaokmaaGreatDoorVmTop2
namespace Go.Vm
open Go.RowKit

variable {P : Program}

/-- Numbers of a kind in a slice. -/
def NumsV (j : IntKind) (h : Hp) (s : V) (xs : List Int) : Prop :=
  ((s = .nilslice ∨ ∃ b o c ex, s = .slice b o 1 0 c ex) ∧ xs = []) ∨ ∃ b o c ex l ro, s = .slice b o 1 xs.length c ex ∧ h.blk b = .cells l ro ∧ xs.length ≤ c ∧ ∀ i x, xs[i]? = some x → l[o + i]? = some (.int j x)

theorem NumsV.mono {j : IntKind} {h h' : Hp} {s : V} {xs : List Int} (hs : NumsV j h s xs) (hk : ∀ x, s.hasB x → h'.blk x = h.blk x) : NumsV j h' s xs := by
  rcases hs with h1 | ⟨b, o, c, ex, l, ro, rfl, h2, h3⟩
  · exact .inl h1
  · exact .inr ⟨b, o, c, ex, l, ro, rfl, by rw [hk b rfl, h2], h3⟩

/-- What an argument is. -/
inductive Arg where
  | int (k : IntKind) (n : Int)
  | bool (b : Bool)
  | nums (k : IntKind) (xs : List Int)

inductive ArgK where
  | int (k : IntKind)
  | bool
  | nums (k : IntKind)

def Arg.kind : Arg → ArgK
  | .int k _ => .int k
  | .bool _ => .bool
  | .nums k _ => .nums k

/-- An argument's value in the small machine. -/
def ArgV (h : Hp) : Arg → V → Prop
  | .int k n, v => v = .int k n ∧ (Lit.int k n).wf = true
  | .bool b, v => v = .bool b
  | .nums k xs, v => NumsV k h v xs ∧ (∀ x, x ∈ xs → (Lit.int k x).wf = true) ∧ xs.length ≤ maxLen ∧ ∀ x, v.hasB x → x < h.next

theorem ArgV.mono {h h' : Hp} {a : Arg} {v : V} (ha : ArgV h a v) (hn : h.next ≤ h'.next) (hk : ∀ x, x < h.next → h'.blk x = h.blk x) : ArgV h' a v := by
  cases a with
  | int k n => exact ha
  | bool b => exact ha
  | nums k xs => exact ⟨ha.1.mono fun x hx => hk x (ha.2.2.2 x hx), ha.2.1, ha.2.2.1, fun x hx => Nat.lt_of_lt_of_le (ha.2.2.2 x hx) hn⟩

/-- The arguments, one by one. -/
inductive ArgsV (h : Hp) : List Arg → List V → Prop
  | nil : ArgsV h [] []
  | cons {a : Arg} {v : V} {as : List Arg} {vs : List V} (ha : ArgV h a v) (has : ArgsV h as vs) : ArgsV h (a :: as) (v :: vs)

def kindOk (P : Program) (t : TypeId) : ArgK → Prop
  | .int k => P.underlying t = some (.int k)
  | .bool => P.underlying t = some .bool
  | .nums k => ∃ e, P.underlying t = some (.slice e) ∧ P.underlying e = some (.int k) ∧ P.cellsOf e = 1

inductive KindsOk (P : Program) : List TypeId → List ArgK → Prop
  | nil : KindsOk P [] []
  | cons {t : TypeId} {k : ArgK} {ts : List TypeId} {ks : List ArgK} (h : kindOk P t k) (hs : KindsOk P ts ks) : KindsOk P (t :: ts) (k :: ks)

/-- A heap of nothing but blocks that are only read. -/
structure Bare (P : Program) (φ : Emb) (h : Hp) (w : World) : Prop where
  hr : HR φ h w
  ro : ∀ b, (h.blk b).open_ = false
  fr : ∀ b, h.next ≤ b → φ.at_ b = none
  gl : ∀ g, g < P.globals.size → ∃ x, φ.at_ g = some ⟨g, 0, x⟩
  sy : φ.sym = fun _ => .int .i64 0
  nx : P.globals.size ≤ h.next

theorem Bare.start {w : World} : Bare P (emb0 P fun _ => .int .i64 0) (h00 P.globals.size) w where
  hr := ⟨fun b hb => (by rw [blk_h00] at hb; cases hb), fun b b' pl pl' hb => (by rw [blk_h00] at hb; cases hb), fun b _ => blk_h00 _ b⟩
  ro b := by rw [blk_h00]; rfl
  fr b h1 := by
    show (if b < P.globals.size then some (⟨b, 0, 0⟩ : Place) else none) = _
    have h1 : P.globals.size ≤ b := h1
    rw [if_neg (by omega)]
  gl g hg := ⟨0, by show (if g < P.globals.size then _ else _) = _; rw [if_pos hg]⟩
  sy := rfl
  nx := Nat.le_refl _

theorem rowK_get (k : IntKind) : ∀ (l : List Int) (i : Nat) (v : V), (l.map (V.int k))[i]? = some v → v = .int k (l.getD i 0) ∧ i < l.length := by
  intro l i v h
  rw [List.getElem?_map] at h
  cases e : l[i]? with
  | none => rw [e] at h; cases h
  | some x =>
    rw [e] at h
    cases h
    exact ⟨by rw [List.getD_eq_getElem?_getD, e]; rfl, (List.getElem?_eq_some_iff.1 e).1⟩

/-- A block more, that is only read. -/
theorem Bare.row {φ : Emb} {h : Hp} {w : World} (hb : Bare P φ h w) {k : IntKind} {b off : Nat} {c : Array Value} {ee : TypeId} {fz : Nat × Nat} (zs : List Int) (hc : w.heap[b]? = some (.cells c ee fz)) (hsz : off + zs.length ≤ c.size)
    (hcell : ∀ i, i < zs.length → c[off + i]? = some (.int k (zs.getD i 0))) :
    Bare P ⟨fun x => if x = h.next then some ⟨b, off, zs.length⟩ else φ.at_ x, φ.sym⟩ (h.new (.cells (zs.map (V.int k)) true)) w ∧ φ.Le ⟨fun x => if x = h.next then some ⟨b, off, zs.length⟩ else φ.at_ x, φ.sym⟩ := by
  have hle : φ.Le ⟨fun x => if x = h.next then some ⟨b, off, zs.length⟩ else φ.at_ x, φ.sym⟩ := ⟨fun x pl e => by
    show (if x = h.next then _ else φ.at_ x) = _
    rw [if_neg (fun e' => by rw [e', hb.fr _ (Nat.le_refl _)] at e; cases e)]
    exact e, rfl⟩
  have hro : ∀ x, ((h.new (.cells (zs.map (V.int k)) true)).blk x).open_ = false := fun x => by
    rw [blk_new]
    split
    · rfl
    · exact hb.ro x
  refine ⟨⟨⟨fun x hx => ?_, fun x x' q q' _ _ ho => ?_, fun x hx => ?_⟩, hro, fun x hx => ?_, fun g hg => ?_, hb.sy, Nat.le_succ_of_le hb.nx⟩, hle⟩
  · rw [blk_new] at hx ⊢
    by_cases e : x = h.next
    · rw [if_pos e]
      refine ⟨⟨b, off, zs.length⟩, by show (if x = h.next then _ else φ.at_ x) = _; rw [if_pos e], ?_⟩
      show CellsRo _ _ _ _
      refine ⟨by rw [List.length_map]; exact Nat.le_refl _, c, ee, fz, hc, hsz, fun i v hi => ?_⟩
      obtain ⟨rfl, hlt⟩ := rowK_get k zs i v hi
      exact ⟨_, hcell i hlt, .int _ _⟩
    · rw [if_neg e] at hx ⊢
      obtain ⟨q, h1, h2⟩ := hb.hr.lies x hx
      exact ⟨q, hle.at_ _ _ h1, h2.mono hle rfl⟩
  · rw [hro, hro] at ho
    rcases ho with e | e <;> cases e
  · have hx : h.next + 1 ≤ x := hx
    rw [blk_new, if_neg (by omega)]
    exact hb.hr.fresh x (by omega)
  · have hx : h.next + 1 ≤ x := hx
    show (if x = h.next then _ else φ.at_ x) = _
    rw [if_neg (by omega)]
    exact hb.fr x (by omega)
  · obtain ⟨y, e⟩ := hb.gl g hg
    exact ⟨y, hle.at_ _ _ e⟩

/-- One argument. -/
theorem Bare.arg {H : Type} {enc : TypeId × Value → H} {φ : Emb} {h : Hp} {w : World} (hb : Bare P φ h w) {t : TypeId} {k : ArgK} (hk : kindOk P t k) {r : Reach} {b0 : Nat} {u : Value} {d : DataW H} {ps : List MemPlace}
    (hval : Value.okWide P w r b0 t u) (hd : DataW.Trod enc P w 0 (fun _ => true) true t u d ps) :
    ∃ φ' h' a v, Bare P φ' h' w ∧ φ.Le φ' ∧ h.next ≤ h'.next ∧ (∀ x, x < h.next → h'.blk x = h.blk x) ∧ a.kind = k ∧ ArgV h' a v ∧ VR φ' v u := by
  cases k with
  | int k =>
    obtain ⟨n, rfl, _, _, hw⟩ := Go.ChangeShapes.open_int hk hval hd
    exact ⟨φ, h, .int k n, .int k n, hb, .refl φ, Nat.le_refl _, fun _ _ => rfl, rfl, ⟨rfl, hw⟩, .int k n⟩
  | bool =>
    obtain ⟨b, rfl, _⟩ := open_bool hk hval hd
    exact ⟨φ, h, .bool b, .bool b, hb, .refl φ, Nat.le_refl _, fun _ _ => rfl, rfl, rfl, .bool b⟩
  | nums k =>
    obtain ⟨e, ht, he, hc1⟩ := hk
    obtain ⟨a0, len, cap, rfl⟩ := Go.WideShapes.okWide_slice ht hval
    obtain ⟨fuel, hf⟩ := hd
    rcases Go.ChangeShapes.open_ints ht he hc1 hf with ⟨hcs, _⟩ | ⟨a, len', cap', zs, hcs, _, hl, hmx, hz, _, hcell, hwz⟩
    · simp [Value.cells] at hcs
      obtain ⟨rfl, rfl, rfl⟩ := hcs
      exact ⟨φ, h, .nums k [], .nilslice, hb, .refl φ, Nat.le_refl _, fun _ _ => rfl, rfl, ⟨.inl ⟨.inl rfl, rfl⟩, fun _ h => (by cases h), Nat.zero_le _, fun x hx => hx.elim⟩, .nilslice⟩
    · simp [Value.cells] at hcs
      obtain ⟨rfl, rfl, rfl⟩ := hcs
      simp at hz
      rcases Nat.eq_zero_or_pos cap with hc0 | hpos
      · subst hc0
        have hl0 : len = 0 := by omega
        subst hl0
        refine ⟨φ, { h with next := h.next + 1 }, .nums k [], .slice h.next 0 1 0 0 true, ?_, .refl φ, Nat.le_succ _, fun _ _ => rfl, rfl, ⟨.inl ⟨.inr ⟨_, _, _, _, rfl⟩, rfl⟩, fun _ h => (by cases h), Nat.zero_le _, fun x hx => ?_⟩,
          .slice h.next 0 1 0 0 true a 0 (fun hh => absurd hh (by omega)) (Nat.le_refl _) (Nat.zero_le _) (fun _ => rfl)⟩
        · exact ⟨⟨hb.hr.lies, hb.hr.apart, fun x hx => hb.hr.fresh x (Nat.le_of_succ_le hx)⟩, hb.ro, fun x hx => hb.fr x (Nat.le_of_succ_le hx), hb.gl, hb.sy, Nat.le_succ_of_le hb.nx⟩
        · have : x = h.next := hx
          subst this
          exact Nat.lt_succ_self _
      · obtain ⟨b, off, c, ee, fz, rfl, hbk, hsz, hc⟩ := cells_there (n := cap) (g := fun i => .int k (zs.getD i 0)) (fun i hi => hcell i (by omega)) hpos
        obtain ⟨hb', hle⟩ := hb.row zs hbk (by omega) (k := k) fun i hi => hc i (by omega)
        refine ⟨_, _, .nums k (zs.take len), .slice h.next 0 1 len cap true, hb', hle, Nat.le_succ _, fun x hx => by rw [blk_new, if_neg (by omega)], rfl, ⟨.inr ⟨h.next, 0, cap, true, zs.map (V.int k), true, ?_, by rw [blk_new, if_pos rfl], by rw [List.length_take]; omega, fun i x hi => ?_⟩, fun x hx => hwz x (List.take_subset _ _ hx), ?_, fun x hx => ?_⟩,
          .slice h.next 0 1 len cap true ⟨b, off, none⟩ cap (fun _ => ⟨⟨b, off, zs.length⟩, by show (if h.next = h.next then _ else _) = _; rw [if_pos rfl], rfl, fun e => by cases e⟩) hl (Nat.le_refl _) (fun _ => rfl)⟩
        · rw [List.length_take, Nat.min_eq_left (by omega)]
        · rw [List.getElem?_take] at hi
          split at hi
          · rw [Nat.zero_add, List.getElem?_map, hi]; rfl
          · cases hi
        · rw [List.length_take]; omega
        · have : x = h.next := hx
          subst this
          exact Nat.lt_succ_self _

/-- All arguments. -/
theorem Bare.args {H : Type} {enc : TypeId × Value → H} {w : World} {r : Reach} {b0 : Nat} : ∀ {ts : List TypeId} {ks : List ArgK} {us : List Value} {ds : List (DataW H)} {ps : List MemPlace} {φ : Emb} {h : Hp}, KindsOk P ts ks → Bare P φ h w →
    (∀ (j : Nat) t u, ts[j]? = some t → us[j]? = some u → Value.okWide P w r b0 t u) → DataW.TrodAll enc P w 0 (fun _ => true) true ts us ds ps →
    ∃ φ' h' as vs, Bare P φ' h' w ∧ φ.Le φ' ∧ h.next ≤ h'.next ∧ (∀ x, x < h.next → h'.blk x = h.blk x) ∧ as.map Arg.kind = ks ∧ ArgsV h' as vs ∧ VRs φ' vs us
  | [], _, us, ds, ps, φ, h, .nil, hb, _, htr => by
    cases us with
    | nil => exact ⟨φ, h, [], [], hb, .refl φ, Nat.le_refl _, fun _ _ => rfl, rfl, .nil, .nil⟩
    | cons u us => cases ds <;> exact htr.elim
  | t :: ts, _, us, ds, ps, φ, h, .cons (k := k) (ks := ks) hk hks, hb, hval, htr => by
    obtain ⟨u, us', d, ds', p, q, rfl, rfl, rfl, h1, h2⟩ := Go.ChangeShapes.trodAll_cons htr
    obtain ⟨φ1, g1, a, v, hb1, le1, n1, k1, e1, a1, r1⟩ := hb.arg hk (hval 0 t u rfl rfl) h1
    obtain ⟨φ2, g2, as, vs, hb2, le2, n2, k2, e2, a2, r2⟩ := Bare.args hks hb1 (fun j t u ht hu => hval (j + 1) t u ht hu) h2
    exact ⟨φ2, g2, a :: as, v :: vs, hb2, le1.trans le2, Nat.le_trans n1 n2, fun x hx => (k2 x (by omega)).trans (k1 x hx), by rw [List.map_cons, e1, e2], .cons (a1.mono n2 k2) a2, .cons _ _ _ _ (r1.mono le2) r2⟩

/-- A law of such arguments. -/
theorem top_args (hm : P.follows .mixedOrders = true) {p : Prog} (hp : Valid P p) {ext : Ext} (hrx : Rises ext) (hx : CallOk P p.env ext) (htab : p.env.tab = []) (hints : IntsOk P p.env.ints)
    {f : Nat} (hen : entered P f = true) {ts : List TypeId} {ks : List ArgK} (hks : KindsOk P ts ks)
    (hw : ∀ (h : Hp) (as : List Arg) (vs : List V), as.map Arg.kind = ks → ArgsV h as vs → P.globals.size ≤ h.next → WPc p ext f vs h fun v _ => v = .bool true)
    {H : Type} {enc : TypeId × Value → H} {w : World} {r : Reach} {b0 : Nat} {us : List Value} {ds : List (DataW H)} {ps : List MemPlace}
    (hval : ∀ (j : Nat) t u, ts[j]? = some t → us[j]? = some u → Value.okWide P w r b0 t u) (hd : DataW.TrodAll enc P w 0 (fun _ => true) true ts us ds ps) :
    Calls P f us.toArray w fun e w' => e = .returned (.bool true) ∧ Below w.heap.size w w' := by
  obtain ⟨φ, h, as, vs, hb, _, _, _, e, ha, hv⟩ := Bare.args hks (Bare.start (P := P) (w := w)) hval hd
  refine top_wp hm hp hrx hx hb.hr ⟨fun i => ⟨.i64, 0, by rw [hb.sy]⟩, hb.gl, by rw [htab]; exact fun _ _ _ _ _ _ h => (by cases h), hints⟩ hb.fr hb.ro hen hv (hw h as vs e ha hb.nx)

end Go.Vm
