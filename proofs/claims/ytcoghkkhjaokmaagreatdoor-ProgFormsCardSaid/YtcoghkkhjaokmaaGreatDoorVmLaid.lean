/-
  Vm, part 42: runs that begin where package-level variables hold what is told of them.
-/
import Derived.Test.YtcoghkkhjaokmaaGreatDoorVmTop3
import Derived.Handed
namespace Go.Vm
open Go.RowKit

variable {P : Program}

def tblAt : List (Nat × Blk) → Nat → Option Blk
  | [], _ => none
  | (g, l) :: t, b => cond (Nat.beq g b) (some l) (tblAt t b)

def laidT : List (Nat × Blk) → T Blk
  | [] => .leaf
  | (g, l) :: t => (laidT t).set g l

/-- The heap at the start: 'gs' variables, some of them told; k blocks more. -/
def laidH (gs k : Nat) (t : List (Nat × Blk)) : Hp := { next := gs + k, t := laidT t }

theorem blk_laidH {gs k : Nat} : ∀ (t : List (Nat × Blk)) (b : Nat), (laidH gs k t).blk b = match tblAt t b with
    | some l => l
    | none => .gone
  | [], b => by simp [laidH, laidT, Hp.blk, tblAt]
  | (g, l) :: t, b => by
    have ih := blk_laidH (gs := gs) (k := k) t b
    simp only [laidH, laidT, Hp.blk, T.get_set, tblAt, nbeq_d] at ih ⊢
    by_cases e : b = g
    · subst e; simp
    · rw [if_neg e, show decide (g = b) = false from decide_eq_false fun h => e h.symm]
      exact ih

def Blk.long : Blk → Nat
  | .cells l _ => l.length
  | _ => 0

/-- Where what is told lies; the blocks behind the variables lie at 'pls'. -/
def laidE (P : Program) (t : List (Nat × Blk)) (pls : List Place) (σ : Nat → Value) : Emb :=
  ⟨fun b => if b < P.globals.size then some ⟨b, 0, ((tblAt t b).getD .gone).long⟩ else pls[b - P.globals.size]?, σ⟩

/-- What is asked of the world. -/
def LaidW (P : Program) (φ : Emb) (w : World) (t : List (Nat × Blk)) : Prop :=
  ∀ g x, tblAt t g = some x → g < P.globals.size ∧ x.open_ = false ∧ BlkAt φ w ⟨g, 0, x.long⟩ x

theorem laid_ro {φ : Emb} {gs k : Nat} {t : List (Nat × Blk)} {w : World} (h : LaidW P φ w t) (b : Nat) : ((laidH gs k t).blk b).open_ = false := by
  rw [blk_laidH]
  cases e : tblAt t b with
  | none => rfl
  | some x => exact (h b x e).2.1

theorem laid_hr {t : List (Nat × Blk)} {pls : List Place} {σ : Nat → Value} {w : World} (h : LaidW P (laidE P t pls σ) w t) : HR (laidE P t pls σ) (laidH P.globals.size pls.length t) w := by
  refine ⟨fun b hb => ?_, fun b b' pl pl' _ _ ho => ?_, fun b hb => ?_⟩
  · rw [blk_laidH] at hb ⊢
    cases e : tblAt t b with
    | none => rw [e] at hb; cases hb
    | some l =>
      obtain ⟨h1, _, h2⟩ := h b l e
      refine ⟨⟨b, 0, l.long⟩, ?_, h2⟩
      show (if b < P.globals.size then _ else _) = _
      rw [if_pos h1, e]; rfl
  · rw [laid_ro h, laid_ro h] at ho
    rcases ho with e | e <;> cases e
  · rw [blk_laidH]
    cases e : tblAt t b with
    | none => rfl
    | some l =>
      have := (h b l e).1
      have hb : P.globals.size + pls.length ≤ b := hb
      omega

theorem laid_fr {t : List (Nat × Blk)} {pls : List Place} {σ : Nat → Value} (b : Nat) (hb : (laidH P.globals.size pls.length t).next ≤ b) : (laidE P t pls σ).at_ b = none := by
  have hb : P.globals.size + pls.length ≤ b := hb
  show (if b < P.globals.size then _ else _) = _
  rw [if_neg (by omega)]
  exact List.getElem?_eq_none (by omega)

theorem laid_gl {t : List (Nat × Blk)} {pls : List Place} {σ : Nat → Value} : (laidE P t pls σ).glOk P := fun g hg =>
  ⟨((tblAt t g).getD .gone).long, by show (if g < P.globals.size then _ else _) = _; rw [if_pos hg]⟩

/-- The heap behind the start for a general law. -/
theorem Bare.laid {t : List (Nat × Blk)} {pls : List Place} {w : World} (h : LaidW P (laidE P t pls fun _ => .int .i64 0) w t) : Bare P (laidE P t pls fun _ => .int .i64 0) (laidH P.globals.size pls.length t) w where
  hr := laid_hr h
  ro := laid_ro h
  fr := laid_fr
  gl := laid_gl
  sy := rfl
  nx := Nat.le_add_right _ _

/-- A law of numbers, bools, and slices of numbers, where variables hold what is told. -/
theorem top_args_laid (hm : P.follows .mixedOrders = true) {p : Prog} (hp : Valid P p) {ext : Ext} (hrx : Rises ext) (hx : CallOk P p.env ext) (htab : p.env.tab = []) (hints : IntsOk P p.env.ints)
    {f : Nat} (hen : entered P f = true) {ts : List TypeId} {ks : List ArgK} (hks : KindsOk P ts ks) {t : List (Nat × Blk)} {pls : List Place}
    (hw : ∀ (h : Hp) (as : List Arg) (vs : List V), as.map Arg.kind = ks → ArgsV h as vs → P.globals.size ≤ h.next → (∀ x, x < P.globals.size → h.blk x = (laidH P.globals.size pls.length t).blk x) → WPc p ext f vs h fun v _ => v = .bool true)
    {H : Type} {enc : TypeId × Value → H} {w : World} {r : Reach} {b0 : Nat} {us : List Value} {ds : List (DataW H)} {ps : List MemPlace} (hl : LaidW P (laidE P t pls fun _ => .int .i64 0) w t)
    (hval : ∀ (j : Nat) t u, ts[j]? = some t → us[j]? = some u → Value.okWide P w r b0 t u) (hd : DataW.TrodAll enc P w 0 (fun _ => true) true ts us ds ps) :
    Calls P f us.toArray w fun e w' => e = .returned (.bool true) ∧ Below w.heap.size w w' := by
  obtain ⟨φ, h, as, vs, hb, _, _, hk, e, ha, hv⟩ := Bare.args hks (Bare.laid hl) hval hd
  exact top_wp hm hp hrx hx hb.hr ⟨fun i => ⟨.i64, 0, by rw [hb.sy]⟩, hb.gl, by rw [htab]; exact fun _ _ _ _ _ _ h => (by cases h), hints⟩ hb.fr hb.ro hen hv (hw h as vs e ha hb.nx fun x hx => hk x (Nat.lt_of_lt_of_le hx (Nat.le_add_right _ _)))

/-! ### Runs -/

def runsL (p : Prog) (ext : Ext) (n f : Nat) (args : List V) (h : Hp) : Bool :=
  match call p ext n f args h with
  | some (.bool true, _) => true
  | _ => false

theorem top_laid (hm : P.follows .mixedOrders = true) {p : Prog} (hp : Valid P p) {ext : Ext} (hrx : Rises ext) (hx : CallOk P p.env ext) {σ : Nat → Value} (hσ : ∀ i, ∃ k n, σ i = .int k n) (htab : TabOk P σ p.env.tab) (hints : IntsOk P p.env.ints)
    {t : List (Nat × Blk)} {pls : List Place} {f n : Nat} {args : List V} {us : List Value} (hen : entered P f = true) (hv : runsL p ext n f args (laidH P.globals.size pls.length t) = true) {w : World} (hl : LaidW P (laidE P t pls σ) w t)
    (hargs : VRs (laidE P t pls σ) args us) : Calls P f us.toArray w fun e w' => e = .returned (.bool true) ∧ w.keptBut w' (fun _ => False) := by
  unfold runsL at hv
  split at hv
  case h_2 => cases hv
  rename_i h' hc
  have hok : EnvOk P (laidE P t pls σ) p.env := ⟨hσ, laid_gl, htab, hints⟩
  have hfr : Fresh (laidE P t pls σ) (laidH P.globals.size pls.length t).next h'.next := fun b h1 _ => laid_fr b h1
  have := call_ok hm hp hrx hx n (laidE P t pls σ) f args _ (.bool true) h' w us hc hok (laid_hr hl) hfr hargs
  rcases this with ⟨_, h2⟩ | ⟨u, ψ, w', h1, _⟩
  · refine h2.mono ?_
    rintro e w' ⟨u, ψ, rfl, r1, r2⟩
    cases r1
    exact ⟨rfl, keptBut_of r2.os r2.output fun k hk => r2.kept k hk fun b pl hb => by rw [laid_ro hl] at hb; cases hb⟩
  · rw [callFunc_entered hen] at h1
    cases h1

/-- A law of a number of which a few bits count, and of them what is left over by N. -/
theorem forms_laid (hm : P.follows .mixedOrders = true) {mach : Tab → Prog} (hp : ∀ t, Valid P (mach t)) {ints : List Nat} (he : ∀ t, (mach t).env = ⟨t, ints⟩) (hints : IntsOk P ints) {ext : Ext} (hrx : Rises ext) (hx : ∀ t, CallOk P ⟨t, ints⟩ ext)
    {t : List (Nat × Blk)} {pls : List Place} {f n m N : Nat} (hmm : m < 65536) (hN : 0 < N) (hen : entered P f = true)
    (hall : ∀ r : Fin N, runsL (mach [(.and, .sym 0, .int .i64 (.ofNat m), .sym 1), (.rem, .sym 1, .int .i64 (.ofNat N), .int .i64 (.ofNat r.val))]) ext n f [.sym 0] (laidH P.globals.size pls.length t) = true) (a0 : Int) {w : World}
    (hl : ∀ σ, LaidW P (laidE P t pls σ) w t) :
    Calls P f #[.int .i64 a0] w fun e w' => e = .returned (.bool true) ∧ w.keptBut w' (fun _ => False) := by
  have h1 := and_small (a0 := a0) hmm
  generalize Nat.land (toU .i64 a0) m = q at h1
  have h2 : binV [] .rem (.int .i64 (.ofNat q)) (.int .i64 (.ofNat N)) = some (.int .i64 (.ofNat (q % N))) := by
    show cond (ieq (.ofNat N) (.ofNat 0)) none (some (V.int .i64 (Int.tmod (.ofNat q) (.ofNat N)))) = _
    have : ieq (.ofNat N) (.ofNat 0) = false := by
      cases h : ieq (.ofNat N) (.ofNat 0) with
      | false => rfl
      | true => rw [ieq_iff] at h; exfalso; have : (N : Int) = 0 := h; omega
    rw [this]
    rfl
  have ht : TabOk P (two (.int .i64 a0) (.int .i64 (.ofNat q))) [(.and, .sym 0, .int .i64 (.ofNat m), .sym 1), (.rem, .sym 1, .int .i64 (.ofNat N), .int .i64 (.ofNat (q % N)))] := tab_of fun e hmem => by
    rcases List.mem_cons.1 hmem with rfl | hmem
    · exact ⟨_, _, _, _, _, rfl, rfl, fun e => (by cases e), h1, .inl ⟨_, _, rfl, rfl⟩⟩
    · rcases List.mem_cons.1 hmem with rfl | hmem
      · exact ⟨_, _, _, _, _, rfl, rfl, fun e => (by cases e), h2, .inl ⟨_, _, rfl, rfl⟩⟩
      · cases hmem
  refine top_laid hm (hp _) hrx (by rw [he]; exact hx _) (σ := two (.int .i64 a0) (.int .i64 (.ofNat q))) (fun i => by cases i <;> exact ⟨_, _, rfl⟩) (by rw [he]; exact ht) (by rw [he]; exact hints) hen (hall ⟨q % N, Nat.mod_lt _ hN⟩) (hl _) ?_
  exact .cons _ _ _ _ (.sym 0) .nil

/-! ### The row's step, where variables are laid -/

theorem handed_laid {H : Type} {enc : TypeId × Value → H} {a : Assume} {C : Checked} {os : Os} {f : FuncId} {fn : Func} {s : ChangeSpec} {conds : List PathCond} {apart fresh handsOn again : Bool} {X : World → Array Value → Prop}
    (hX : ∀ (w w' : World) (args : Array Value), w.heap = w'.heap → X w args → X w' args)
    (own : ownKnob C.prog.godebug = none) (started : os.Started) (noInit : C.prog.inits.idxOf? f = none) (hfn : C.prog.funcs[f]? = some fn)
    (witness : ∃ (w : World) (tape : Tape) (i : Input), w.os = os ∧ (w.forCall tape i).Shaped C.prog ∧ i.vars = [] ∧ Input.okWide C.prog (w.forCall tape i) .any w.heap.size f i ∧
      ((s.pre enc C.prog fn conds apart (w.forCall tape i).memory i.args ∧ X (w.forCall tape i).memory i.args) ∧ sizedMet enc C.prog fn (OpenSpec.ofChange s) apart (w.forCall tape i).memory i.args) ∧ a.holds C.prog (lone (Frame.enter C.prog f i.args .normal) [] (w.forCall tape i)))
    (contract : ∀ (W : World) (base : Nat) (args : Array Value) (ds gs : List (DataW H)) (before : List MemPlace),
      (∀ (j : Nat) t v, fn.params[j]? = some t → args[j]? = some v → Value.okWide C.prog W .any base t v) →
      DataW.Whole enc C.prog fn.params.toList s.vars apart W args.toList ds gs before → W.ShapedOpen C.prog → X W args →
      Calls C.prog f args W fun e W' => ∃ v, e = .returned v ∧ s.post enc C.prog fn apart fresh handsOn again W args v W') :
    ReturnsInHanded a C os f .any (fun w args => (s.pre enc C.prog fn conds apart w args ∧ X w args) ∧ sizedMet enc C.prog fn (OpenSpec.ofChange s) apart w args) (s.post enc C.prog fn apart fresh handsOn again) := by
  refine returnsInHanded_of_calls own started noInit witness ?_
  intro w tape i _ hsh _ hok hpre _
  obtain ⟨_, _, _, fn', hfn', _, _, _, _, hval⟩ := hok
  obtain rfl : fn' = fn := Option.some.inj (hfn'.symm.trans hfn)
  obtain ⟨⟨⟨ds, gs, before, hw, _⟩, hx⟩, _⟩ := hpre
  refine (contract (w.forCall tape i) w.heap.size i.args ds gs before hval (DataW.Whole.of_heap (by rfl) hw) hsh (hX _ _ _ (by rfl) hx)).mono fun e W' ⟨v, he, hp⟩ => ?_
  subst he
  exact ChangeSpec.post_blind hp

/-! ### What is laid, one by one -/

theorem var_heap {W : World} {n : String} {g : Nat} {cs : Array Value} (hg : P.globalNamed n = some g) (h : W.var? P n = some cs) : ∃ e fz, W.heap[g]? = some (.cells cs e fz) := by
  unfold World.var? at h
  rw [hg] at h
  simp only [Option.bind_some] at h
  split at h
  · rename_i e fz hh
    cases h
    exact ⟨_, _, hh⟩
  · cases h

theorem laid_int {φ : Emb} {W : World} {g : Nat} {k : IntKind} {m : Int} (h : W.cell? ⟨g, 0, none⟩ = some (.int k m)) : BlkAt φ W ⟨g, 0, 1⟩ (.cells [.int k m] true) := by
  unfold World.cell? at h
  split at h
  · rename_i c e fz hh
    simp at h
    obtain ⟨hl, h⟩ := Array.getElem?_eq_some_iff.1 h
    have hl : 0 < c.size := hl
    refine ⟨Nat.le_refl _, c, e, fz, hh, by simp; omega, fun i v hi => ?_⟩
    cases i with
    | zero => cases hi; exact ⟨_, by rw [Array.getElem?_eq_getElem hl, h], .int k m⟩
    | succ i => simp at hi
  · cases h

theorem laid_err {φ : Emb} {W : World} {n : String} {g b : Nat} {tp : TypeId} {a : Addr} {s : Value} (hg : P.globalNamed n = some g) (h : W.var? P n = some #[.iface tp (.pointer (some a))]) (hs : W.cell? a = some s) (hb : φ.at_ b = some ⟨a.block, a.off, 0⟩) :
    BlkAt φ W ⟨g, 0, 1⟩ (.cells [.iface tp (.ptr b 0)] true) := by
  obtain ⟨e, fz, hh⟩ := var_heap hg h
  have ha : a = ⟨a.block, a.off + 0, none⟩ := by
    unfold World.cell? at hs
    split at hs
    · split at hs
      · cases hs
      · rename_i hn
        obtain ⟨x, y, z⟩ := a
        simp at hn
        subst hn
        rfl
    · cases hs
  refine ⟨Nat.le_refl _, _, e, fz, hh, by simp, fun i v hi => ?_⟩
  cases i with
  | zero =>
    cases hi
    refine ⟨_, rfl, .iface _ _ _ ?_⟩
    rw [ha]
    exact .ptr b 0 ⟨a.block, a.off, 0⟩ hb
  | succ i => simp at hi

end Go.Vm
