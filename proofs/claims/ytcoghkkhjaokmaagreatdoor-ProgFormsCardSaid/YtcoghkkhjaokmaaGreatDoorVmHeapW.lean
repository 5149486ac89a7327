/-
  Vm, part 34: the heap, for simp: blocks by number.
-/
import Derived.Test.YtcoghkkhjaokmaaGreatDoorVmWalk
namespace Go.Vm

def cellAt : Blk → Nat → Option V
  | .cells l _, o => l[o]?
  | _, _ => none

theorem takeX_one {l : List V} {o : Nat} : takeX 1 (l.drop o) = (l[o]?).map fun v => [v] := by
  cases e : l.drop o with
  | nil =>
    have : l.length ≤ o := by simpa using e
    rw [List.getElem?_eq_none (by omega)]
    rfl
  | cons v r =>
    have : l[o]? = some v := by
      have := List.getElem?_drop (xs := l) (i := o) (j := 0)
      rw [e] at this
      simpa using this.symm
    rw [this]
    rfl

theorem at1_eq {h : Hp} {b o : Nat} : h.at1 b o = cellAt (h.blk b) o := by
  unfold Hp.at1 Hp.read
  cases h.blk b with
  | cells l ro =>
    simp only [takeX_one, cellAt]
    cases l[o]? <;> rfl
  | map kk l => rfl
  | gone => rfl
  | whole l => rfl

theorem cellAt_cells {l : List V} {ro : Bool} {o : Nat} : cellAt (.cells l ro) o = l[o]? := rfl

theorem read_cells {h : Hp} {b o n : Nat} {l : List V} {ro : Bool} (hb : h.blk b = .cells l ro) (hn : o + n ≤ l.length) : h.read b o n = some ((l.drop o).take n) := by
  unfold Hp.read
  rw [hb]
  exact takeX_of (by simp; omega)

theorem write_cells {h : Hp} {b o : Nat} {vs l : List V} (hb : h.blk b = .cells l false) (hn : o + vs.length ≤ l.length) (hf : allFlat vs = true) : h.write b o vs = some (h.put b (.cells (splice l o vs) false)) := by
  unfold Hp.write
  rw [hb]
  simp only
  rw [show Nat.ble (o + vs.length) l.length = true from nble.2 hn, hf]
  rfl

theorem put_next {h : Hp} {b : Nat} {x : Blk} : (h.put b x).next = h.next := rfl
theorem new_next {h : Hp} {x : Blk} : (h.new x).next = h.next + 1 := rfl

theorem natOf_cast {k : IntKind} {n : Nat} : natOf (.int k (n : Int)) = some n := rfl
theorem natOf_lit {k : IntKind} {n : Nat} : natOf (.int k (@OfNat.ofNat Int n _)) = some n := rfl
theorem natOf_zero {k : IntKind} : natOf (.int k 0) = some 0 := rfl
theorem natOf_one {k : IntKind} : natOf (.int k 1) = some 1 := rfl
theorem natOf_nonneg {k : IntKind} {i : Int} (h : 0 ≤ i) : natOf (.int k i) = some i.toNat := by
  cases i with
  | ofNat n => rfl
  | negSucc n => exact absurd h (by simp)

theorem blt_d {a b : Nat} : Nat.blt a b = decide (a < b) := by rw [Bool.eq_iff_iff, nblt, decide_eq_true_iff]
theorem ble_d {a b : Nat} : Nat.ble a b = decide (a ≤ b) := by rw [Bool.eq_iff_iff, nble, decide_eq_true_iff]
theorem beq_d {a b : Nat} : Nat.beq a b = decide (a = b) := by rw [Bool.eq_iff_iff, nbeq, decide_eq_true_iff]

theorem allFlat_cons {v : V} {l : List V} : allFlat (v :: l) = (v.flat && allFlat l) := by
  simp only [allFlat]; cases v.flat <;> rfl
theorem allFlat_append : ∀ {a b : List V}, allFlat (a ++ b) = (allFlat a && allFlat b)
  | [], b => rfl
  | v :: a, b => by rw [List.cons_append, allFlat_cons, allFlat_cons, allFlat_append, Bool.and_assoc]
theorem allFlat_all : ∀ {l : List V}, allFlat l = l.all V.flat
  | [] => rfl
  | v :: l => by rw [allFlat_cons, allFlat_all]; rfl

/-! ### What was read is still there -/

mutual
theorem same_self : ∀ v : V, V.same v v = true
  | .bool b => by cases b <;> rfl
  | .int k n => by simp only [V.same, keq_self, cond_true, ieq_iff]
  | .sym i => by simp only [V.same, nbeq]
  | .str l => by
    have : ∀ l, neqs l l = true := fun l => by induction l with
      | nil => rfl
      | cons a l ih => simp only [neqs, show Nat.beq a a = true from nbeq.2 rfl, cond_true, ih]
    exact this l
  | .nilptr => rfl
  | .ptr b o => by simp only [V.same, show ∀ n, Nat.beq n n = true from fun n => nbeq.2 rfl, cond_true]
  | .nilslice => rfl
  | .slice b o sz len c e => by cases e <;> simp only [V.same, show ∀ n, Nat.beq n n = true from fun n => nbeq.2 rfl, cond_true] <;> rfl
  | .nilmap => rfl
  | .map b => by simp only [V.same, nbeq]
  | .func f a c => by simp only [V.same, show Nat.beq f f = true from nbeq.2 rfl, cond_true, sames_self a, sames_self c]
  | .nilfunc => rfl
  | .niliface => rfl
  | .iface t v => by simp only [V.same, show Nat.beq t t = true from nbeq.2 rfl, cond_true, same_self v]
  | .agg l => by simp only [V.same, sames_self l]
  | .tup l => by simp only [V.same, sames_self l]
theorem sames_self : ∀ l : List V, V.sames l l = true
  | [] => rfl
  | v :: l => by simp only [V.sames, same_self v, cond_true, sames_self l]
end

theorem sames_iff {a b : List V} : V.sames a b = true ↔ b = a := ⟨fun h => (sames_eq h).symm, fun h => by rw [h]; exact sames_self a⟩

theorem stillAt_one {lo hi b o : Nat} {v : V} {h : Hp} : stillAt ⟨lo, hi, b, o, [v]⟩ h = true ↔ cellAt (h.blk b) o = some v := by
  rw [← at1_eq, Hp.at1_iff]
  simp only [stillAt, List.length_singleton]
  cases e : h.read b o 1 with
  | none => simp
  | some l => simp only [sames_iff, Option.some.injEq]

theorem stillAt_many {lo hi b o : Nat} {l : List V} {h : Hp} : stillAt ⟨lo, hi, b, o, l⟩ h = true ↔ h.read b o l.length = some l := by
  simp only [stillAt]
  cases e : h.read b o l.length with
  | none => simp
  | some r => simp only [sames_iff, Option.some.injEq]

theorem stillAll_cons {r : Rd} {c : Nat} {h : Hp} {st : List (Nat × Hp)} : stillAll r ((c, h) :: st) = true ↔ (r.lo ≤ c → c ≤ r.hi → stillAt r h = true) ∧ stillAll r st = true := by
  simp only [stillAll]
  rw [cond_eq_ite, nble_d]
  by_cases h1 : r.lo ≤ c
  · rw [if_pos (decide_eq_true h1), cond_eq_ite, nble_d]
    by_cases h2 : c ≤ r.hi
    · rw [if_pos (decide_eq_true h2), cond_eq_ite]
      by_cases h3 : stillAt r h = true
      · rw [if_pos h3]; simp [h3]
      · rw [if_neg h3]; simp [h1, h2, h3]
    · rw [if_neg (by simpa using h2)]; simp [h2]
  · rw [if_neg (by simpa using h1)]; simp [h1]
theorem stillAll_nil {r : Rd} : stillAll r [] = true := rfl
theorem allStill_cons {r : Rd} {l : List Rd} {st : List (Nat × Hp)} : allStill st (r :: l) = true ↔ stillAll r st = true ∧ allStill st l = true := by
  simp only [allStill]
  rw [cond_eq_ite]
  by_cases h : stillAll r st = true
  · rw [if_pos h]; simp [h]
  · rw [if_neg h]; simp [h]
theorem allStill_nil {st : List (Nat × Hp)} : allStill st [] = true := rfl

attribute [simp] stillAt_one stillAt_many stillAll_cons stillAll_nil allStill_cons allStill_nil

/-! ### Slices that grow -/

/-- A slice of one's own whose block is just as long as it is. -/
def Own (h : Hp) (sz : Nat) (s : V) (n : Nat) (l : List V) : Prop :=
  (s = .nilslice ∧ n = 0 ∧ l = []) ∨ ∃ b, s = .slice b 0 sz n n false ∧ h.blk b = .cells l false ∧ l.length = n * sz ∧ 0 < n

/-- The block that it owns. -/
def V.hasB (x : Nat) : V → Prop
  | .slice b _ _ _ _ _ => x = b
  | .ptr b _ => x = b
  | _ => False

/-- Nothing but the blocks of S, of those there were, has turned. -/
def Chg (S : Nat → Prop) (h h' : Hp) : Prop := h.next ≤ h'.next ∧ ∀ x, x < h.next → ¬ S x → h'.blk x = h.blk x

theorem Chg.refl {S : Nat → Prop} {h : Hp} : Chg S h h := ⟨Nat.le_refl _, fun _ _ _ => rfl⟩
theorem Chg.trans {S T : Nat → Prop} {h h1 h2 : Hp} (a : Chg S h h1) (b : Chg T h1 h2) (hT : ∀ x, x < h.next → T x → S x) : Chg S h h2 :=
  ⟨Nat.le_trans a.1 b.1, fun x hx hs => (b.2 x (Nat.lt_of_lt_of_le hx a.1) fun ht => hs (hT x hx ht)).trans (a.2 x hx hs)⟩
theorem Chg.mono {S T : Nat → Prop} {h h1 : Hp} (a : Chg S h h1) (hT : ∀ x, x < h.next → S x → T x) : Chg T h h1 := ⟨a.1, fun x hx hs => a.2 x hx fun k => hs (hT x hx k)⟩

theorem appendC_own {sz by_ : Nat} {h : Hp} {s : V} {n m : Nat} {l new : List V} (ho : Own h sz s n l) (_hm : 0 < m) (hr : roomy by_ (n + m) = true) (_hnew : new.length = m * sz) :
    ∃ h', appendC sz by_ h s m new = some (.slice h.next 0 sz (n + m) (n + m) false, h') ∧ h'.next = h.next + 1 ∧ h'.blk h.next = .cells (l ++ new) false ∧ (∀ x, s.hasB x → x ≠ h.next → h'.blk x = .gone) ∧ ∀ x, x ≠ h.next → ¬ s.hasB x → h'.blk x = h.blk x := by
  rcases ho with ⟨rfl, rfl, rfl⟩ | ⟨b, rfl, hb, hl, hn⟩
  · rw [Nat.zero_add] at hr
    refine ⟨h.new (.cells new false), by simp only [appendC, hr, cond_true, Nat.zero_add], rfl, by rw [blk_new, if_pos rfl]; rfl, fun x hx => hx.elim, fun x hx _ => by rw [blk_new, if_neg hx]⟩
  · have hread : h.read b 0 (n * sz) = some l := by
      rw [read_cells hb (by omega)]
      simp [← hl]
    refine ⟨(h.put b .gone).new (.cells (l ++ new) false), ?_, rfl, ?_, fun x hx hne => ?_, fun x hx hs => ?_⟩
    · simp only [appendC]
      rw [show Nat.beq sz sz = true from nbeq.2 rfl, show Nat.ble (n + m) n = false from by rw [nble_d]; exact decide_eq_false (by omega), hr, hread, hb]
      rfl
    · rw [blk_new, put_next, if_pos rfl]
    · have : x = b := hx
      subst this
      rw [blk_new, put_next, if_neg hne, blk_put, if_pos rfl]
    · have : x ≠ b := hs
      rw [blk_new, put_next, if_neg hx, blk_put, if_neg this]

theorem appendV_own {sz by_ : Nat} {h : Hp} {s x : V} {n m : Nat} {l new : List V} (ho : Own h sz s n l) (hlen : lenV x = some m) (hm : 0 < m) (hr : roomy by_ (n + m) = true) (hsrc : srcCells h sz m x = some new) (hf : allFlat new = true) (hnew : new.length = m * sz) :
    ∃ h', appendV sz by_ h s x = some (.slice h.next 0 sz (n + m) (n + m) false, h') ∧ h'.next = h.next + 1 ∧ h'.blk h.next = .cells (l ++ new) false ∧ (∀ x, s.hasB x → x ≠ h.next → h'.blk x = .gone) ∧ ∀ x, x ≠ h.next → ¬ s.hasB x → h'.blk x = h.blk x := by
  obtain ⟨h', e, r⟩ := appendC_own (by_ := by_) ho hm hr hnew
  refine ⟨h', ?_, r⟩
  obtain ⟨m', rfl⟩ : ∃ m', m = m' + 1 := ⟨m - 1, by omega⟩
  simp only [appendV, hlen, hsrc, hf, cond_true]
  exact e

theorem srcCells_slice {h : Hp} {sz n b o c : Nat} {ex : Bool} {l : List V} {ro : Bool} (hb : h.blk b = .cells l ro) (hl : o + n * sz ≤ l.length) : srcCells h sz n (.slice b o sz n c ex) = some ((l.drop o).take (n * sz)) := by
  simp only [srcCells]
  rw [show Nat.beq sz sz = true from nbeq.2 rfl, show Nat.ble n n = true from nble.2 (Nat.le_refl _)]
  exact read_cells hb hl

theorem Own.lenb {h : Hp} {sz n : Nat} {s : V} {l : List V} (ho : Own h sz s n l) : lenbV s = some (.int .i64 n) := by
  rcases ho with ⟨rfl, rfl, rfl⟩ | ⟨b, rfl, _⟩ <;> rfl

theorem Own.len {h : Hp} {sz n : Nat} {s : V} {l : List V} (ho : Own h sz s n l) : l.length = n * sz := by
  rcases ho with ⟨rfl, rfl, rfl⟩ | ⟨b, rfl, _, hl, _⟩
  · simp
  · exact hl

theorem Own.iaddr {h : Hp} {sz n i : Nat} {s : V} {l : List V} (ho : Own h sz s n l) (hi : i < n) : ∃ b, s = .slice b 0 sz n n false ∧ iaddrV sz s (.int .i64 (i : Int)) = some (.ptr b (i * sz)) ∧ h.blk b = .cells l false := by
  rcases ho with ⟨rfl, rfl, rfl⟩ | ⟨b, rfl, hb, hl, _⟩
  · omega
  · exact ⟨b, rfl, by rw [iaddrV_slice hi, Nat.zero_add], hb⟩

theorem Own.mono {h h' : Hp} {sz n : Nat} {s : V} {l : List V} (ho : Own h sz s n l) (hs : ∀ x, s.hasB x → h'.blk x = h.blk x) : Own h' sz s n l := by
  rcases ho with ⟨rfl, rfl, rfl⟩ | ⟨b, rfl, hb, hl, hn⟩
  · exact .inl ⟨rfl, rfl, rfl⟩
  · exact .inr ⟨b, rfl, (hs b rfl).trans hb, hl, hn⟩

theorem roomy_of {by_ n : Nat} (h1 : by_ * n ≤ 1099511627776) (h2 : n ≤ 1099511627776) : roomy by_ n = true := by
  unfold roomy
  rw [show Nat.ble (by_ * n) 1099511627776 = true from nble.2 h1, show Nat.ble n 1099511627776 = true from nble.2 h2]
  rfl

theorem storeH_cells {h : Hp} {b o sz : Nat} {vs l : List V} (hb : h.blk b = .cells l false) (hv : vs.length = sz) (hn : o + sz ≤ l.length) (hf : allFlat vs = true) : storeH h sz b o vs = some (h.put b (.cells (splice l o vs) false)) := by
  subst hv
  unfold storeH
  rw [show Nat.beq vs.length vs.length = true from nbeq.2 rfl]
  exact write_cells hb hn hf

/-! ### Loops over a row's places -/

/-- 'for i := range n': what stands ahead of round i. -/
theorem wp_range {p : Prog} {ext : Ext} {b0 b1 t u ti tn : Nat} {body : MCode} {fr : Fr} {h : Hp} {Q : Res → Prop} (n : Nat) (I : Nat → Fr → Hp → Prop)
    (hn : n < 4611686018427387904) (hne : ti ≠ t ∧ tn ≠ t ∧ tn ≠ ti ∧ ti ≠ u ∧ tn ≠ u ∧ b1 ≠ b0)
    (hi : ev fr (.tmp ti) = .int .i64 0) (hl : ev fr (.tmp tn) = .int .i64 n) (h0 : I 0 fr h)
    (hst : ∀ i d v fr h, (d = t ∨ d = u ∨ d = ti) → I i fr h → I i (putO fr (some d) v) h)
    (hb : ∀ i fr h, i < n → ev fr (.tmp ti) = .int .i64 i → ev fr (.tmp tn) = .int .i64 n → I i fr h →
      WP p ext body fr h fun r => match r with
        | .ok fr' h' => ev fr' (.tmp ti) = .int .i64 i ∧ ev fr' (.tmp tn) = .int .i64 n ∧ I (i + 1) fr' h'
        | .exit id fr' h' => cond (Nat.beq id b1) (ev fr' (.tmp ti) = .int .i64 i ∧ ev fr' (.tmp tn) = .int .i64 n ∧ I (i + 1) fr' h') (cond (Nat.beq id b0) (Q (.ok fr' h')) (Q (.exit id fr' h')))
        | .ret fr' h' => Q (.ret fr' h')
        | .fail => False)
    (hq : ∀ fr h, I n fr h → Q (.ok fr h)) :
    WP p ext (.block b0 (.loop (.seq (.region [⟨some t, .p (.bin .lss (.tmp ti) (.tmp tn)), none⟩]) (.seq (.cond (.tmp t) .skip (.exit b0)) (.seq (.block b1 body)
      (.region [⟨some u, .p (.bin .add (.tmp ti) (.val (.int .i64 (.ofNat 1)))), none⟩, ⟨some ti, .p (.mov (.tmp u)), none⟩])))))) fr h Q := by
  obtain ⟨n1, n2, n3, n4, n5, n6⟩ := hne
  rw [WP.block]
  refine wp_loop' (fun k fr h => ∃ i : Nat, i ≤ n ∧ k = n - i ∧ ev fr (.tmp ti) = .int .i64 i ∧ ev fr (.tmp tn) = .int .i64 n ∧ I i fr h) ?_ (k := n) ⟨0, Nat.zero_le _, by omega, hi, hl, h0⟩
  rintro k fr h ⟨i, hle, rfl, e1, e2, hI⟩
  by_cases hlt : i < n
  · have hlt' : ((i : Int) < (n : Int)) := by omega
    rw [WP.seq, WP.region, W.pure]
    simp only [pV, e1, e2, bin_lss, optP_some]
    rw [decide_eq_true hlt', WPo.nil, thenR_ok, WP.seq, W.cond, ev_put, if_pos rfl, condP_tt, WP.skip, thenR_ok, WP.seq, WP.block]
    refine (hb i (putO fr (some t) (.bool true)) h hlt (by rw [ev_put_ne n1, e1]) (by rw [ev_put_ne n2, e2]) (hst i t _ fr h (.inl rfl) hI)).mono fun r hr => ?_
    have key : ∀ fr' h', ev fr' (.tmp ti) = .int .i64 i ∧ ev fr' (.tmp tn) = .int .i64 n ∧ I (i + 1) fr' h' →
        WP p ext (.region [⟨some u, .p (.bin .add (.tmp ti) (.val (.int .i64 (.ofNat 1)))), none⟩, ⟨some ti, .p (.mov (.tmp u)), none⟩]) fr' h' (thenR (blockR b0 Q) fun fr' h' => ∃ k', k' < n - i ∧ ∃ i : Nat, i ≤ n ∧ k' = n - i ∧ ev fr' (.tmp ti) = .int .i64 i ∧ ev fr' (.tmp tn) = .int .i64 n ∧ I i fr' h') := by
      rintro fr' h' ⟨a1, a2, a3⟩
      rw [WP.region, W.pure]
      simp only [pV, a1, ev_val, bin_add, optP_some]
      rw [W.pure]
      simp only [pV, optP_some, ev_put, if_true]
      rw [WPo.nil, thenR_ok]
      refine ⟨n - (i + 1), by omega, i + 1, by omega, rfl, ?_, ?_, ?_⟩
      · rw [ev_put, if_pos rfl, show wr .i64 ((i : Int) + Int.ofNat 1) = ((i + 1 : Nat) : Int) from by rw [wr_of] <;> simp <;> omega]
      · rw [ev_put, if_neg n3, ev_put, if_neg n5, a2]
      · exact hst _ _ _ _ _ (.inr (.inr rfl)) (hst _ _ _ _ _ (.inr (.inl rfl)) a3)
    cases r with
    | fail => exact hr.elim
    | ok fr' h' => exact key fr' h' hr
    | ret fr' h' => exact hr
    | exit id fr' h' =>
      rw [blockR_exit]
      simp only at hr
      cases e : Nat.beq id b1 with
      | true => rw [e] at hr; exact key fr' h' hr
      | false => rw [e] at hr; exact hr
  · have hin : i = n := by omega
    subst hin
    rw [WP.seq, WP.region, W.pure]
    simp only [pV, e1, e2, bin_lss, optP_some]
    rw [decide_eq_false (by omega : ¬ ((i : Int) < (i : Int))), WPo.nil, thenR_ok, WP.seq, W.cond, ev_put, if_pos rfl, condP_ff, WP.exit, thenR_exit, thenR_exit, blockR_exit, show Nat.beq b0 b0 = true from nbeq.2 rfl]
    exact hq _ _ (hst _ _ _ _ _ (.inl rfl) hI)

attribute [simp] at1_eq cellAt_cells blk_put blk_new put_next new_next natOf_cast natOf_lit natOf_zero natOf_one blt_d ble_d beq_d allFlat_cons V.flat
attribute [simp] fillV evParts splice over getX

end Go.Vm
