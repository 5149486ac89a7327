/-
  What the functions of the package txns do, over the small machine: a book of transactions at a pointer, its ticks and its rows.
-/
import Derived.Test.YtliaohleajdgiaaM
import Derived.Test.YtliaohleajdgiaaVmTop2
set_option maxRecDepth 10000
namespace Go.Proofs.Ytliaohleajdgiaa
open Go.Vm

def pr : Vm.Prog := mach []
def xt : Ext := constX [11]

/-! ### The book's functions -/

theorem w10 {h : Hp} {b o : Nat} {t : Int} (hr : cellAt (h.blk b) o = some (.int .i64 t)) (h0 : 0 ≤ t) (h1 : t < 1000000) : Ret pr xt 10 [.ptr b o] h (.int .i64 (t + 1)) h := by
  refine ret_of (enter rfl rfl rfl ?_)
  simp [m10, hr, wr_of (n := t + 1) (by omega) (by omega)]

/-- A slice of numbers. -/
def Ints (h : Hp) (s : V) (xs : List Int) : Prop :=
  (s = .nilslice ∧ xs = []) ∨ ∃ b o c ex l ro, s = .slice b o 1 xs.length c ex ∧ h.blk b = .cells l ro ∧ ∀ i x, xs[i]? = some x → l[o + i]? = some (.int .i64 x)

/-- slices.Index -/
theorem w19 {h : Hp} {s : V} {xs : List Int} {v : Int} (hs : Ints h s xs) (hl : xs.length < 1000000) {Q : V → Hp → Prop} (hq : ∀ n : Int, (0 ≤ n ↔ v ∈ xs) → Q (.int .i64 n) h) : WPc pr xt 19 [s, .int .i64 v] h Q := by
  refine enter rfl rfl rfl ?_
  rcases hs with ⟨rfl, rfl⟩ | ⟨b, o, c, ex, l, ro, rfl, hb, hx⟩
  · simp [m19, -WS.block]
    refine ws_range 0 (fun i fr h' => h' = h) (by omega) (by decide) (by simp) (by simp) rfl (by simp) (fun i fr h' hi => absurd hi (by omega)) ?_
    rintro fr h' rfl
    simp
    exact hq _ (by simp)
  · simp [m19, -WS.block]
    refine ws_range xs.length (fun i fr h' => h' = h ∧ ev fr (.tmp 0) = .slice b o 1 xs.length c ex ∧ ev fr (.tmp 1) = .int .i64 v ∧ ∀ j, j < i → xs[j]? ≠ some v) (by omega) (by decide) (by simp) (by simp) (by simp) ?_ ?_ ?_
    · rintro i d w fr h' (rfl | rfl | rfl) ⟨rfl, e1, e2, e3⟩ <;> exact ⟨rfl, by simp [e1], by simp [e2], e3⟩
    · rintro i fr h' hi e8 e7 ⟨rfl, e0, e1, hj⟩
      have hc := hx i xs[i] (by simp [hi])
      simp [e0, e1, e8, hi, hb, hc]
      refine condS_of (fun hv => ?_) (fun hv => ?_)
      · simp
        exact hq _ (by simp [of_decide_eq_true hv])
      · have hv := of_decide_eq_false hv
        simp [e0, e1, e7, e8]
        intro j hj'
        rcases Nat.lt_or_eq_of_le (Nat.le_of_lt_succ hj') with h1 | rfl
        · exact hj j h1
        · simp [hi]; exact fun e => hv e.symm
    · rintro fr h' ⟨rfl, e0, e1, hj⟩
      simp
      refine hq _ ?_
      simp
      intro hm
      obtain ⟨j, hj1, hj2⟩ := List.getElem_of_mem hm
      exact hj j hj1 (by rw [List.getElem?_eq_getElem hj1, hj2])

/-- slices.Contains -/
theorem w18 {h : Hp} {s : V} {xs : List Int} {v : Int} (hs : Ints h s xs) (hl : xs.length < 1000000) : Ret pr xt 18 [s, .int .i64 v] h (.bool (decide (v ∈ xs))) h := by
  refine ret_of (enter rfl rfl rfl ?_)
  simp [m18]
  refine callS_of (w19 hs hl fun n hn => ?_)
  simp [hn]

structure Tx where
  id : Int
  st : Int
  bg : Int
  en : Int

def Tx.enc (x : Tx) : List V := [.int .i64 x.id, .int .i64 x.st, .int .i64 x.bg, .int .i64 x.en]
def encs (l : List Tx) : List V := l.flatMap Tx.enc

theorem encs_length (l : List Tx) : (encs l).length = l.length * 4 := by
  induction l with
  | nil => rfl
  | cons x l ih => simp [encs, List.flatMap_cons, Tx.enc] at ih ⊢; omega

theorem encs_get : ∀ {l : List Tx} {i j : Nat} {x : Tx}, l[i]? = some x → j < 4 → (encs l)[i * 4 + j]? = x.enc[j]?
  | [], _, _, _, h, _ => by simp at h
  | y :: l, 0, j, x, h, hj => by
    simp at h; subst h
    simp only [encs, List.flatMap_cons, Nat.zero_mul, Nat.zero_add]
    rw [List.getElem?_append_left (by simpa [Tx.enc] using hj)]
  | y :: l, i + 1, j, x, h, hj => by
    simp only [encs, List.flatMap_cons]
    rw [List.getElem?_append_right (by simp [Tx.enc]; omega)]
    rw [show (i + 1) * 4 + j - y.enc.length = i * 4 + j by simp [Tx.enc]; omega]
    exact encs_get (by simpa using h) hj

/-- One transaction turned: its cells. -/
theorem encs_set {l : List Tx} {i j : Nat} {x : Tx} {v : V} {y : Tx} (h : l[i]? = some x) (hj : j < 4) (hy : y.enc = x.enc.set j v) : splice (encs l) (i * 4 + j) [v] = encs (l.set i y) := by
  apply List.ext_getElem?
  intro k
  have hil : i < l.length := (List.getElem?_eq_some_iff.1 h).1
  rw [splice_get _ _ _ _ (by rw [encs_length]; simp; omega)]
  have e2 : (encs (l.set i y))[k]? = if k < l.length * 4 then (if k / 4 = i then y.enc[k % 4]? else (encs l)[k]?) else none := by
    by_cases hk : k < l.length * 4
    · rw [if_pos hk]
      have hq : k / 4 < l.length := by omega
      have h1 : (encs (l.set i y))[k / 4 * 4 + k % 4]? = ((l.set i y)[k / 4]'(by simpa using hq)).enc[k % 4]? := encs_get (by simp [hq]) (Nat.mod_lt _ (by omega))
      have h2 : (encs l)[k / 4 * 4 + k % 4]? = (l[k / 4]).enc[k % 4]? := encs_get (by simp [hq]) (Nat.mod_lt _ (by omega))
      rw [show k / 4 * 4 + k % 4 = k by omega] at h1 h2
      by_cases he : k / 4 = i
      · rw [if_pos he, h1]; simp [he]
      · rw [if_neg he, h1, h2]; simp [Ne.symm he]
    · rw [if_neg hk, List.getElem?_eq_none (by rw [encs_length]; simp; omega)]
  rw [e2]
  have hx : x.enc.length = 4 := rfl
  by_cases hk : k < l.length * 4
  · rw [if_pos hk]
    by_cases he : k / 4 = i
    · rw [if_pos he, hy]
      have h3 : (encs l)[i * 4 + k % 4]? = x.enc[k % 4]? := encs_get h (Nat.mod_lt _ (by omega))
      rw [List.getElem?_set]
      by_cases hkj : i * 4 + j ≤ k ∧ k < i * 4 + j + [v].length
      · rw [if_pos hkj]
        simp at hkj
        have : k % 4 = j := by omega
        rw [this, if_pos rfl, show k - (i * 4 + j) = 0 by omega]
        simp [hx, hj]
      · rw [if_neg hkj]
        simp at hkj
        rw [if_neg (by omega), ← h3, show i * 4 + k % 4 = k by omega]
    · rw [if_neg he, if_neg (by simp; omega)]
  · rw [if_neg hk, if_neg (by simp; omega), List.getElem?_eq_none (by rw [encs_length]; omega)]

/-- The book at b: its ticks, its transactions; it owns its slice's block. -/
structure Book (h : Hp) (b : Nat) (t : Int) (l : List Tx) : Prop where
  ex : ∃ s, h.blk b = .cells [.int .i64 t, s] false ∧ Own h 4 s l.length (encs l) ∧ ¬ s.hasB b ∧ ∀ x, s.hasB x → x < h.next
  lt : b < h.next

def BookF (h : Hp) (b x : Nat) : Prop := x = b ∨ ∃ t s, h.blk b = .cells [t, s] false ∧ s.hasB x

theorem Book.keep {h h' : Hp} {b : Nat} {t : Int} {l : List Tx} (hb : Book h b t l) (hn : h.next ≤ h'.next) (hk : ∀ x, BookF h b x → h'.blk x = h.blk x) : Book h' b t l := by
  obtain ⟨⟨s, h1, h2, h3, h4⟩, h5⟩ := hb
  exact ⟨⟨s, (hk b (.inl rfl)).trans h1, h2.mono fun x hx => hk x (.inr ⟨_, _, h1, hx⟩), h3, fun x hx => Nat.lt_of_lt_of_le (h4 x hx) hn⟩, Nat.lt_of_lt_of_le h5 hn⟩

/-- What a call to the book may turn. -/
structure BookC (h h' : Hp) (b : Nat) : Prop where
  next : h.next ≤ h'.next
  kept : ∀ x, x < h.next → ¬ BookF h b x → h'.blk x = h.blk x
  own : ∀ x, BookF h' b x → BookF h b x ∨ h.next ≤ x

theorem w6 {h : Hp} : Ret pr xt 6 [] h (.ptr h.next 0) (h.new (.cells [.int .i64 0, .nilslice] false)) := by
  refine ret_of (enter rfl rfl rfl ?_)
  simp [m6, aV, allFlat]

theorem book_new {h : Hp} : Book (h.new (.cells [.int .i64 0, .nilslice] false)) h.next 0 [] :=
  ⟨⟨.nilslice, by rw [blk_new, if_pos rfl], .inl ⟨rfl, rfl, rfl⟩, fun h => h.elim, fun x hx => hx.elim⟩, by rw [new_next]; omega⟩

theorem w7 {h : Hp} {b : Nat} {t : Int} {l : List Tx} (hb : Book h b t l) (hl : l.length < 1000000) (h0 : 0 ≤ t) (h1 : t < 1000000) {Q : V → Hp → Prop}
    (hq : ∀ h', Book h' b t (l ++ [⟨l.length + 1, 1, t + 1, 0⟩]) → BookC h h' b → Q (.int .i64 (l.length + 1)) h') : WPc pr xt 7 [.ptr b 0] h Q := by
  obtain ⟨⟨s, hb1, ho, hs1, hs3⟩, hs2⟩ := hb
  have e10 := w10 (h := h) (b := b) (o := 0) (t := t) (by simp [hb1]) h0 h1
  refine enter rfl rfl rfl ?_
  have hlb := ho.lenb
  simp [m7, hb1, hlb, e10.callD, wr_of (n := (l.length : Int) + 1) (by omega) (by omega), aV, allFlat]
  generalize hX : Blk.cells [V.int IntKind.i64 (↑l.length + 1), V.int IntKind.i64 1, V.int IntKind.i64 (t + 1), V.int IntKind.i64 0] false = X
  have ho' : Own (h.new X) 4 s l.length (encs l) := ho.mono fun x hx => by
    have := hs3 x hx
    rw [blk_new, if_neg (by omega)]
  obtain ⟨h2, e, n2, c2, g2, k2⟩ := appendV_own (by_ := 32) (x := .slice h.next 0 4 1 1 true) (m := 1) (new := Tx.enc ⟨l.length + 1, 1, t + 1, 0⟩) ho' rfl (by omega) (roomy_of (by omega) (by omega))
    (by rw [srcCells_slice (l := Tx.enc ⟨l.length + 1, 1, t + 1, 0⟩) (ro := false) (by rw [blk_new, if_pos rfl, ← hX]; rfl) (by simp [Tx.enc])]; rfl) rfl rfl
  have hbb : h2.blk b = .cells [.int .i64 t, s] false := by
    rw [k2 b (by rw [new_next]; omega) hs1, blk_new, if_neg (by omega), hb1]
  rw [e]
  simp
  rw [storeH_cells (sz := 1) (vs := [_]) hbb rfl (by simp) rfl]
  simp
  rw [new_next] at n2 c2 k2 g2
  refine ⟨by rw [read_cells hb1 (by simp)]; rfl, hq _ ⟨⟨_, by rw [blk_put, if_pos rfl], .inr ⟨h.next + 1, by simp, ?_, ?_, by simp⟩, ?_, ?_⟩, ?_⟩ ⟨by rw [put_next]; omega, ?_, ?_⟩⟩
  · rw [blk_put, if_neg (by omega), c2]; simp [encs]
  · simp [encs_length]
  · intro hx
    have : b = h.next + 1 := hx
    omega
  · intro x hx
    have : x = h.next + 1 := hx
    rw [put_next]; omega
  · rw [put_next]; omega
  · intro x hx hn
    rw [blk_put, if_neg (fun e => hn (.inl e)), k2 x (by omega) (fun e => hn (.inr ⟨_, _, hb1, e⟩)), blk_new, if_neg (by omega)]
  · rintro x (rfl | ⟨t', s', e1, e2⟩)
    · exact .inl (.inl rfl)
    · rw [blk_put, if_pos rfl] at e1
      cases e1
      have : x = h.next + 1 := e2
      right; omega

/-- What 'in' finds. -/
def inB (l : List Tx) (i : Int) (sts : List Int) : Option Nat :=
  if i < 1 ∨ (l.length : Int) < i then none else match l[(i - 1).toNat]? with
    | some x => if x.st ∈ sts then some (i - 1).toNat else none
    | none => none

theorem w17 {h : Hp} {b : Nat} {t : Int} {l : List Tx} {i : Int} {ss : V} {sts : List Int} (hb : Book h b t l) (hi : -1000000 ≤ i ∧ i < 1000000) (hs : Ints h ss sts) (hsl : sts.length < 1000000) {Q : V → Hp → Prop}
    (hn : inB l i sts = none → Q .nilptr h)
    (hy : ∀ k sb, inB l i sts = some k → h.blk sb = .cells (encs l) false → k < l.length → h.blk b = .cells [.int .i64 t, .slice sb 0 4 l.length l.length false] false → sb ≠ b → sb < h.next → Q (.ptr sb (k * 4)) h) :
    WPc pr xt 17 [.ptr b 0, .int .i64 i, ss] h Q := by
  obtain ⟨⟨s, hb1, ho, hs1, hs3⟩, hs2⟩ := hb
  refine enter rfl rfl rfl ?_
  have hlb := ho.lenb
  by_cases h1 : i < 1
  · have d1 : decide (i < 1) = true := decide_eq_true h1
    simp [m17, d1]
    exact hn (by simp [inB, h1])
  have d1 : decide (i < 1) = false := decide_eq_false h1
  by_cases h2 : (l.length : Int) < i
  · have d2 : decide ((l.length : Int) < i) = true := decide_eq_true h2
    simp [m17, hb1, hlb, d1, d2]
    exact hn (by simp [inB, h2])
  have d2 : decide ((l.length : Int) < i) = false := decide_eq_false h2
  obtain ⟨k, rfl⟩ : ∃ k : Nat, i = (k : Int) + 1 := ⟨(i - 1).toNat, by omega⟩
  have hk : k < l.length := by omega
  obtain ⟨sb, rfl, hia, hbk⟩ := ho.iaddr hk
  have hst : (encs l)[k * 4 + 1]? = some (.int .i64 (l[k]).st) := by rw [encs_get (x := l[k]) (by simp [hk]) (by omega)]; rfl
  have e18 := w18 (v := (l[k]).st) hs hsl
  have hbs : sb ≠ b := fun e => hs1 e.symm
  have hw : wr .i64 ((k : Int) + 1 - 1) = (k : Int) := by rw [wr_of] <;> omega
  have hin : inB l ((k : Int) + 1) sts = if (l[k]).st ∈ sts then some k else none := by
    unfold inB
    rw [if_neg (by omega), show ((k : Int) + 1 - 1).toNat = k by omega]
    simp [hk]
  have hw' : wr .i64 (k : Int) = (k : Int) := by rw [wr_of] <;> omega
  have hwk : l.length > k := hk
  simp [m17, hb1, d1, d2, hbk, hst, e18.call, hw', hk]
  by_cases h3 : (l[k]).st ∈ sts
  · rw [decide_eq_true h3]
    simp [hb1, hw', hk]
    exact hy k sb (by rw [hin, if_pos h3]) hbk hk hb1 hbs (hs3 sb rfl)
  · rw [decide_eq_false h3]
    simp
    exact hn (by rw [hin, if_neg h3])

theorem Ints.one {h : Hp} {b c : Nat} {ex ro : Bool} {x : Int} (hb : h.blk b = .cells [.int .i64 x] ro) : Ints h (.slice b 0 1 1 c ex) [x] :=
  .inr ⟨b, 0, c, ex, _, ro, rfl, hb, fun i y hy => by
    cases i with
    | zero => simp at hy; subst hy; rfl
    | succ i => simp at hy⟩
theorem Ints.two {h : Hp} {b c : Nat} {ex ro : Bool} {x y : Int} (hb : h.blk b = .cells [.int .i64 x, .int .i64 y] ro) : Ints h (.slice b 0 1 2 c ex) [x, y] :=
  .inr ⟨b, 0, c, ex, _, ro, rfl, hb, fun i z hz => by
    match i, hz with
    | 0, hz => simp at hz; subst hz; rfl
    | 1, hz => simp at hz; subst hz; rfl
    | i + 2, hz => simp at hz⟩

/-- A block more. -/
theorem Book.new {h : Hp} {b : Nat} {t : Int} {l : List Tx} (hb : Book h b t l) (x : Blk) : Book (h.new x) b t l := by
  refine hb.keep (by rw [new_next]; omega) fun y hy => ?_
  rw [blk_new, if_neg]
  rcases hy with rfl | ⟨t', s', h1, h2⟩
  · have := hb.lt; omega
  · obtain ⟨⟨s, k1, k2, k3, k4⟩, k5⟩ := hb
    rw [k1] at h1; cases h1
    have := k4 y h2; omega

/-- A cell of one of its transactions is turned. -/
theorem Book.turn {h h1 : Hp} {b sb : Nat} {t : Int} {l : List Tx} {k j : Nat} {v : V} {x y : Tx} (hb1 : h.blk b = .cells [.int .i64 t, .slice sb 0 4 l.length l.length false] false) (hbs : sb ≠ b) (hbl : b < h.next) (hsl : sb < h.next) (hsb : h.blk sb = .cells (encs l) false) (hx : l[k]? = some x)
    (hj : j < 4) (hy : y.enc = x.enc.set j v) (hf : v.flat = true) (h1e : h1 = h.put sb (.cells (encs (l.set k y)) false)) :
    storeH h 1 sb (k * 4 + j) [v] = some h1 ∧ Book h1 b t (l.set k y) ∧ h1.blk b = .cells [.int .i64 t, .slice sb 0 4 l.length l.length false] false ∧ h1.next = h.next := by
  have hk : k < l.length := (List.getElem?_eq_some_iff.1 hx).1
  subst h1e
  have e1 : (h.put sb (.cells (encs (l.set k y)) false)).blk b = .cells [.int .i64 t, .slice sb 0 4 l.length l.length false] false := by rw [blk_put, if_neg (fun e => hbs e.symm), hb1]
  refine ⟨?_, ⟨⟨_, e1, .inr ⟨sb, by simp, by rw [blk_put, if_pos rfl], by rw [encs_length], by simp; omega⟩, fun e => hbs (e : b = sb).symm, fun x hx => ?_⟩, hbl⟩, e1, rfl⟩
  · rw [storeH_cells (sz := 1) (vs := [v]) hsb rfl (by rw [encs_length]; omega) (by rw [allFlat_cons, hf]; rfl), encs_set hx hj hy]
  · have : x = sb := hx
    rw [this, put_next]; exact hsl

/-- Nothing but what the book owns, and new blocks, has turned. -/
theorem BookC.of {h h' : Hp} {b : Nat} {sb n : Nat} {t t' : V} (hn : h.next ≤ h'.next) (hb1 : h.blk b = .cells [t, .slice sb 0 4 n n false] false) (hb2 : h'.blk b = .cells [t', .slice sb 0 4 n n false] false) (hk : ∀ x, x < h.next → x ≠ b → x ≠ sb → h'.blk x = h.blk x) : BookC h h' b :=
  ⟨hn, fun x hx hnf => hk x hx (fun e => hnf (.inl e)) (fun e => hnf (.inr ⟨_, _, hb1, e⟩)), fun x hx => by
    rcases hx with rfl | ⟨t2, s2, k1, k2⟩
    · exact .inl (.inl rfl)
    · rw [hb2] at k1; cases k1
      exact .inl (.inr ⟨_, _, hb1, k2⟩)⟩

/-- A new block, then a call to the book. -/
theorem BookC.behind {h h' : Hp} {b : Nat} {x : Blk} (hlt : b < h.next) (hc : BookC (h.new x) h' b) : BookC h h' b := by
  have hF : ∀ y, BookF (h.new x) b y ↔ BookF h b y := fun y => by
    unfold BookF
    rw [blk_new, if_neg (by omega)]
  refine ⟨Nat.le_trans (by rw [new_next]; omega) hc.next, fun y hy hn => ?_, fun y hy => ?_⟩
  · rw [hc.kept y (by rw [new_next]; omega) (fun e => hn ((hF y).1 e)), blk_new, if_neg (by omega)]
  · rcases hc.own y hy with e | e
    · exact .inl ((hF y).1 e)
    · rw [new_next] at e; right; omega

theorem Book.below {h : Hp} {b : Nat} {t : Int} {l : List Tx} (hb : Book h b t l) {y : Nat} (hy : BookF h b y) : y < h.next := by
  rcases hy with rfl | ⟨t', s', k1, k2⟩
  · exact hb.lt
  · obtain ⟨⟨s, q1, q2, q3, q4⟩, q5⟩ := hb
    rw [q1] at k1; cases k1
    exact q4 y k2

theorem BookC.refl {h : Hp} {b : Nat} : BookC h h b := ⟨Nat.le_refl _, fun _ _ _ => rfl, fun _ hx => .inl hx⟩

/-- Commit. -/
theorem w12 {h : Hp} {b : Nat} {t : Int} {l : List Tx} {i : Int} (hb : Book h b t l) (hi : -1000000 ≤ i ∧ i < 1000000) {Q : V → Hp → Prop}
    (hn : ∀ h', inB l i [2] = none → Book h' b t l → BookC h h' b → Q (.bool false) h')
    (hy : ∀ h' k x, inB l i [2] = some k → l[k]? = some x → Book h' b t (l.set k { x with st := 3 }) → BookC h h' b → Q (.bool true) h') : WPc pr xt 12 [.ptr b 0, .int .i64 i] h Q := by
  refine enter rfl rfl rfl ?_
  simp [m12, aV, allFlat]
  generalize hX : Blk.cells [V.int IntKind.i64 2] false = X
  refine callS_of (w17 (sts := [2]) (hb.new X) hi (Ints.one (by rw [blk_new, if_pos rfl, ← hX])) (by simp) (fun h1 => ?_) (fun k sb h1 h2 h3 h4 h5 h6 => ?_))
  · simp [eqP, eqV]
    exact hn _ h1 (hb.new X) (.behind hb.lt .refl)
  · simp [eqP, eqV]
    have hx : l[k]? = some l[k] := by simp [h3]
    obtain ⟨e1, e2, e3, e4⟩ := Book.turn (j := 1) (v := .int .i64 3) (y := { l[k] with st := 3 }) h4 h5 (hb.new X).lt h6 h2 hx (by omega) rfl rfl rfl
    rw [e1]
    simp
    refine hy _ k l[k] h1 hx e2 (.behind hb.lt (.of (by rw [e4]; omega) h4 e3 fun x hx1 hx2 hx3 => by rw [blk_put, if_neg hx3]))

/-- Abort. -/
theorem w13 {h : Hp} {b : Nat} {t : Int} {l : List Tx} {i : Int} (hb : Book h b t l) (hi : -1000000 ≤ i ∧ i < 1000000) {Q : V → Hp → Prop}
    (hn : ∀ h', inB l i [1, 2] = none → Book h' b t l → BookC h h' b → Q (.bool false) h')
    (hy : ∀ h' k x, inB l i [1, 2] = some k → l[k]? = some x → Book h' b t (l.set k { x with st := 4 }) → BookC h h' b → Q (.bool true) h') : WPc pr xt 13 [.ptr b 0, .int .i64 i] h Q := by
  refine enter rfl rfl rfl ?_
  simp [m13, aV, allFlat]
  generalize hX : Blk.cells [V.int IntKind.i64 1, V.int IntKind.i64 2] false = X
  refine callS_of (w17 (sts := [1, 2]) (hb.new X) hi (Ints.two (by rw [blk_new, if_pos rfl, ← hX])) (by simp) (fun h1 => ?_) (fun k sb h1 h2 h3 h4 h5 h6 => ?_))
  · simp [eqP, eqV]
    exact hn _ h1 (hb.new X) (.behind hb.lt .refl)
  · simp [eqP, eqV]
    have hx : l[k]? = some l[k] := by simp [h3]
    obtain ⟨e1, e2, e3, e4⟩ := Book.turn (j := 1) (v := .int .i64 4) (y := { l[k] with st := 4 }) h4 h5 (hb.new X).lt h6 h2 hx (by omega) rfl rfl rfl
    rw [e1]
    simp
    refine hy _ k l[k] h1 hx e2 (.behind hb.lt (.of (by rw [e4]; omega) h4 e3 fun x hx1 hx2 hx3 => by rw [blk_put, if_neg hx3]))

/-- Prepare. -/
theorem w9 {h : Hp} {b : Nat} {t : Int} {l : List Tx} {i : Int} (hb : Book h b t l) (hi : -1000000 ≤ i ∧ i < 1000000) (h0 : 0 ≤ t) (h1 : t < 900000) {Q : V → Hp → Prop}
    (hn : ∀ h', inB l i [1] = none → Book h' b t l → BookC h h' b → Q (.tup [.int .i64 0, .bool false]) h')
    (hy : ∀ h' k x, inB l i [1] = some k → l[k]? = some x → Book h' b (t + 1) (l.set k { x with st := 2, en := t + 2 }) → BookC h h' b → Q (.tup [.int .i64 (t + 2), .bool true]) h') : WPc pr xt 9 [.ptr b 0, .int .i64 i] h Q := by
  refine enter rfl rfl rfl ?_
  simp [m9, aV, allFlat]
  generalize hX : Blk.cells [V.int IntKind.i64 1] false = X
  refine callS_of (w17 (sts := [1]) (hb.new X) hi (Ints.one (by rw [blk_new, if_pos rfl, ← hX])) (by simp) (fun h1 => ?_) (fun k sb h1 h2 h3 h4 h5 h6 => ?_))
  · simp [eqP, eqV]
    exact hn _ h1 (hb.new X) (.behind hb.lt .refl)
  · have hx : l[k]? = some l[k] := by simp [h3]
    simp [eqP, eqV, h4, wr_of (n := t + 1) (by omega) (by omega)]
    have hbl := (hb.new X).lt
    rw [storeH_cells (sz := 1) (vs := [_]) h4 rfl (by simp) rfl]
    simp
    generalize hh1 : (h.new X).put b (.cells [.int .i64 (t + 1), .slice sb 0 4 l.length l.length false] false) = g1
    have g1b : g1.blk b = .cells [.int .i64 (t + 1), .slice sb 0 4 l.length l.length false] false := by rw [← hh1, blk_put, if_pos rfl]
    have g1s : g1.blk sb = .cells (encs l) false := by rw [← hh1, blk_put, if_neg h5, h2]
    have g1n : g1.next = h.next + 1 := by rw [← hh1]; rfl
    have e10 := w10 (h := g1) (b := b) (o := 0) (t := t + 1) (by rw [g1b]; rfl) (by omega) (by omega)
    rw [new_next] at hbl h6
    obtain ⟨e1, e2, e3, e4⟩ := Book.turn (j := 1) (v := .int .i64 2) (y := { l[k] with st := 2 }) g1b h5 (by omega) (by omega) g1s hx (by omega) rfl rfl rfl
    simp [e10.call, e1]
    generalize hh2 : g1.put sb (.cells (encs (l.set k { l[k] with st := 2 })) false) = g2 at e2 e3 e4 ⊢
    have g2s : g2.blk sb = .cells (encs (l.set k { l[k] with st := 2 })) false := by rw [← hh2, blk_put, if_pos rfl]
    have g2n : g2.next = h.next + 1 := e4.trans g1n
    have hx2 : (l.set k { l[k] with st := 2 })[k]? = some { l[k] with st := 2 } := by simp [h3]
    obtain ⟨f1, f2, f3, f4⟩ := Book.turn (j := 3) (v := .int .i64 (t + 1 + 1)) (l := l.set k { l[k] with st := 2 }) (y := { l[k] with st := 2, en := t + 1 + 1 }) (by rw [List.length_set]; exact e3) h5 (by omega) (by omega) g2s hx2 (by omega) rfl rfl rfl
    rw [f1]
    simp
    have hc : (encs ((l.set k { l[k] with st := 2 }).set k { l[k] with st := 2, en := t + 1 + 1 }))[k * 4 + 3]? = some (.int .i64 (t + 1 + 1)) := by
      rw [encs_get (x := { l[k] with st := 2, en := t + 1 + 1 }) (by simp [h3]) (by omega)]; rfl
    simp at hc
    simp [hc]
    rw [show t + 2 = t + 1 + 1 by omega] at hy
    refine hy _ k l[k] h1 hx (by simpa using f2) (.behind hb.lt (.of (by rw [put_next, g2n, new_next]; exact Nat.le_refl _) h4 (by simpa using f3) fun x hx1 hx2 hx3 => ?_))
    rw [blk_put, if_neg hx3, ← hh2, blk_put, if_neg hx3, ← hh1, blk_put, if_neg hx2]

/-- slices.Clip -/
theorem w15 {h : Hp} {b n c : Nat} {ex : Bool} (hc : n ≤ c) : Ret pr xt 15 [.slice b 0 4 n c ex] h (.slice b 0 4 n n true) h := by
  refine ret_of (enter rfl rfl rfl ?_)
  simp [m15, slcV, needH, boundM, boundH, boundL, hc]

theorem w15n {h : Hp} : Ret pr xt 15 [.nilslice] h .nilslice h := by
  refine ret_of (enter rfl rfl rfl ?_)
  simp [m15, slcV, needH, boundM, boundH, boundL]

/-- A slice that holds transactions. -/
def Held (h : Hp) (s : V) (l : List Tx) : Prop := (s = .nilslice ∧ l = []) ∨ ∃ b c ex, s = .slice b 0 4 l.length c ex ∧ l.length ≤ c ∧ h.blk b = .cells (encs l) false ∧ 0 < l.length

/-- slices.Clone -/
theorem w16 {h : Hp} {s : V} {l : List Tx} (ho : Own h 4 s l.length (encs l)) (hs : ∀ x, s.hasB x → x < h.next) (hl : l.length < 1000000) {Q : V → Hp → Prop}
    (hq : ∀ h' s', Held h' s' l → h.next ≤ h'.next → (∀ x, x < h.next → h'.blk x = h.blk x) → (∀ x, s'.hasB x → h.next ≤ x ∧ x < h'.next) → Q s' h') : WPc pr xt 16 [s] h Q := by
  refine enter rfl rfl rfl ?_
  rcases ho with ⟨rfl, h1, h2⟩ | ⟨b, rfl, h1, h2, h3⟩
  · have hl0 : l = [] := List.length_eq_zero_iff.1 h1
    subst hl0
    simp [m16, eqP, eqV]
    exact hq _ _ (.inl ⟨rfl, rfl⟩) (Nat.le_refl _) (fun _ _ => rfl) (fun x hx => hx.elim)
  · have hb := hs b rfl
    simp [m16, eqP, eqV, aV, allFlat]
    have hread : (h.new (.cells [] false)).read b 0 (l.length * 4) = some (encs l) := by
      rw [read_cells (l := encs l) (ro := false) (by rw [blk_new, if_neg (by omega), h1]) (by omega)]
      simp [← h2]
    have hread0 : (h.new (.cells [] false)).read h.next 0 0 = some [] := by
      rw [read_cells (l := []) (ro := false) (by rw [blk_new, if_pos rfl]) (by simp)]
      rfl
    have hflat : allFlat (encs l) = true := by
      rw [allFlat_all]
      simp [encs, Tx.enc, V.flat]
    obtain ⟨n', hn'⟩ : ∃ n', l.length = n' + 1 := ⟨l.length - 1, by omega⟩
    have happ : appendV 4 32 (h.new (.cells [] false)) (.slice h.next 0 4 0 0 true) (.slice b 0 4 l.length l.length false) = some (.slice (h.next + 1) 0 4 l.length l.length false, (h.new (.cells [] false)).new (.cells (encs l) false)) := by
      have hsrc : srcCells (h.new (.cells [] false)) 4 l.length (.slice b 0 4 l.length l.length false) = some (encs l) := by
        simp only [srcCells, show Nat.beq 4 4 = true from rfl, cond_true, show Nat.ble l.length l.length = true from nble.2 (Nat.le_refl _)]
        exact hread
      have hbl : Nat.ble (0 + l.length) 0 = false := by rw [nble_d]; exact decide_eq_false (by omega)
      have hro : roomy 32 (0 + l.length) = true := roomy_of (by omega) (by omega)
      simp only [appendV, lenV]
      rw [hn'] at hsrc hbl hro ⊢
      rw [Nat.zero_add] at hbl hro
      simp only [hsrc, hflat, cond_true, appendC, show Nat.beq 4 4 = true from rfl, hbl, cond_false, hro, Nat.zero_mul, hread0, List.nil_append, Nat.zero_add, new_next]
    rw [happ]
    simp
    refine hq _ _ (.inr ⟨_, _, _, rfl, Nat.le_refl _, by simp, h3⟩) (by simp; omega) (fun x hx => ?_) (fun x hx => ?_)
    · rw [blk_new, if_neg (by rw [new_next]; omega), blk_new, if_neg (by omega)]
    · have : x = h.next + 1 := hx
      subst this
      simp

/-- All. -/
theorem w8 {h : Hp} {b : Nat} {t : Int} {l : List Tx} (hb : Book h b t l) (hl : l.length < 1000000) {Q : V → Hp → Prop}
    (hq : ∀ h' s', Held h' s' l → h.next ≤ h'.next → (∀ x, x < h.next → h'.blk x = h.blk x) → (∀ x, s'.hasB x → h.next ≤ x ∧ x < h'.next) → Q s' h') : WPc pr xt 8 [.ptr b 0] h Q := by
  obtain ⟨⟨s, hb1, ho, hs1, hs3⟩, hs2⟩ := hb
  refine enter rfl rfl rfl ?_
  simp [m8, hb1]
  refine callS_of (w16 ho hs3 hl fun h' s' k1 k2 k3 k4 => ?_)
  rcases k1 with ⟨rfl, rfl⟩ | ⟨sb, c, ex, rfl, g1, g2, g3⟩
  · simp [w15n.call]
    exact hq _ _ (.inl ⟨rfl, rfl⟩) k2 k3 k4
  · simp [(w15 g1).call]
    exact hq _ _ (.inr ⟨sb, _, _, rfl, Nat.le_refl _, g2, g3⟩) k2 k3 k4

theorem encs_row {l : List Tx} {i : Nat} {x : Tx} (h : l[i]? = some x) : ((encs l).drop (i * 4)).take 4 = x.enc := by
  have hil : i < l.length := (List.getElem?_eq_some_iff.1 h).1
  apply List.ext_getElem?
  intro j
  rw [List.getElem?_take, List.getElem?_drop]
  by_cases hj : j < 4
  · rw [if_pos hj, encs_get h hj]
  · rw [if_neg hj, List.getElem?_eq_none (by simp [Tx.enc]; omega)]

/-- The least begin of those that are at it. -/
def old1 (o : Int) (x : Tx) : Int := if x.st = 1 ∨ x.st = 2 then min o x.bg else o
def oldest (now : Int) (l : List Tx) : Int := l.foldl old1 now

theorem oldest_take {now : Int} {l : List Tx} {i : Nat} {x : Tx} (h : l[i]? = some x) : oldest now (l.take (i + 1)) = old1 (oldest now (l.take i)) x := by
  have hil : i < l.length := (List.getElem?_eq_some_iff.1 h).1
  have : l.take (i + 1) = l.take i ++ [x] := by
    rw [List.take_add_one, h]; rfl
  rw [this]
  simp [oldest]

theorem w14 {h : Hp} {b : Nat} {t : Int} {l : List Tx} (hb : Book h b t l) (hl : l.length < 1000000) (h0 : 0 ≤ t) (h1 : t < 900000) {Q : V → Hp → Prop}
    (hq : ∀ h', h.next ≤ h'.next → (∀ x, x < h.next → h'.blk x = h.blk x) → Q (.int .i64 (oldest (t + 1) l)) h') : WPc pr xt 14 [.ptr b 0] h Q := by
  obtain ⟨⟨s, hb1, ho, hs1, hs3⟩, hs2⟩ := hb
  have e10 := w10 (h := h) (b := b) (o := 0) (t := t) (by simp [hb1]) h0 (by omega)
  have hlb := ho.lenb
  refine enter rfl rfl rfl ?_
  simp [m14, e10.call, hb1, hlb, -WS.block]
  refine ws_range l.length (fun i fr h' => h.next ≤ h'.next ∧ (∀ x, x < h.next → h'.blk x = h.blk x) ∧ ev fr (.tmp 13) = s ∧ ev fr (.tmp 3) = .int .i64 (oldest (t + 1) (l.take i))) (by omega) (by decide) (by simp) (by simp) ⟨Nat.le_refl _, fun _ _ => rfl, by simp, by simp [oldest]⟩ ?_ ?_ ?_
  · rintro i d w fr h' (rfl | rfl | rfl) ⟨k1, k2, e1, e2⟩ <;> exact ⟨k1, k2, by simp [e1], by simp [e2]⟩
  · rintro i fr h' hi e15 e14 ⟨k1, k2, e13, e3⟩
    obtain ⟨sb, hsb, hia, hbk⟩ := ho.iaddr hi
    have hsl := hs3 sb (by rw [hsb]; rfl)
    have hx : l[i]? = some l[i] := by simp [hi]
    have hrd : h'.read sb (i * 4) 4 = some (l[i]).enc := by
      rw [read_cells (l := encs l) (ro := false) (by rw [k2 sb hsl, hbk]) (by rw [encs_length]; omega), encs_row hx]
    simp [e15, e13, hia, hrd, aV, allFlat]
    rw [storeH_cells (sz := 4) (vs := (l[i]).enc) (b := h'.next) (l := [.int .i64 0, .int .i64 0, .int .i64 0, .int .i64 0]) (by simp) rfl (by simp) rfl]
    simp [Tx.enc]
    have ho1 := oldest_take (now := t + 1) hx
    by_cases s1 : (l[i]).st = 1
    · rw [decide_eq_true s1]
      simp [e15, e14, e13, e3]
      refine ⟨by omega, fun x hx => ?_, ?_⟩
      · rw [if_neg (by omega), if_neg (by omega), k2 x hx]
      · rw [ho1, old1, if_pos (.inl s1)]
    · rw [decide_eq_false s1]
      simp
      by_cases s2 : (l[i]).st = 2
      · rw [decide_eq_true s2]
        simp [e15, e14, e13, e3]
        refine ⟨by omega, fun x hx => ?_, ?_⟩
        · rw [if_neg (by omega), if_neg (by omega), k2 x hx]
        · rw [ho1, old1, if_pos (.inr s2)]
      · rw [decide_eq_false s2]
        simp [e15, e14, e13, e3]
        refine ⟨by omega, fun x hx => ?_, ?_⟩
        · rw [if_neg (by omega), if_neg (by omega), k2 x hx]
        · rw [ho1, old1, if_neg (by simp [s1, s2])]
  · rintro fr h' ⟨k1, k2, e13, e3⟩
    simp [e3]
    exact hq h' k1 k2

end Go.Proofs.Ytliaohleajdgiaa
