/-
  Vm, part 24: a region whose order is open: the heap, with blocks that come early.
-/
import Derived.Test.YtcoghkkhjaokmaaGreatDoorVmDraw
namespace Go.Vm

variable {P : Program}

/-- St, for the heap as a relation: At b x: block b is x. -/
structure Sx (φ0 : Emb) (h0 : Hp) (w0 : World) (ψ : Emb) (At : Nat → Blk → Prop) (w : World) (hi : Nat) : Prop where
  le : φ0.Le ψ
  new : ∀ b, (b < h0.next ∨ hi ≤ b) → ψ.at_ b = φ0.at_ b
  os : w.os = w0.os
  tape : w.tape = w0.tape
  output : w.output = w0.output
  size : w0.heap.size ≤ w.heap.size
  kept : ∀ k, k < w0.heap.size → (∀ b pl, (h0.blk b).open_ = true → φ0.at_ b = some pl → pl.blk ≠ k) → w.heap[k]? = w0.heap[k]?
  host : ∀ b x pl, At b x → x.open_ = true → ψ.at_ b = some pl → (∃ b' pl', (h0.blk b').open_ = true ∧ φ0.at_ b' = some pl' ∧ pl'.blk = pl.blk) ∨ w0.heap.size ≤ pl.blk
  roof : ∀ b x pl, At b x → x.live = true → ψ.at_ b = some pl → (∃ b' pl', (h0.blk b').live = true ∧ φ0.at_ b' = some pl' ∧ pl'.blk = pl.blk) ∨ w0.heap.size ≤ pl.blk
  lies : ∀ b x, At b x → x.live = true → ∃ pl, ψ.at_ b = some pl ∧ BlkAt ψ w pl x
  apart : ∀ b b' x x' pl pl', At b x → At b' x' → x.live = true → x'.live = true → (x.open_ = true ∨ x'.open_ = true) → ψ.at_ b = some pl → ψ.at_ b' = some pl' → b ≠ b' → pl.blk ≠ pl'.blk

variable {φ0 ψ : Emb} {h0 : Hp} {w0 w : World} {At : Nat → Blk → Prop} {hi : Nat}

theorem Sx.hr (s : Sx φ0 h0 w0 ψ At w hi) {g : Hp} (hg : ∀ b, (g.blk b).live = true → At b (g.blk b)) (hf : ∀ b, g.next ≤ b → g.blk b = .gone) : HR ψ g w :=
  ⟨fun b hb => s.lies b _ (hg b hb) hb, fun b b' pl pl' h1 h2 => s.apart b b' _ _ pl pl' (hg b h1) (hg b' h2) h1 h2, hf⟩

theorem HR.lt {φ : Emb} {g : Hp} (hr : HR φ g w) {b : Nat} (h : (g.blk b).live = true) : b < g.next := by
  rcases Nat.lt_or_ge b g.next with k | k
  · exact k
  · rw [hr.fresh b k] at h; cases h

theorem Sx.eff (s : Sx φ0 h0 w0 ψ At w hi) {g g' : Hp} {w' : World} {χ : Emb} (hr : HR ψ g w) (st : St ψ g w χ g' w') (hg : ∀ b, (g.blk b).live = true → At b (g.blk b)) (hn : h0.next ≤ g.next) (hi' : g'.next ≤ hi)
    {At' : Nat → Blk → Prop} (ha : ∀ b x, At' b x → x.live = true → g'.blk b = x ∨ (g'.next ≤ b ∧ At b x)) : Sx φ0 h0 w0 χ At' w' hi where
  le := s.le.trans st.le
  new b hb := (st.new b (by have := st.nx; omega)).trans (s.new b hb)
  os := st.os.trans s.os
  tape := st.tape.trans s.tape
  output := st.output.trans s.output
  size := Nat.le_trans s.size st.size
  kept k hk hn' := by
    rw [st.kept k (Nat.lt_of_lt_of_le hk s.size) fun b pl ho hp e => ?_, s.kept k hk hn']
    rcases s.host b _ pl (hg b (Blk.live_of_open ho)) ho hp with ⟨b', pl', o', p', e'⟩ | hge
    · exact hn' b' pl' o' p' (e'.trans e)
    · omega
  host b x pl h1 h2 h3 := by
    rcases ha b x h1 (Blk.live_of_open h2) with e | ⟨hb, hat⟩
    · subst e
      rcases st.host b pl h2 h3 with ⟨b', pl', o', p', e'⟩ | hge
      · rcases s.host b' _ pl' (hg b' (Blk.live_of_open o')) o' p' with ⟨y, q, k1, k2, k3⟩ | h
        · exact .inl ⟨y, q, k1, k2, k3.trans e'⟩
        · right; omega
      · right; have := s.size; omega
    · rw [st.new b (.inr hb)] at h3
      exact s.host b x pl hat h2 h3
  roof b x pl h1 h2 h3 := by
    rcases ha b x h1 h2 with e | ⟨hb, hat⟩
    · subst e
      rcases st.roof b pl h2 h3 with ⟨b', pl', o', p', e'⟩ | hge
      · rcases s.roof b' _ pl' (hg b' o') o' p' with ⟨y, q, k1, k2, k3⟩ | h
        · exact .inl ⟨y, q, k1, k2, k3.trans e'⟩
        · right; omega
      · right; have := s.size; omega
    · rw [st.new b (.inr hb)] at h3
      exact s.roof b x pl hat h2 h3
  lies b x h1 h2 := by
    rcases ha b x h1 h2 with e | ⟨hb, hat⟩
    · subst e; exact st.hr.lies b h2
    · obtain ⟨pl, k1, k2⟩ := s.lies b x hat h2
      refine ⟨pl, (st.new b (.inr hb)).trans k1, k2.mono st.le (st.kept _ (k2.lt h2) fun b' pl' o' p' e => ?_)⟩
      have hl' := Blk.live_of_open o'
      have := hr.lt hl'
      exact s.apart b' b _ x pl' pl (hg b' hl') hat hl' h2 (.inl o') p' k1 (by have := st.nx; omega) e
  apart b b' x x' pl pl' h1 h2 l1 l2 ho p1 p2 hne := by
    have key : ∀ {b b' x x' pl pl'}, g'.blk b = x → x.live = true → (x.open_ = true ∨ x'.open_ = true) → χ.at_ b = some pl → (g'.next ≤ b' ∧ At b' x') → x'.live = true → χ.at_ b' = some pl' → pl.blk ≠ pl'.blk := by
      rintro b b' x x' pl pl' rfl l1 ho p1 ⟨hb', hat⟩ l2 p2 heq
      rw [st.new b' (.inr hb')] at p2
      obtain ⟨q, k1, k2⟩ := s.lies b' x' hat l2
      rw [p2] at k1; cases k1
      rcases ho with ho | ho
      · rcases st.host b pl ho p1 with ⟨y, q', o', p', e'⟩ | hge
        · have hly := Blk.live_of_open o'
          have := hr.lt hly
          exact s.apart y b' _ x' q' pl' (hg y hly) hat hly l2 (.inl o') p' p2 (by have := st.nx; omega) (e'.trans heq)
        · have := k2.lt l2; omega
      · rcases st.roof b pl l1 p1 with ⟨y, q', o', p', e'⟩ | hge
        · have := hr.lt o'
          exact s.apart y b' _ x' q' pl' (hg y o') hat o' l2 (.inr ho) p' p2 (by have := st.nx; omega) (e'.trans heq)
        · have := k2.lt l2; omega
    rcases ha b x h1 l1 with e | e
    · rcases ha b' x' h2 l2 with e' | e'
      · subst e; subst e'; exact st.hr.apart b b' pl pl' l1 l2 ho p1 p2 hne
      · exact key e l1 ho p1 e' l2 p2
    · rcases ha b' x' h2 l2 with e' | e'
      · exact (key e' l2 ho.symm p2 e l1 p1).symm
      · rw [st.new b (.inr e.1)] at p1
        rw [st.new b' (.inr e'.1)] at p2
        exact s.apart b b' x x' pl pl' e.2 e'.2 l1 l2 ho p1 p2 hne

theorem Sx.mono (s : Sx φ0 h0 w0 ψ At w hi) {At' : Nat → Blk → Prop} (ha : ∀ b x, At' b x → x.live = true → At b x) : Sx φ0 h0 w0 ψ At' w hi where
  le := s.le
  new := s.new
  os := s.os
  tape := s.tape
  output := s.output
  size := s.size
  kept := s.kept
  host b x pl h1 h2 h3 := s.host b x pl (ha b x h1 (Blk.live_of_open h2)) h2 h3
  roof b x pl h1 h2 h3 := s.roof b x pl (ha b x h1 h2) h2 h3
  lies b x h1 h2 := s.lies b x (ha b x h1 h2) h2
  apart b b' x x' pl pl' h1 h2 l1 l2 := s.apart b b' x x' pl pl' (ha b x h1 l1) (ha b' x' h2 l2) l1 l2

theorem Sx.drew (s : Sx φ0 h0 w0 ψ At w hi) : Sx φ0 h0 w0 ψ At w.drew hi where
  le := s.le
  new := s.new
  os := s.os
  tape := s.tape
  output := s.output
  size := s.size
  kept := s.kept
  host := s.host
  roof := s.roof
  lies b x h1 h2 := let ⟨pl, k1, k2⟩ := s.lies b x h1 h2; ⟨pl, k1, k2.mono (.refl ψ) rfl⟩
  apart := s.apart

theorem Sx.alloc (s : Sx φ0 h0 w0 ψ At w hi) {b : Nat} {x : Blk} {o : Obj} {pl : Place} (hb : h0.next ≤ b) (hbi : b < hi) (hfree : ψ.at_ b = none) (hpl : pl.blk = w.heap.size)
    (hx : ∀ χ w', ψ.Le χ → w'.heap[w.heap.size]? = some o → BlkAt χ w' pl x)
    {At' : Nat → Blk → Prop} (ha : ∀ b' x', At' b' x' → x'.live = true → (b' = b ∧ x' = x) ∨ (b' ≠ b ∧ At b' x')) :
    Sx φ0 h0 w0 ⟨fun y => if y = b then some pl else ψ.at_ y, ψ.sym⟩ At' (w.alloc o) hi := by
  have hle : ψ.Le ⟨fun y => if y = b then some pl else ψ.at_ y, ψ.sym⟩ := ⟨fun y q e => by
    show (if y = b then some pl else ψ.at_ y) = some q
    split
    · rename_i e'; rw [e', hfree] at e; cases e
    · exact e, rfl⟩
  have hnew : (w.alloc o).heap[w.heap.size]? = some o := heap_alloc_new w o
  have at1 : ∀ {q : Place}, (if b = b then some pl else ψ.at_ b) = some q → q = pl := fun e => by rw [if_pos rfl] at e; cases e; rfl
  have at2 : ∀ {y : Nat} {q : Place}, y ≠ b → (if y = b then some pl else ψ.at_ y) = some q → ψ.at_ y = some q := fun hy e => by rwa [if_neg hy] at e
  refine ⟨s.le.trans hle, fun y hy => ?_, s.os, s.tape, s.output, ?_, fun k hk hn => ?_, fun y z q h1 h2 h3 => ?_, fun y z q h1 h2 h3 => ?_, fun y z h1 h2 => ?_, fun y y' z z' q q' h1 h2 l1 l2 ho p1 p2 hne => ?_⟩
  · show (if y = b then some pl else ψ.at_ y) = _
    rw [if_neg (by omega)]
    exact s.new y hy
  · have := s.size
    simp
    omega
  · rw [heap_alloc_old w o k (Nat.lt_of_lt_of_le hk s.size)]
    exact s.kept k hk hn
  · rcases ha y z h1 (Blk.live_of_open h2) with ⟨rfl, rfl⟩ | ⟨hy, hat⟩
    · have := at1 h3; subst this; right; have := s.size; omega
    · exact s.host y z q hat h2 (at2 hy h3)
  · rcases ha y z h1 h2 with ⟨rfl, rfl⟩ | ⟨hy, hat⟩
    · have := at1 h3; subst this; right; have := s.size; omega
    · exact s.roof y z q hat h2 (at2 hy h3)
  · rcases ha y z h1 h2 with ⟨rfl, rfl⟩ | ⟨hy, hat⟩
    · exact ⟨pl, by show (if y = y then some pl else ψ.at_ y) = _; rw [if_pos rfl], hx _ _ hle hnew⟩
    · obtain ⟨q, k1, k2⟩ := s.lies y z hat h2
      exact ⟨q, by show (if y = b then some pl else ψ.at_ y) = _; rw [if_neg hy]; exact k1, k2.mono hle (heap_alloc_old w o _ (k2.lt h2))⟩
  · rcases ha y z h1 l1 with ⟨rfl, rfl⟩ | ⟨hy, hat⟩
    · rcases ha y' z' h2 l2 with ⟨rfl, rfl⟩ | ⟨hy', hat'⟩
      · exact absurd rfl hne
      · have := at1 p1; subst this
        have := at2 hy' p2
        obtain ⟨r, k1, k2⟩ := s.lies y' z' hat' l2
        rw [this] at k1; cases k1
        have := k2.lt l2; omega
    · rcases ha y' z' h2 l2 with ⟨rfl, rfl⟩ | ⟨hy', hat'⟩
      · have := at1 p2; subst this
        have := at2 hy p1
        obtain ⟨r, k1, k2⟩ := s.lies y z hat l1
        rw [this] at k1; cases k1
        have := k2.lt l1; omega
      · exact s.apart y y' z z' q q' hat hat' l1 l2 ho (at2 hy p1) (at2 hy' p2) hne

theorem Sx.start {φ : Emb} {h : Hp} (hr : HR φ h w) : Sx φ h w φ (fun b x => h.blk b = x) w hi where
  le := .refl φ
  new _ _ := rfl
  os := rfl
  tape := rfl
  output := rfl
  size := Nat.le_refl _
  kept _ _ _ := rfl
  host b x pl h1 h2 h3 := .inl ⟨b, pl, h1 ▸ h2, h3, rfl⟩
  roof b x pl h1 h2 h3 := .inl ⟨b, pl, h1 ▸ h2, h3, rfl⟩
  lies b x h1 h2 := by subst h1; exact hr.lies b h2
  apart b b' x x' pl pl' h1 h2 l1 l2 := by subst h1; subst h2; exact hr.apart b b' pl pl' l1 l2

theorem Sx.done {g : Hp} (s : Sx φ0 h0 w0 ψ At w g.next) (hg : ∀ b, (g.blk b).live = true → At b (g.blk b)) (hf : ∀ b, g.next ≤ b → g.blk b = .gone) (nx : h0.next ≤ g.next) : St φ0 h0 w0 ψ g w where
  le := s.le
  new := s.new
  nx := nx
  os := s.os
  tape := s.tape
  output := s.output
  size := s.size
  kept := s.kept
  host b pl h1 h2 := s.host b _ pl (hg b (Blk.live_of_open h1)) h1 h2
  roof b pl h1 h2 := s.roof b _ pl (hg b h1) h1 h2
  hr := s.hr hg hf

/-! ### The heaps of the one order -/

section
variable {env : Env} {call : Nat → List V → Hp → Option (V × Hp)} {L : List (Nat × DO)} {fr : Nat → Fr} {h : Nat → Hp} {v : Nat → V} {yes : Nat → Bool}

theorem Can.nx (can : Can env call L fr h v yes) (hrise : Rises call) {p : Nat} {x : Nat × DO} (hx : L[p]? = some x) : (h p).next ≤ (h (p + 1)).next := by
  rcases can.step p x hx with ⟨_, _, k⟩ | ⟨_, _, _, k⟩
  · exact opV_next hrise k
  · rw [k]; exact Nat.le_refl _

theorem Can.mono (can : Can env call L fr h v yes) (hrise : Rises call) {p : Nat} : ∀ {q : Nat}, p ≤ q → q ≤ L.length → (h p).next ≤ (h q).next
  | 0, h1, _ => by rw [show p = 0 by omega]; exact Nat.le_refl _
  | q + 1, h1, h2 => by
    rcases Nat.lt_or_ge p (q + 1) with hlt | hge
    · exact Nat.le_trans (can.mono hrise (q := q) (by omega) (by omega)) (can.nx hrise (List.getElem?_eq_getElem (by omega)))
    · rw [show p = q + 1 by omega]; exact Nat.le_refl _

theorem Can.quiet (can : Can env call L fr h v yes) {p : Nat} {x : Nat × DO} (hx : L[p]? = some x) (hq : isE x.2.o.op = false) : h (p + 1) = h p ∨ ∃ k, h (p + 1) = (h p).new k := by
  rcases can.step p x hx with ⟨_, _, k⟩ | ⟨_, _, _, k⟩
  · cases hm : x.2.o.op <;> rw [hm] at k hq
    case e => cases hq
    all_goals
      simp only [opV] at k
      repeat' (first | (cases k; done) | split at k)
      all_goals (simp only [Option.some.injEq, Prod.mk.injEq] at k; first | exact .inl k.2.symm | exact .inr ⟨_, k.2.symm⟩)
  · exact .inl k

theorem Can.range (can : Can env call L fr h v yes) {c : Nat} (hf : ∀ b, (h c).next ≤ b → (h c).blk b = .gone) : ∀ {q : Nat}, c ≤ q → q ≤ L.length → (∀ p x, c ≤ p → p < q → L[p]? = some x → isE x.2.o.op = false) →
    (∀ b, (h q).next ≤ b → (h q).blk b = .gone) ∧ ∀ b, b < (h q).next → (b < (h c).next ∧ (h q).blk b = (h c).blk b) ∨ ∃ p, c ≤ p ∧ p < q ∧ b = (h p).next ∧ h (p + 1) = (h p).new ((h q).blk b)
  | 0, h1, _, _ => by
    rw [show c = 0 by omega] at hf ⊢
    exact ⟨hf, fun b hb => .inl ⟨hb, rfl⟩⟩
  | q + 1, h1, h2, hq => by
    rcases Nat.lt_or_ge c (q + 1) with hlt | hge
    case inr =>
      rw [show c = q + 1 by omega] at hf ⊢
      exact ⟨hf, fun b hb => .inl ⟨hb, rfl⟩⟩
    obtain ⟨r1, r2⟩ := can.range hf (q := q) (by omega) (by omega) fun p x a b => hq p x a (by omega)
    have hx : L[q]? = some L[q] := List.getElem?_eq_getElem (by omega)
    rcases can.quiet hx (hq q _ (by omega) (by omega) hx) with e | ⟨k, e⟩
    · rw [e]
      refine ⟨r1, fun b hb => ?_⟩
      rcases r2 b hb with r | ⟨p, a, b', c', d⟩
      · exact .inl r
      · exact .inr ⟨p, a, by omega, c', d⟩
    · refine ⟨fun b hb => ?_, fun b hb => ?_⟩
      · rw [e] at hb ⊢
        have hb : (h q).next + 1 ≤ b := hb
        rw [blk_new, if_neg (by omega)]
        exact r1 b (by omega)
      · have hb' : b < (h q).next + 1 := by rw [e] at hb; exact hb
        by_cases eb : b = (h q).next
        · right
          refine ⟨q, by omega, by omega, eb, ?_⟩
          rw [e, blk_new, if_pos eb]
        · rw [e, blk_new, if_neg eb]
          rcases r2 b (by omega) with r | ⟨p, a, b', c', d⟩
          · exact .inl r
          · exact .inr ⟨p, a, by omega, c', d⟩

theorem ev_putO {f : Fr} {dst : Option Nat} {x : V} {t : Nat} : ev (putO f dst x) (.tmp t) = if dst = some t then x else ev f (.tmp t) := by
  cases dst with
  | none => simp [putO]
  | some d =>
    simp only [putO, ev, T.get_set]
    by_cases e : t = d
    · subst e; simp
    · rw [if_neg e, if_neg (by simp; omega)]

theorem Can.ev_at (can : Can env call L fr h v yes) (t : Nat) : ∀ {q : Nat}, q ≤ L.length →
    (∃ p x, p < q ∧ L[p]? = some x ∧ x.2.o.dst = some t ∧ ev (fr q) (.tmp t) = v p) ∨ ((∀ p x, p < q → L[p]? = some x → x.2.o.dst ≠ some t) ∧ ev (fr q) (.tmp t) = ev (fr 0) (.tmp t))
  | 0, _ => .inr ⟨fun p x hp => by omega, rfl⟩
  | q + 1, hq => by
    have hx : L[q]? = some L[q] := List.getElem?_eq_getElem (by omega)
    rw [can.put q _ hx, ev_putO]
    by_cases e : L[q].2.o.dst = some t
    · rw [if_pos e]
      exact .inl ⟨q, _, by omega, hx, e, rfl⟩
    · rw [if_neg e]
      rcases can.ev_at t (q := q) (by omega) with ⟨p, x, a, b, c, d⟩ | ⟨a, b⟩
      · exact .inl ⟨p, x, by omega, b, c, d⟩
      · refine .inr ⟨fun p x hp hpx => ?_, b⟩
        rcases Nat.lt_or_ge p q with hlt | hge
        · exact a p x hlt hpx
        · rw [show p = q by omega, hx] at hpx
          cases hpx; exact e

end

end Go.Vm
