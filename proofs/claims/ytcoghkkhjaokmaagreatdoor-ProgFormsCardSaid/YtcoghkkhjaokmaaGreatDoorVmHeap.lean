/-
  Vm, part 6: the heap of the small machine against the model's: reading, writing, new blocks.
-/
import Derived.Test.YtcoghkkhjaokmaaGreatDoorVmRel
import Derived.Deep.MidRow
import Derived.MapKept
namespace Go.Vm

/-- The cells of a block. -/
def CellsAt (φ : Emb) (w : World) (pl : Place) (l : List V) : Prop :=
  pl.base = 0 ∧ l.length ≤ pl.ext ∧ ∃ c e fz, w.heap[pl.blk]? = some (.cells c e fz) ∧ pl.base + pl.ext ≤ c.size ∧ (fz.1 = fz.2 ∨ c.size ≤ fz.1) ∧
    ∀ (i : Nat) (v : V), l[i]? = some v → ∃ u, c[pl.base + i]? = some u ∧ VR φ v u

def EntR (φ : Emb) (kk : Option IntKind) (p : V × V) (e : MapEntry) : Prop := keyOk kk p.1 = true ∧ VR φ p.1 e.key ∧ VR φ p.2 e.val

/-- The entries of a map. -/
def MapAt (φ : Emb) (w : World) (pl : Place) (kk : Option IntKind) (l : List (V × V)) : Prop :=
  ∃ es clock, w.heap[pl.blk]? = some (.map es clock) ∧ MapKept.Stamped es clock ∧ l.length = es.size ∧ ∀ (i : Nat) (p : V × V) (e : MapEntry), l[i]? = some p → es[i]? = some e → EntR φ kk p e

/-- The cells of a block that is only read. -/
def CellsRo (φ : Emb) (w : World) (pl : Place) (l : List V) : Prop :=
  l.length ≤ pl.ext ∧ ∃ c e fz, w.heap[pl.blk]? = some (.cells c e fz) ∧ pl.base + pl.ext ≤ c.size ∧ ∀ (i : Nat) (v : V), l[i]? = some v → ∃ u, c[pl.base + i]? = some u ∧ VR φ v u

theorem CellsAt.ro {φ : Emb} {w : World} {pl : Place} {l : List V} (h : CellsAt φ w pl l) : CellsRo φ w pl l :=
  let ⟨_, h1, c, e, fz, h2, h3, _, h4⟩ := h; ⟨h1, c, e, fz, h2, h3, h4⟩

def BlkAt (φ : Emb) (w : World) (pl : Place) : Blk → Prop
  | .cells l false => CellsAt φ w pl l
  | .cells l true => CellsRo φ w pl l
  | .map kk l => MapAt φ w pl kk l
  | .gone => True
  | .whole l => ∃ c e fz, w.heap[pl.blk]? = some (.cells c e fz) ∧ VRs φ l c.toList

def Blk.live : Blk → Bool
  | .gone => false
  | _ => true

def Blk.open_ : Blk → Bool
  | .cells _ ro => !ro
  | .map _ _ => true
  | .gone => false
  | .whole _ => false

theorem Blk.live_of_open {x : Blk} (h : x.open_ = true) : x.live = true := by cases x <;> simp_all [Blk.live, Blk.open_]

structure HR (φ : Emb) (h : Hp) (w : World) : Prop where
  lies : ∀ b, (h.blk b).live = true → ∃ pl, φ.at_ b = some pl ∧ BlkAt φ w pl (h.blk b)
  apart : ∀ b b' pl pl', (h.blk b).live = true → (h.blk b').live = true → ((h.blk b).open_ = true ∨ (h.blk b').open_ = true) → φ.at_ b = some pl → φ.at_ b' = some pl' → b ≠ b' → pl.blk ≠ pl'.blk
  fresh : ∀ b, h.next ≤ b → h.blk b = .gone

/-- What a step leaves alone, and where its blocks lie. -/
structure St (φ : Emb) (h : Hp) (w : World) (ψ : Emb) (h' : Hp) (w' : World) : Prop where
  le : φ.Le ψ
  new : ∀ b, (b < h.next ∨ h'.next ≤ b) → ψ.at_ b = φ.at_ b
  nx : h.next ≤ h'.next
  os : w'.os = w.os
  tape : w'.tape = w.tape
  output : w'.output = w.output
  size : w.heap.size ≤ w'.heap.size
  kept : ∀ k, k < w.heap.size → (∀ b pl, (h.blk b).open_ = true → φ.at_ b = some pl → pl.blk ≠ k) → w'.heap[k]? = w.heap[k]?
  host : ∀ b pl, (h'.blk b).open_ = true → ψ.at_ b = some pl → (∃ b' pl', (h.blk b').open_ = true ∧ φ.at_ b' = some pl' ∧ pl'.blk = pl.blk) ∨ w.heap.size ≤ pl.blk
  roof : ∀ b pl, (h'.blk b).live = true → ψ.at_ b = some pl → (∃ b' pl', (h.blk b').live = true ∧ φ.at_ b' = some pl' ∧ pl'.blk = pl.blk) ∨ w.heap.size ≤ pl.blk
  hr : HR ψ h' w'

theorem BlkAt.ro {φ : Emb} {w : World} {pl : Place} {l : List V} {ro : Bool} (h : BlkAt φ w pl (.cells l ro)) : CellsRo φ w pl l := by
  cases ro with
  | true => exact h
  | false => exact CellsAt.ro h

theorem BlkAt.lt {φ : Emb} {w : World} {pl : Place} {x : Blk} (hl : x.live = true) (h : BlkAt φ w pl x) : pl.blk < w.heap.size := by
  cases x with
  | cells l ro =>
    obtain ⟨_, c, e, fz, hc, _⟩ := h.ro
    exact (Array.getElem?_eq_some_iff.1 hc).1
  | map kk l =>
    obtain ⟨es, clock, hc, _⟩ := h
    exact (Array.getElem?_eq_some_iff.1 hc).1
  | gone => simp [Blk.live] at hl
  | whole l =>
    obtain ⟨c, e, fz, hc, _⟩ := h
    exact (Array.getElem?_eq_some_iff.1 hc).1

theorem BlkAt.mono {φ ψ : Emb} (hle : φ.Le ψ) {w w' : World} {pl : Place} {x : Blk} (hw : w'.heap[pl.blk]? = w.heap[pl.blk]?) (h : BlkAt φ w pl x) : BlkAt ψ w' pl x := by
  cases x with
  | cells l ro =>
    cases ro with
    | false =>
      obtain ⟨hb0, hl, c, e, fz, hc, hs, hf, hv⟩ := h
      exact ⟨hb0, hl, c, e, fz, hw.trans hc, hs, hf, fun i v hi => let ⟨u, h1, h2⟩ := hv i v hi; ⟨u, h1, h2.mono hle⟩⟩
    | true =>
      obtain ⟨hl, c, e, fz, hc, hs, hv⟩ := h
      exact ⟨hl, c, e, fz, hw.trans hc, hs, fun i v hi => let ⟨u, h1, h2⟩ := hv i v hi; ⟨u, h1, h2.mono hle⟩⟩
  | map kk l =>
    obtain ⟨es, clock, hc, hst, hl, hv⟩ := h
    exact ⟨es, clock, hw.trans hc, hst, hl, fun i p e h1 h2 => let ⟨a, b, c⟩ := hv i p e h1 h2; ⟨a, b.mono hle, c.mono hle⟩⟩
  | gone => trivial
  | whole l =>
    obtain ⟨c, e, fz, hc, hv⟩ := h
    exact ⟨c, e, fz, hw.trans hc, hv.mono hle⟩

theorem St.refl {φ : Emb} {h : Hp} {w : World} (hr : HR φ h w) : St φ h w φ h w :=
  ⟨.refl φ, fun _ _ => rfl, Nat.le_refl _, rfl, rfl, rfl, Nat.le_refl _, fun _ _ _ => rfl, fun b pl h1 h2 => .inl ⟨b, pl, h1, h2, rfl⟩, fun b pl h1 h2 => .inl ⟨b, pl, h1, h2, rfl⟩, hr⟩

/-- A draw. -/
theorem HR.drew {φ : Emb} {h : Hp} {w : World} (hr : HR φ h w) : HR φ h w.drew :=
  ⟨fun b hb => let ⟨pl, h1, h2⟩ := hr.lies b hb; ⟨pl, h1, h2.mono (.refl φ) rfl⟩, hr.apart, hr.fresh⟩

theorem St.drew {φ : Emb} {h : Hp} {w : World} (hr : HR φ h w) : St φ h w φ h w.drew :=
  ⟨.refl φ, fun _ _ => rfl, Nat.le_refl _, rfl, rfl, rfl, Nat.le_refl _, fun _ _ _ => rfl, fun b pl h1 h2 => .inl ⟨b, pl, h1, h2, rfl⟩, fun b pl h1 h2 => .inl ⟨b, pl, h1, h2, rfl⟩, hr.drew⟩

theorem St.trans {φ ψ χ : Emb} {h h1 h2 : Hp} {w w1 w2 : World} (a : St φ h w ψ h1 w1) (b : St ψ h1 w1 χ h2 w2) : St φ h w χ h2 w2 where
  le := a.le.trans b.le
  new x hx := (b.new x (by have := a.nx; have := b.nx; omega)).trans (a.new x (by have := a.nx; have := b.nx; omega))
  nx := Nat.le_trans a.nx b.nx
  os := b.os.trans a.os
  tape := b.tape.trans a.tape
  output := b.output.trans a.output
  size := Nat.le_trans a.size b.size
  kept k hk hn := by
    rw [b.kept k (Nat.lt_of_lt_of_le hk a.size) fun x pl ho hp e => ?_, a.kept k hk hn]
    rcases a.host x pl ho hp with ⟨x', pl', o', p', e'⟩ | hge
    · exact hn x' pl' o' p' (e'.trans e)
    · omega
  host x pl ho hp := by
    rcases b.host x pl ho hp with ⟨x', pl', o', p', e'⟩ | hge
    · rcases a.host x' pl' o' p' with ⟨y, ply, oy, py, ey⟩ | hge
      · exact .inl ⟨y, ply, oy, py, ey.trans e'⟩
      · right; omega
    · right; have := a.size; omega
  roof x pl ho hp := by
    rcases b.roof x pl ho hp with ⟨x', pl', o', p', e'⟩ | hge
    · rcases a.roof x' pl' o' p' with ⟨y, ply, oy, py, ey⟩ | hge
      · exact .inl ⟨y, ply, oy, py, ey.trans e'⟩
      · right; omega
    · right; have := a.size; omega
  hr := b.hr

/-! ### Blocks by number -/

theorem blk_put (h : Hp) (b : Nat) (x : Blk) (b' : Nat) : (h.put b x).blk b' = if b' = b then x else h.blk b' := by
  simp only [Hp.put, Hp.blk, T.get_set]
  by_cases e : b' = b <;> simp [e]

theorem blk_new (h : Hp) (x : Blk) (b' : Nat) : (h.new x).blk b' = if b' = h.next then x else h.blk b' := by
  simp only [Hp.new, Hp.blk, T.get_set]
  by_cases e : b' = h.next <;> simp [e]

theorem cell_of {w : World} {k : Nat} {c : Array Value} {e : TypeId} {fz : Nat × Nat} (h : w.heap[k]? = some (.cells c e fz)) (o : Nat) : w.cell? ⟨k, o, none⟩ = c[o]? := by
  simp [World.cell?, h]

theorem frozen_of {w : World} {k : Nat} {c : Array Value} {e : TypeId} {fz : Nat × Nat} (h : w.heap[k]? = some (.cells c e fz)) (hf : fz.1 = fz.2 ∨ c.size ≤ fz.1) (o : Nat) (ho : o < c.size) :
    w.frozen? ⟨k, o, none⟩ = false := by
  obtain ⟨lo, hi⟩ := fz
  simp only [World.frozen?, h]
  rcases hf with hf | hf
  · have hf : lo = hi := hf
    subst hf
    simp only [Bool.and_eq_false_iff, decide_eq_false_iff_not]; omega
  · have hf : c.size ≤ lo := hf
    simp only [Bool.and_eq_false_iff, decide_eq_false_iff_not]; omega

/-- What is read: the model's cells. -/
theorem HR.read {φ : Emb} {h : Hp} {w : World} (hr : HR φ h w) {b o n : Nat} {l : List V} (hl : h.read b o n = some l) :
    ∃ pl us, φ.at_ b = some pl ∧ l.length = n ∧ VRs φ l us ∧ w.rangeAt pl.blk (pl.base + o) us := by
  unfold Hp.read at hl
  cases hb : h.blk b with
  | gone => simp [hb] at hl
  | whole l => simp [hb] at hl
  | map kk m => simp [hb] at hl
  | cells c ro =>
    rw [hb] at hl
    obtain ⟨rfl, hlen⟩ := takeX_eq hl
    obtain ⟨pl, hpl, hat⟩ := hr.lies b (by simp [hb, Blk.live])
    rw [hb] at hat
    obtain ⟨hle, cs, e, fz, hc, hs, hv⟩ := hat.ro
    have hlen' : n ≤ c.length - o := by simpa using hlen
    have hl2 : ((c.drop o).take n).length = n := by simp; omega
    -- the model's cells
    refine ⟨pl, (List.range n).map (fun j => (cs[pl.base + o + j]?).getD (.bool false)), hpl, hl2, ?_, ?_⟩
    · refine VRs.of_get (by simp; omega) fun i v u h1 h2 => ?_
      rw [List.getElem?_take, List.getElem?_drop] at h1
      split at h1
      · rename_i hi
        obtain ⟨u', e1, e2⟩ := hv _ _ h1
        simp only [List.getElem?_map, List.getElem?_range hi, Option.map_some, Option.some.injEq] at h2
        rw [show pl.base + o + i = pl.base + (o + i) by omega, e1] at h2
        simp at h2
        exact h2 ▸ e2
      · cases h1
    · intro j v hj
      have hjn : j < n := by
        have := (List.getElem?_eq_some_iff.1 hj).1
        simpa using this
      simp only [List.getElem?_map, List.getElem?_range hjn, Option.map_some, Option.some.injEq] at hj
      rw [cell_of hc]
      have hlt : o + j < c.length := by omega
      obtain ⟨u', e1, _⟩ := hv (o + j) c[o + j] (by simp [hlt])
      rw [show pl.base + o + j = pl.base + (o + j) by omega] at hj ⊢
      rw [e1] at hj ⊢
      simp at hj
      rw [hj]

/-- A new block. -/
theorem HR.new {φ : Emb} {h : Hp} {w : World} (hr : HR φ h w) (x : Blk) (o : Obj) (pl : Place) (hp : pl.blk = w.heap.size)
    (hfr : φ.at_ h.next = none) (hx : ∀ ψ w', φ.Le ψ → w'.heap[w.heap.size]? = some o → BlkAt ψ w' pl x) :
    St φ h w ⟨fun b => if b = h.next then some pl else φ.at_ b, φ.sym⟩ (h.new x) (w.alloc o) := by
  have hle : φ.Le ⟨fun b => if b = h.next then some pl else φ.at_ b, φ.sym⟩ := ⟨fun b q e => by
    show (if b = h.next then some pl else φ.at_ b) = some q
    split
    · rename_i e'; rw [e', hfr] at e; cases e
    · exact e, rfl⟩
  have hnew : (w.alloc o).heap[w.heap.size]? = some o := heap_alloc_new w o
  refine ⟨hle, fun b hb => ?_, Nat.le_succ _, rfl, rfl, rfl, by simp, fun k hk _ => heap_alloc_old w o k hk, fun b q ho hq => ?_, fun b q ho hq => ?_, ?_⟩
  · have : b ≠ h.next := by
      rcases hb with hb | hb
      · omega
      · have : h.next + 1 ≤ b := hb
        omega
    show (if b = h.next then some pl else φ.at_ b) = _
    rw [if_neg this]
  · have hq' : (if b = h.next then some pl else φ.at_ b) = some q := hq
    by_cases e : b = h.next
    · rw [if_pos e] at hq'; cases hq'; right; omega
    · rw [if_neg e] at hq'
      rw [blk_new, if_neg e] at ho
      exact .inl ⟨b, q, ho, hq', rfl⟩
  · have hq' : (if b = h.next then some pl else φ.at_ b) = some q := hq
    by_cases e : b = h.next
    · rw [if_pos e] at hq'; cases hq'; right; omega
    · rw [if_neg e] at hq'
      rw [blk_new, if_neg e] at ho
      exact .inl ⟨b, q, ho, hq', rfl⟩
  · refine ⟨fun b hb => ?_, fun b b' q q' hb hb' ho hq hq' hne => ?_, fun b hb => ?_⟩
    · rw [blk_new] at hb ⊢
      by_cases e : b = h.next
      · rw [if_pos e]
        refine ⟨pl, ?_, hx _ _ hle hnew⟩
        show (if b = h.next then some pl else φ.at_ b) = _
        rw [if_pos e]
      · rw [if_neg e] at hb ⊢
        obtain ⟨q, h1, h2⟩ := hr.lies b hb
        refine ⟨q, ?_, h2.mono hle (heap_alloc_old w o _ (h2.lt hb))⟩
        show (if b = h.next then some pl else φ.at_ b) = _
        rw [if_neg e]; exact h1
    · have hq : (if b = h.next then some pl else φ.at_ b) = some q := hq
      have hq' : (if b' = h.next then some pl else φ.at_ b') = some q' := hq'
      rw [blk_new] at hb hb'
      rw [blk_new, blk_new] at ho
      by_cases e : b = h.next
      · rw [if_pos e] at hq; cases hq
        have e' : b' ≠ h.next := fun e' => hne (e.trans e'.symm)
        rw [if_neg e'] at hq' hb'
        obtain ⟨r, h1, h2⟩ := hr.lies b' hb'
        rw [h1] at hq'; cases hq'
        have := h2.lt hb'; omega
      · rw [if_neg e] at hq hb
        by_cases e' : b' = h.next
        · rw [if_pos e'] at hq'; cases hq'
          obtain ⟨r, h1, h2⟩ := hr.lies b hb
          rw [h1] at hq; cases hq
          have := h2.lt hb; omega
        · rw [if_neg e'] at hq' hb'
          rw [if_neg e, if_neg e'] at ho
          exact hr.apart b b' q q' hb hb' ho hq hq' hne
    · rw [blk_new]
      have : h.next + 1 ≤ b := hb
      rw [if_neg (by omega)]
      exact hr.fresh b (by omega)

/-- The cells behind a store. -/
theorem heap_setCells (k : Nat) : ∀ (vs : List Value) (o : Nat) (w : World) (c : Array Value) (e : TypeId) (fz : Nat × Nat), w.heap[k]? = some (.cells c e fz) → o + vs.length ≤ c.size →
    ∃ c', (w.setCells k o vs).heap[k]? = some (.cells c' e fz) ∧ c'.size = c.size ∧ (∀ i, c'[i]? = if o ≤ i ∧ i < o + vs.length then vs[i - o]? else c[i]?)
  | [], o, w, c, e, fz, h, _ => ⟨c, h, rfl, fun i => by rw [if_neg (fun hh => by simp at hh; omega)]⟩
  | v :: r, o, w, c, e, fz, h, hl => by
    have hs : (w.setCell ⟨k, o, none⟩ v).heap[k]? = some (.cells (c.setIfInBounds o v) e fz) := by
      have hlt := (Array.getElem?_eq_some_iff.1 h).1
      simp only [World.setCell, Array.getElem?_modify, if_true, h]
      simp
    obtain ⟨c', h1, h2, h3⟩ := heap_setCells k r (o + 1) _ _ e fz hs (by simp at hl ⊢; omega)
    refine ⟨c', h1, by simpa using h2, fun i => ?_⟩
    rw [h3 i]
    simp only [List.length_cons] at hl ⊢
    by_cases c1 : o + 1 ≤ i ∧ i < o + 1 + r.length
    · rw [if_pos c1, if_pos (by omega)]
      rw [show i - o = (i - (o + 1)) + 1 by omega]
      simp
    · rw [if_neg c1]
      by_cases e1 : i = o
      · subst e1
        rw [if_pos (by omega)]
        simp [Array.getElem?_setIfInBounds]
        omega
      · rw [if_neg (by omega), Array.getElem?_setIfInBounds, if_neg (by omega)]

theorem heap_setCells_other (k : Nat) : ∀ (vs : List Value) (o : Nat) (w : World) (j : Nat), j ≠ k → (w.setCells k o vs).heap[j]? = w.heap[j]?
  | [], _, _, _, _ => rfl
  | v :: r, o, w, j, h => by
    rw [World.setCells, heap_setCells_other k r (o + 1) _ j h]
    exact heap_setCell_other w ⟨k, o, none⟩ j v h

theorem size_setCells (k : Nat) : ∀ (vs : List Value) (o : Nat) (w : World), (w.setCells k o vs).heap.size = w.heap.size
  | [], _, _ => rfl
  | v :: r, o, w => by rw [World.setCells, size_setCells k r]; simp

theorem rest_setCells (k : Nat) : ∀ (vs : List Value) (o : Nat) (w : World), (w.setCells k o vs).os = w.os ∧ (w.setCells k o vs).tape = w.tape ∧ (w.setCells k o vs).output = w.output
  | [], _, _ => ⟨rfl, rfl, rfl⟩
  | v :: r, o, w => by rw [World.setCells]; exact rest_setCells k r (o + 1) _

/-- A store into a block. -/
theorem HR.store {φ : Emb} {h h' : Hp} {w : World} (hr : HR φ h w) {b o : Nat} {vs : List V} {us : List Value} (hv : VRs φ vs us) (hw : h.write b o vs = some h') :
    ∃ pl, φ.at_ b = some pl ∧ w.there pl.blk (pl.base + o) us.length ∧ allFlat vs = true ∧ St φ h w φ h' (w.setCells pl.blk (pl.base + o) us) := by
  unfold Hp.write at hw
  cases hb : h.blk b with
  | gone => simp [hb] at hw
  | whole l => simp [hb] at hw
  | map kk m => simp [hb] at hw
  | cells l ro =>
    rw [hb] at hw
    cases ro with
    | true => simp at hw
    | false =>
      simp only [nble_d, Bool.cond_decide] at hw
      split at hw
      case isFalse => cases hw
      rename_i hlen
      cases hfl : allFlat vs with
      | false => simp [hfl] at hw
      | true =>
        simp only [hfl, cond_true, Option.some.injEq] at hw
        subst hw
        obtain ⟨pl, hpl, hat⟩ := hr.lies b (by simp [hb, Blk.live])
        rw [hb] at hat
        obtain ⟨hb0, hle, c, e, fz, hc, hs, hf, hcs⟩ := hat
        have hul := hv.length
        obtain ⟨c', g1, g2, g3⟩ := heap_setCells pl.blk us (pl.base + o) w c e fz hc (by omega)
        obtain ⟨r1, r2, r3⟩ := rest_setCells pl.blk us (pl.base + o) w
        refine ⟨pl, hpl, fun j hj => ⟨?_, ?_⟩, rfl, ⟨.refl φ, fun _ _ => rfl, Nat.le_refl _, r1, r2, r3, by rw [size_setCells]; exact Nat.le_refl _, fun k hk hn => ?_, fun x q ho hq => ?_, fun x q ho hq => ?_, ?_⟩⟩
        · rw [cell_of hc]
          have : pl.base + o + j < c.size := by omega
          simp [this]
        · exact frozen_of hc hf _ (by omega)
        · refine heap_setCells_other _ _ _ _ _ fun ek => hn b pl (by simp [hb, Blk.open_]) hpl ek.symm
        · rw [blk_put] at ho
          by_cases ex : x = b
          · subst ex; exact .inl ⟨x, q, by simp [hb, Blk.open_], hq, rfl⟩
          · rw [if_neg ex] at ho; exact .inl ⟨x, q, ho, hq, rfl⟩
        · rw [blk_put] at ho
          by_cases ex : x = b
          · subst ex; exact .inl ⟨x, q, by simp [hb, Blk.live], hq, rfl⟩
          · rw [if_neg ex] at ho; exact .inl ⟨x, q, ho, hq, rfl⟩
        · refine ⟨fun x hx => ?_, fun x x' q q' hx hx' ho hq hq' hne => ?_, fun x hx => ?_⟩
          · rw [blk_put] at hx ⊢
            by_cases ex : x = b
            · rw [if_pos ex]
              subst ex
              refine ⟨pl, hpl, hb0, by rw [splice_length _ _ _ hlen]; exact hle, c', e, fz, g1, by rw [g2]; exact hs, by rw [g2]; exact hf, fun i v hi => ?_⟩
              rw [splice_get _ _ _ _ hlen] at hi
              rw [g3]
              by_cases c1 : o ≤ i ∧ i < o + vs.length
              · rw [if_pos c1] at hi
                rw [if_pos (by omega)]
                rw [show pl.base + i - (pl.base + o) = i - o by omega]
                exact hv.get hi
              · rw [if_neg c1] at hi
                rw [if_neg (by omega)]
                exact hcs i v hi
            · rw [if_neg ex] at hx ⊢
              obtain ⟨q, h1, h2⟩ := hr.lies x hx
              refine ⟨q, h1, h2.mono (.refl φ) (heap_setCells_other _ _ _ _ _ ?_)⟩
              exact hr.apart x b q pl hx (by simp [hb, Blk.live]) (.inr (by simp [hb, Blk.open_])) h1 hpl ex
          · have key : ∀ y, ((h.put b (.cells (splice l o vs) false)).blk y).live = true → (h.blk y).live = true := fun y hy => by
              rw [blk_put] at hy
              by_cases ey : y = b
              · rw [ey, hb]; rfl
              · rwa [if_neg ey] at hy
            have keyO : ∀ y, ((h.put b (.cells (splice l o vs) false)).blk y).open_ = true → (h.blk y).open_ = true := fun y hy => by
              rw [blk_put] at hy
              by_cases ey : y = b
              · rw [ey, hb]; rfl
              · rwa [if_neg ey] at hy
            exact hr.apart x x' q q' (key x hx) (key x' hx') (ho.imp (keyO x) (keyO x')) hq hq' hne
          · rw [blk_put]
            have : x ≠ b := fun e => by have := hr.fresh x hx; rw [e, hb] at this; cases this
            rw [if_neg this]
            exact hr.fresh x hx

/-- A block that is let go. -/
theorem HR.gone {φ : Emb} {h : Hp} {w : World} (hr : HR φ h w) (b : Nat) : HR φ (h.put b .gone) w := by
  have key : ∀ y, ((h.put b .gone).blk y).live = true → y ≠ b ∧ (h.blk y).live = true := fun y hy => by
    rw [blk_put] at hy
    by_cases ey : y = b
    · rw [if_pos ey] at hy; cases hy
    · rw [if_neg ey] at hy; exact ⟨ey, hy⟩
  refine ⟨fun x hx => ?_, fun x x' q q' hx hx' ho => hr.apart x x' q q' (key x hx).2 (key x' hx').2 (by rwa [blk_put, if_neg (key x hx).1, blk_put, if_neg (key x' hx').1] at ho), fun x hx => ?_⟩
  · obtain ⟨h1, h2⟩ := key x hx
    rw [blk_put, if_neg h1]
    exact hr.lies x h2
  · rw [blk_put]
    split
    · rfl
    · exact hr.fresh x hx

end Go.Vm
