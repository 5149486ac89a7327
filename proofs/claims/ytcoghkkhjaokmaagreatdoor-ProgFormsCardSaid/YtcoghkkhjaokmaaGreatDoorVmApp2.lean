/-
  Vm, part 16: append against the small machine's.
-/
import Derived.Test.YtcoghkkhjaokmaaGreatDoorVmApp
namespace Go.Vm

variable {P : Program} {φ : Emb}

theorem St.of_gone {h h' : Hp} {w w' : World} {ψ : Emb} (b : Nat) (s : St φ (h.put b .gone) w ψ h' w') : St φ h w ψ h' w' where
  le := s.le
  new := s.new
  nx := s.nx
  os := s.os
  tape := s.tape
  output := s.output
  size := s.size
  kept k hk hn := s.kept k hk fun x pl ho hp => by
    rw [blk_put] at ho
    by_cases e : x = b
    · rw [if_pos e] at ho; cases ho
    · rw [if_neg e] at ho; exact hn x pl ho hp
  host x pl ho hp := by
    rcases s.host x pl ho hp with ⟨y, q, h1, h2, h3⟩ | h
    · rw [blk_put] at h1
      by_cases e : y = b
      · rw [if_pos e] at h1; cases h1
      · rw [if_neg e] at h1; exact .inl ⟨y, q, h1, h2, h3⟩
    · exact .inr h
  roof x pl ho hp := by
    rcases s.roof x pl ho hp with ⟨y, q, h1, h2, h3⟩ | h
    · rw [blk_put] at h1
      by_cases e : y = b
      · rw [if_pos e] at h1; cases h1
      · rw [if_neg e] at h1; exact .inl ⟨y, q, h1, h2, h3⟩
    · exact .inr h
  hr := s.hr

/-- The same block, from another place on, under a new number. -/
theorem HR.consume {h : Hp} {w : World} (hr : HR φ h w) {b : Nat} {l : List V} (hb : h.blk b = .cells l false) {pl : Place} (hp : φ.at_ b = some pl) (hfr : φ.at_ h.next = none)
    {o : Nat} (ho : o = 0) {old new : List V} {us : List Value} (hold : takeX old.length (l.drop o) = some old) (hnew : VRs φ new us) (hext : o + old.length + new.length ≤ pl.ext) :
    St φ h w ⟨fun x => if x = h.next then some ⟨pl.blk, pl.base + o, pl.ext - o⟩ else φ.at_ x, φ.sym⟩ ((h.put b .gone).new (.cells (old ++ new) false)) (w.setCells pl.blk (pl.base + (o + old.length)) us) := by
  have hle : φ.Le ⟨fun x => if x = h.next then some ⟨pl.blk, pl.base + o, pl.ext - o⟩ else φ.at_ x, φ.sym⟩ := ⟨fun x q e => by
    show (if x = h.next then some _ else φ.at_ x) = some q
    split
    · rename_i e'; rw [e', hfr] at e; cases e
    · exact e, rfl⟩
  obtain ⟨pl', hpl', hat⟩ := hr.lies b (by rw [hb]; rfl)
  rw [hp] at hpl'; cases hpl'
  rw [hb] at hat
  obtain ⟨hb0, hl1, c, e, fz, hc, hs, hf, hcs⟩ := hat
  have hul := hnew.length
  obtain ⟨c', g1, g2, g3⟩ := heap_setCells pl.blk us (pl.base + (o + old.length)) w c e fz hc (by omega)
  obtain ⟨r1, r2, r3⟩ := rest_setCells pl.blk us (pl.base + (o + old.length)) w
  obtain ⟨hold1, hold2⟩ := takeX_eq hold
  have hnb : b ≠ h.next := fun e => by rw [e, hfr] at hp; cases hp
  have hblk : ∀ x, ((h.put b .gone).new (.cells (old ++ new) false)).blk x = if x = h.next then .cells (old ++ new) false else if x = b then .gone else h.blk x := by
    intro x
    rw [blk_new]
    have : (h.put b .gone).next = h.next := rfl
    rw [this, blk_put]
  refine ⟨hle, fun x hx => ?_, Nat.le_succ _, r1, r2, r3, by rw [size_setCells]; exact Nat.le_refl _, fun k hk hn => ?_, fun x q ho hq => ?_, fun x q ho hq => ?_, ?_⟩
  · have : x ≠ h.next := by
      rcases hx with hx | hx
      · omega
      · have : h.next + 1 ≤ x := hx
        omega
    show (if x = h.next then some _ else φ.at_ x) = _
    rw [if_neg this]
  · exact heap_setCells_other _ _ _ _ _ fun ek => hn b pl (by rw [hb]; rfl) hp ek.symm
  · have hq' : (if x = h.next then some ⟨pl.blk, pl.base + o, pl.ext - o⟩ else φ.at_ x) = some q := hq
    rw [hblk] at ho
    by_cases e1 : x = h.next
    · rw [if_pos e1] at hq'; cases hq'
      exact .inl ⟨b, pl, by rw [hb]; rfl, hp, rfl⟩
    · rw [if_neg e1] at hq' ho
      by_cases e2 : x = b
      · rw [if_pos e2] at ho; cases ho
      · rw [if_neg e2] at ho; exact .inl ⟨x, q, ho, hq', rfl⟩
  · have hq' : (if x = h.next then some ⟨pl.blk, pl.base + o, pl.ext - o⟩ else φ.at_ x) = some q := hq
    rw [hblk] at ho
    by_cases e1 : x = h.next
    · rw [if_pos e1] at hq'; cases hq'
      exact .inl ⟨b, pl, by rw [hb]; rfl, hp, rfl⟩
    · rw [if_neg e1] at hq' ho
      by_cases e2 : x = b
      · rw [if_pos e2] at ho; cases ho
      · rw [if_neg e2] at ho; exact .inl ⟨x, q, ho, hq', rfl⟩
  · refine ⟨fun x hx => ?_, fun x x' q q' hx hx' ho hq hq' hne => ?_, fun x hx => ?_⟩
    · rw [hblk] at hx ⊢
      by_cases e1 : x = h.next
      · rw [if_pos e1]
        refine ⟨⟨pl.blk, pl.base + o, pl.ext - o⟩, ?_, ?_⟩
        · show (if x = h.next then some _ else φ.at_ x) = _
          rw [if_pos e1]
        · refine ⟨by simp only; omega, by simp; omega, c', e, fz, g1, by simp only; omega, by rw [g2]; exact hf, fun i v hi => ?_⟩
          show ∃ u, c'[pl.base + o + i]? = some u ∧ _
          rw [g3]
          by_cases c1 : i < old.length
          · rw [List.getElem?_append_left c1] at hi
            rw [if_neg (by omega)]
            rw [hold1, List.getElem?_take, if_pos (by omega), List.getElem?_drop] at hi
            obtain ⟨u, k1, k2⟩ := hcs _ _ hi
            exact ⟨u, by rw [show pl.base + o + i = pl.base + (o + i) by omega]; exact k1, k2.mono hle⟩
          · rw [List.getElem?_append_right (by omega)] at hi
            have hlt := (List.getElem?_eq_some_iff.1 hi).1
            rw [if_pos (by omega)]
            obtain ⟨u, k1, k2⟩ := hnew.get hi
            exact ⟨u, by rw [show pl.base + o + i - (pl.base + (o + old.length)) = i - old.length by omega]; exact k1, k2.mono hle⟩
      · rw [if_neg e1] at hx ⊢
        by_cases e2 : x = b
        · rw [if_pos e2] at hx; cases hx
        · rw [if_neg e2] at hx ⊢
          obtain ⟨q, h1, h2⟩ := hr.lies x hx
          refine ⟨q, ?_, h2.mono hle (heap_setCells_other _ _ _ _ _ (hr.apart x b q pl hx (by rw [hb]; rfl) (.inr (by rw [hb]; rfl)) h1 hp e2))⟩
          show (if x = h.next then some _ else φ.at_ x) = _
          rw [if_neg e1]; exact h1
    · have hq : (if x = h.next then some ⟨pl.blk, pl.base + o, pl.ext - o⟩ else φ.at_ x) = some q := hq
      have hq' : (if x' = h.next then some ⟨pl.blk, pl.base + o, pl.ext - o⟩ else φ.at_ x') = some q' := hq'
      rw [hblk] at hx hx'
      rw [hblk, hblk] at ho
      by_cases e1 : x = h.next
      · have e1' : x' ≠ h.next := fun e => hne (e1.trans e.symm)
        rw [if_pos e1] at hq; cases hq
        rw [if_neg e1'] at hq' hx'
        by_cases e2 : x' = b
        · rw [if_pos e2] at hx'; cases hx'
        · rw [if_neg e2] at hx'
          exact hr.apart b x' pl q' (by rw [hb]; rfl) hx' (.inl (by rw [hb]; rfl)) hp hq' (Ne.symm e2)
      · rw [if_neg e1] at hq hx
        by_cases e2 : x = b
        · rw [if_pos e2] at hx; cases hx
        · rw [if_neg e2] at hx
          by_cases e1' : x' = h.next
          · rw [if_pos e1'] at hq'; cases hq'
            exact hr.apart x b q pl hx (by rw [hb]; rfl) (.inr (by rw [hb]; rfl)) hq hp e2
          · rw [if_neg e1'] at hq' hx'
            by_cases e2' : x' = b
            · rw [if_pos e2'] at hx'; cases hx'
            · rw [if_neg e2'] at hx'
              rw [if_neg e1, if_neg e2, if_neg e1', if_neg e2'] at ho
              exact hr.apart x x' q q' hx hx' ho hq hq' hne
    · rw [hblk]
      have : h.next + 1 ≤ x := hx
      rw [if_neg (by omega)]
      split
      · rfl
      · exact hr.fresh x (by omega)

theorem all_one (hs : φ.symOk) : ∀ {l : List V} {r : List Value}, VRs φ l r → allFlat l = true → ∀ u ∈ r, u.oneCell' = true
  | [], r, h, _, u, hu => by cases h; cases hu
  | v :: l, r, h, hf, u, hu => by
    cases h with | cons _ u' _ r' h1 h2 =>
    simp only [allFlat] at hf
    cases hv : v.flat with
    | false => simp [hv] at hf
    | true =>
      rw [hv] at hf
      rcases List.mem_cons.1 hu with e | e
      · subst e; exact h1.one hs hv
      · exact all_one hs h2 hf u e

theorem zeroCells_size (z : Array Value) (n : Nat) : (Builtin.zeroCells z n).size = n * z.size := by simp [Builtin.zeroCells]

theorem run_first0 (sz : Nat) (a : Addr) (len cc : Nat) (w : World) : (Builtin.firstCells sz 0 (.slice (some a) len cc)).run P w = .ok #[] w := by
  simp [Builtin.firstCells, loadCells, loadCellsFrom]

theorem run_first {w : World} {k o : Nat} {us : List Value} (h : w.rangeAt k o us) (sz n len cc : Nat) (hl : us.length = n * sz) (w' : World) (hw : w'.heap = w.heap) :
    (Builtin.firstCells sz n (.slice (some ⟨k, o, none⟩) len cc)).run P w' = .ok us.toArray w' := by
  refine run_firstCells_some w' sz n ⟨k, o, none⟩ len cc us hl fun j v hj => ?_
  rw [Addr.add_mid, run_loads w w' hw]
  exact h j v hj

/-- A fresh block for what has grown. -/
theorem grow_sim {h : Hp} {w : World} (hr : HR φ h w) (hfr : φ.at_ h.next = none) {l : List V} {c : Array Value} (hl : VRs φ l c.toList) {e : TypeId} {z : Array Value} {sz need cap : Nat} (hz : z.size = sz)
    (hlen : l.length = need * sz) (hcap : need ≤ cap) :
    ∃ ψ, VR ψ (.slice h.next 0 sz need need false) (.slice (some ⟨w.heap.size, 0, none⟩) need cap) ∧
      St φ h w ψ (h.new (.cells l false)) (w.drew.alloc (.cells (c ++ Builtin.zeroCells z (cap - need)) e)) := by
  have hcs : c.size = need * sz := by
    have := hl.length
    simp at this; omega
  have hmul : need * sz + (cap - need) * sz = cap * sz := by rw [← Nat.add_mul]; congr 1; omega
  have hst := hr.drew.new (.cells l false) (.cells (c ++ Builtin.zeroCells z (cap - need)) e) ⟨w.heap.size, 0, cap * sz⟩ rfl hfr (fun ψ w' hle hh => by
    refine ⟨rfl, ?_, _, e, (0, 0), hh, ?_, .inl rfl, fun i v hi => ?_⟩
    · rw [hlen]; exact Nat.mul_le_mul_right _ hcap
    · simp only [Array.size_append, zeroCells_size, hz, hcs]; omega
    · obtain ⟨u, k1, k2⟩ := hl.get hi
      refine ⟨u, ?_, k2.mono hle⟩
      have : i < c.size := by
        have := (List.getElem?_eq_some_iff.1 hi).1
        omega
      rw [Nat.zero_add, Array.getElem?_append_left this]
      simpa using k1)
  refine ⟨_, ?_, (St.drew hr).trans hst⟩
  refine .slice _ _ _ _ _ _ _ _ (fun hpos => ⟨⟨w.heap.size, 0, cap * sz⟩, ?_, rfl, fun _ => by simp⟩) (Nat.le_refl _) hcap (fun ee => by cases ee)
  show (if h.next = h.next then some _ else _) = _
  rw [if_pos rfl]

theorem roomy_iff {a b : Nat} : roomy a b = true ↔ a * b ≤ 1099511627776 ∧ b ≤ 1099511627776 := by
  unfold roomy
  rw [cond_eq_ite, nble_d]
  simp only [decide_eq_true_eq]
  split
  · rename_i h; rw [nble]; exact ⟨fun h2 => ⟨h, h2⟩, fun h2 => h2.2⟩
  · rename_i h; simp; intro h2; exact absurd h2 h

theorem appC_sim (hsy : φ.symOk) {h h' : Hp} {w : World} (hr : HR φ h w) (hfr : h.next < h'.next → φ.at_ h.next = none) {ts : Array TypeId} {sT e ty : TypeId} {it : TypeInfo} {zu : Value} (h0 : ts[0]? = some sT)
    (ht : P.underlying sT = some (.slice e)) (hi : P.info? e = some it) (hz : it.zero = some zu) (hzs : zu.cells.size = it.size) (_hsz : 0 < it.size)
    {s v : V} {su xu : Value} (hs : VR φ s su) {n : Nat} (hn : 0 < n) {new : List V} {nu : Array Value} (hnew : VRs φ new nu.toList) (hlen : new.length = n * it.size) (hfl : allFlat new = true)
    (hsrc : Src P ts it.size it.bytes zu xu n nu w) (hv : appendC it.size it.bytes h s n new = some (v, h')) :
    ∃ u ψ w', VR ψ v u ∧ (Builtin.append_ ts ty #[su, xu]).run P w = .ok u w' ∧ St φ h w ψ h' w' := by
  unfold appendC at hv
  split at hv
  · -- nil
    rw [cond_eq_ite] at hv
    split at hv
    case isFalse => cases hv
    rename_i hroom
    rw [roomy_iff] at hroom
    cases hv
    cases hs
    obtain ⟨cap, c1, c2⟩ := append_out (ty := ty) h0 ht hi hz hsrc (base := none) (sLen := 0) (sCap := 0) (old := #[]) (by omega) (fun w' _ => by simp [Builtin.firstCells]) (by omega) (by rw [Nat.zero_add]; exact hroom.1)
    obtain ⟨ψ, k1, k2⟩ := grow_sim hr (hfr (Nat.lt_succ_self _)) hnew (e := e) (z := zu.cells) hzs hlen (by omega : n ≤ cap)
    refine ⟨_, ψ, _, k1, ?_, k2⟩
    rw [c2]
    simp only [Nat.zero_add, Array.empty_append]
  · rename_i b o sz' len c ex
    rw [cond_eq_ite] at hv
    split at hv
    case isFalse => cases hv
    rename_i esz
    rw [nbeq] at esz
    subst esz
    cases hs with | slice _ _ _ _ _ _ ad cc hp hlc hcc hex =>
    rw [cond_eq_ite] at hv
    split at hv
    · -- within the capacity that is known
      rename_i hin
      rw [nble] at hin
      split at hv
      case h_2 => cases hv
      rename_i h1 hw
      cases hv
      obtain ⟨pl, p1, p2, _, p4⟩ := hr.store hnew hw
      obtain ⟨pl', q1, q2, q3⟩ := hp (by omega)
      rw [p1] at q1; cases q1
      subst q2
      refine ⟨.slice (some ⟨pl.blk, pl.base + o, none⟩) (len + n) cc, φ, _, .slice _ _ _ _ _ _ _ _ (fun _ => ⟨pl, p1, rfl, q3⟩) hin hcc hex, ?_, p4⟩
      refine append_in (ty := ty) h0 ht hi hz hsrc (by omega) (fun a ha => ?_) (fun ha => by cases ha)
      cases ha
      rw [Addr.add_mid]
      have := run_storeCells_cells (P := P) pl.blk (pl.base + o + len * it.size) nu.toList 0 w (fun j hj => ?_) (fun j hj => ?_) (all_one hsy hnew hfl)
      · rw [show pl.base + (o + len * it.size) = pl.base + o + len * it.size + 0 by omega]; exact this
      · have := (p2 j hj).1; rwa [show pl.base + o + len * it.size + 0 + j = pl.base + (o + len * it.size) + j by omega]
      · have := (p2 j hj).2; rwa [show pl.base + o + len * it.size + 0 + j = pl.base + (o + len * it.size) + j by omega]
    · rename_i hout
      rw [nble] at hout
      rw [cond_eq_ite] at hv
      split at hv
      case isFalse => cases hv
      rename_i hroom
      rw [roomy_iff] at hroom
      split at hv
      · -- nothing is read: an empty slice, its block let go
        cases hex' : ex with
        | false => simp [hex'] at hv
        | true =>
          simp only [hex', cond_true] at hv
          rw [cond_eq_ite] at hv
          split at hv
          case isFalse => cases hv
          rename_i hl0
          rw [nbeq] at hl0
          subst hl0
          cases hv
          have ec := hex hex'
          obtain ⟨cap, c1, c2⟩ := append_out (ty := ty) h0 ht hi hz hsrc (base := some ad) (sLen := 0) (sCap := cc) (old := #[]) (by omega) (fun w' _ => run_first0 _ _ _ _ _) (by omega) hroom.1
          obtain ⟨ψ, k1, k2⟩ := grow_sim hr (hfr (Nat.lt_succ_self _)) hnew (e := e) (z := zu.cells) hzs hlen (by omega : n ≤ cap)
          refine ⟨_, ψ, _, k1, ?_, k2⟩
          rw [c2]
          simp only [Nat.zero_add, Array.empty_append]
      · rename_i old hold
        obtain ⟨pl, us, r1, r2, r3, r4⟩ := hr.read hold
        have hus : us.length = len * it.size := by rw [← r3.length, r2]
        have hlen2 : (old ++ new).length = (len + n) * it.size := by rw [List.length_append, r2, hlen, Nat.add_mul]
        have hfirst : ∀ w', w'.heap = w.heap → (Builtin.firstCells it.size len (.slice (some ad) len cc)).run P w' = .ok us.toArray w' := by
          intro w' hw'
          rcases Nat.eq_zero_or_pos len with e0 | e0
          · subst e0
            rw [run_first0]
            have : us = [] := List.length_eq_zero_iff.1 (by omega)
            rw [this]
          · obtain ⟨pl', q1, q2, _⟩ := hp (by omega)
            rw [r1] at q1; cases q1
            subst q2
            exact run_first r4 _ _ _ _ hus _ hw'
        have hall : VRs φ (old ++ new) (us.toArray ++ nu).toList := by simpa using r3.append hnew
        cases hex' : ex with
        | true =>
          simp only [hex', cond_true, Option.some.injEq, Prod.mk.injEq] at hv
          obtain ⟨rfl, rfl⟩ := hv
          have ec := hex hex'
          obtain ⟨cap, c1, c2⟩ := append_out (ty := ty) h0 ht hi hz hsrc (base := some ad) (sLen := len) (sCap := cc) (old := us.toArray) (by omega) hfirst hroom.2 hroom.1
          obtain ⟨ψ, k1, k2⟩ := grow_sim hr (hfr (Nat.lt_succ_self _)) hall (e := e) (z := zu.cells) hzs hlen2 c1
          exact ⟨_, ψ, _, k1, c2, k2⟩
        | false =>
          simp only [hex', cond_false] at hv
          rw [cond_eq_ite] at hv
          split at hv
          case isFalse => cases hv
          rename_i ho0
          rw [nbeq] at ho0
          split at hv
          case h_2 => cases hv
          rename_i l hb
          simp only [Option.some.injEq, Prod.mk.injEq] at hv
          obtain ⟨rfl, rfl⟩ := hv
          by_cases hcc2 : len + n ≤ cc
          · -- there was room
            obtain ⟨pl', q1, q2, q3⟩ := hp (by omega)
            rw [r1] at q1; cases q1
            subst q2
            have hext := q3 hex'
            have hrd : takeX old.length (l.drop o) = some old := by
              unfold Hp.read at hold
              rw [hb] at hold
              rw [r2]; exact hold
            have hmul : (len + n) * it.size ≤ cc * it.size := Nat.mul_le_mul_right _ hcc2
            have hst := hr.consume hb r1 (hfr (Nat.lt_succ_self _)) ho0 hrd hnew (by rw [r2, hlen]; rw [Nat.add_mul] at hmul; omega)
            refine ⟨.slice (some ⟨pl.blk, pl.base + o, none⟩) (len + n) cc, _, _, ?_, ?_, hst⟩
            · refine .slice _ _ _ _ _ _ _ _ (fun _ => ⟨⟨pl.blk, pl.base + o, pl.ext - o⟩, ?_, rfl, fun _ => ?_⟩) (Nat.le_refl _) hcc2 (fun ee => by cases ee)
              · show (if h.next = h.next then some _ else _) = _
                rw [if_pos rfl]
              · show 0 + cc * it.size = pl.ext - o
                omega
            · refine append_in (ty := ty) h0 ht hi hz hsrc hcc2 (fun a ha => ?_) (fun ha => by cases ha)
              cases ha
              rw [Addr.add_mid]
              obtain ⟨pl2, s1, s2⟩ := hr.lies b (by rw [hb]; rfl)
              rw [r1] at s1; cases s1
              rw [hb] at s2
              obtain ⟨_, t1, cs, te, fz, t2, t3, t4, t5⟩ := s2
              have hnl := hnew.length
              rw [Nat.add_mul] at hmul
              have hq : ∀ j, j < nu.toList.length → pl.base + o + len * it.size + 0 + j < cs.size := fun j hj => by omega
              have := run_storeCells_cells (P := P) pl.blk (pl.base + o + len * it.size) nu.toList 0 w (fun j hj => by rw [cell_of t2, Array.getElem?_eq_getElem (hq j hj)]; rfl) (fun j hj => frozen_of t2 t4 _ (hq j hj)) (all_one hsy hnew hfl)
              rw [r2, show pl.base + (o + len * it.size) = pl.base + o + len * it.size + 0 by omega]; exact this
          · obtain ⟨cap, c1, c2⟩ := append_out (ty := ty) h0 ht hi hz hsrc (base := some ad) (sLen := len) (sCap := cc) (old := us.toArray) (by omega) hfirst hroom.2 hroom.1
            obtain ⟨ψ, k1, k2⟩ := grow_sim (h := h.put b .gone) (hr.gone b) (hfr (Nat.lt_succ_self _)) hall (e := e) (z := zu.cells) hzs hlen2 c1
            exact ⟨_, ψ, _, k1, c2, k2.of_gone b⟩
  · cases hv

end Go.Vm
