/-
  Vm, part 35: slices.AppendSeq(nil, slices.Values(l)) at a slice of numbers of 64 bits: a new slice of the same numbers.
-/
import Derived.Test.YtnlbdfccijgapaaGreatVmConst
namespace Go.Vm
open Go.RowKit
variable {P : Program}

/-- Numbers of the kind int64, each within it. -/
def numsI : List V → Option (List Int)
  | [] => some []
  | .int .i64 n :: l => cond (ieq (wr .i64 n) n) (match numsI l with
    | some r => some (n :: r)
    | none => none) none
  | _ => none

/-- slices.AppendSeq, number fA, at the iterator fV. -/
def valuesX (fA fV : Nat) : Ext := fun f args h => cond (Nat.beq fA f) (match args with
  | [.nilslice, .func g [] [.ptr bx 0]] => cond (Nat.beq g fV) (match h.read bx 0 1 with
    | some [.nilslice] => some (.nilslice, h)
    | some [.slice b o 1 len _ _] => match h.read b o len with
      | some cs => match numsI cs with
        | some ks => cond (Nat.ble len 1000000) (match ks with
          | [] => some (.nilslice, h)
          | x :: r => some (.slice h.next 0 1 (r.length + 1) (r.length + 1) false, h.new (.cells (rowI (x :: r)) false))) none
        | none => none
      | none => none
    | _ => none) none
  | _ => none) none

/-- What slices.AppendSeq, number fA, does at the iterator fV of a slice's values. -/
structure ValuesApp (P : Program) (fA fV : Nat) : Prop where
  enters : entered P fA = true
  some_ : ∀ (w : World) (Bm b off len cap : Nat) (zs : List Int), w.cell? ⟨Bm, 0, none⟩ = some (.slice (some ⟨b, off, none⟩) len cap) → zs.length = len → len ≤ 1000000 →
    (∀ j, j < len → w.cell? ⟨b, off + j, none⟩ = some (.int .i64 (zs[j]?.getD 0))) → Bm < w.heap.size → b < w.heap.size →
    Calls P fA #[.slice none 0 0, .func (.func fV) #[] #[.pointer (some ⟨Bm, 0, none⟩)]] w fun e w' => ∃ (v : Value) (t : TypeId), e = .returned v ∧
      w'.ownsRow w.heap.size t 1 v zs.length (zs.map encZ) ∧ (v = .slice none 0 0 ↔ zs = []) ∧ Below w.heap.size w w'
  none_ : ∀ (w : World) (Bm : Nat) (a : Option Addr) (cc : Nat), w.cell? ⟨Bm, 0, none⟩ = some (.slice a 0 cc) → Bm < w.heap.size →
    Calls P fA #[.slice none 0 0, .func (.func fV) #[] #[.pointer (some ⟨Bm, 0, none⟩)]] w fun e w' => e = .returned (.slice none 0 0) ∧ Below w.heap.size w w'

theorem numsI_spec {φ : Emb} : ∀ {l : List V} {us : List Value} {ks : List Int}, numsI l = some ks → VRs φ l us → us = ks.map encZ
  | [], us, ks, h, hr => by simp only [numsI, Option.some.injEq] at h; subst h; cases hr; rfl
  | v :: l, us, ks, h, hr => by
    unfold numsI at h
    split at h
    · rename_i e0; cases e0
    · rename_i n l' e0
      cases e0
      rw [cond_eq_ite] at h; split at h
      case isFalse => cases h
      split at h
      case h_2 => cases h
      rename_i r hr'
      cases h
      cases hr with | cons _ u _ us' k1 k2 =>
      cases k1
      rw [numsI_spec hr' k2]
      rfl
    · cases h

theorem values_ok {env : Env} {fA fV : Nat} (hk : ValuesApp P fA fV) : CallOk P env (valuesX fA fV) := by
  intro φ f args h v h' w us hv ok hr hfr hargs
  unfold valuesX at hv
  rw [cond_eq_ite] at hv; split at hv
  case isFalse => cases hv
  rename_i hf
  rw [nbeq] at hf
  subst hf
  split at hv
  case h_2 => cases hv
  rename_i g bx
  rw [cond_eq_ite] at hv; split at hv
  case isFalse => cases hv
  rename_i hg
  rw [nbeq] at hg
  subst hg
  cases hargs with | cons _ u0 _ us0 r0 hargs =>
  cases r0
  cases hargs with | cons _ u1 _ us1 r1 rest =>
  cases rest
  cases r1 with | func _ _ _ fst cap f1 f2 =>
  have hfst : fst = #[] := by
    have hl := f1.length
    simp at hl
    exact Array.size_eq_zero_iff.1 hl.symm
  subst hfst
  have hcap : ∃ u2, cap = #[u2] ∧ VR φ (.ptr bx 0) u2 := by
    generalize hq : cap.toList = cl at f2
    cases f2 with | cons _ u2 _ us2 k1 k2 =>
    cases k2
    exact ⟨u2, by apply Array.ext'; rw [hq], k1⟩
  obtain ⟨u2, rfl, k1⟩ := hcap
  cases k1 with | ptr _ _ pl hpl =>
  split at hv
  · -- the nil slice
    rename_i hrd
    cases hv
    obtain ⟨pl', us', r1, r2, r3, r4⟩ := hr.read hrd
    rw [hpl] at r1; cases r1
    obtain ⟨pl2, s1, s2⟩ := hr.lies bx (read_live hrd)
    rw [hpl] at s1; cases s1
    have hb0 := read_base hrd s2
    cases r3 with | cons _ m _ us2 m1 m2 =>
    cases m1
    have hc := r4 0 _ rfl
    rw [hb0] at hc ⊢
    left
    refine ⟨hk.enters, (hk.none_ w pl.blk none 0 hc (s2.lt (read_live hrd))).mono ?_⟩
    rintro e w' ⟨rfl, hb⟩
    exact ⟨_, φ, rfl, .nilslice, .below hr hb⟩
  · rename_i b o len c ex hrd
    obtain ⟨pl', us', r1, r2, r3, r4⟩ := hr.read hrd
    rw [hpl] at r1; cases r1
    obtain ⟨pl2, s1, s2⟩ := hr.lies bx (read_live hrd)
    rw [hpl] at s1; cases s1
    have hb0 := read_base hrd s2
    cases r3 with | cons _ m _ us2 m1 m2 =>
    split at hv
    case h_2 => cases hv
    rename_i cs hcs
    split at hv
    case h_2 => cases hv
    rename_i ks hks
    rw [cond_eq_ite] at hv; split at hv
    case isFalse => cases hv
    rename_i hle
    rw [nble] at hle
    obtain ⟨plm, usm, p1, p2, p3, p4⟩ := hr.read hcs
    have hus := numsI_spec hks p3
    have hkl : ks.length = len := by
      have := p3.length
      rw [hus, List.length_map] at this
      omega
    cases m1 with | slice _ _ _ _ _ _ ad cc h0 h1 h2 h3 =>
    have hc := r4 0 _ rfl
    rw [hb0] at hc ⊢
    rcases Nat.eq_zero_or_pos cc with z | z
    · -- nothing of its own: no cells
      have hlen0 : len = 0 := by omega
      have hks0 : ks = [] := List.length_eq_zero_iff.1 (by omega)
      subst hks0
      cases hv
      left
      subst hlen0
      refine ⟨hk.enters, (hk.none_ w pl.blk (some ad) cc hc (s2.lt (read_live hrd))).mono ?_⟩
      rintro e w' ⟨rfl, hb⟩
      exact ⟨_, φ, rfl, .nilslice, .below hr hb⟩
    · obtain ⟨plq, q1, q2, _⟩ := h0 z
      rw [p1] at q1; cases q1
      rw [q2] at hc
      have hbl : plm.blk < w.heap.size := by
        obtain ⟨pl3, t1, t2⟩ := hr.lies b (read_live hcs)
        rw [p1] at t1; cases t1
        exact t2.lt (read_live hcs)
      left
      refine ⟨hk.enters, (hk.some_ w pl.blk plm.blk (plm.base + o) len cc ks hc hkl hle (fun j hj => ?_) (s2.lt (read_live hrd)) hbl).mono ?_⟩
      · have hj' : j < ks.length := by omega
        have := p4 j (encZ (ks[j])) (by rw [hus]; simp [hj'])
        rw [this]
        simp [hj', encZ]
      rintro e w' ⟨u, t, rfl, hrow, hnil, hb⟩
      split at hv
      · cases hv
        rw [hnil.2 rfl]
        exact ⟨_, φ, rfl, .nilslice, .below hr hb⟩
      · rename_i x r
        cases hv
        rcases hrow.2 with ⟨_, z⟩ | ⟨g', cap, cur, rfl, hbase, hgb, q1, q2, q3, q4⟩
        · simp at z
        · have hl : (x :: r).length ≤ cap := q1
          simp only [List.length_cons] at hl
          refine ⟨_, _, rfl, ?_, .belowNew hr hb (pl := ⟨g', 0, cap⟩) (hfr h.next (Nat.le_refl _) (Nat.lt_succ_self _)) hbase fun ψ hle' => ?_⟩
          · refine .slice _ _ _ _ _ _ _ _ (fun _ => ⟨⟨g', 0, cap⟩, ?_, rfl, fun _ => by simp⟩) (Nat.le_refl _) hl (fun ee => by cases ee)
            show (if h.next = h.next then some _ else _) = _
            rw [if_pos rfl]
          · refine ⟨rfl, by rw [rowI_length]; exact hl, cur, t, (0, 0), hgb, by simp; omega, .inl rfl, fun i v hi => ?_⟩
            obtain ⟨u, m1, m2⟩ := (rowI_rel (φ := ψ) (x :: r)).get hi
            refine ⟨u, ?_, m2⟩
            rw [← q4, List.getElem?_take] at m1
            split at m1
            · simpa using m1
            · cases m1
  · cases hv

theorem valuesX_rises (fA fV : Nat) : Rises (valuesX fA fV) := by
  intro f args h v h' e
  unfold valuesX at e
  repeat' (first | (cases e; done) | (rw [cond_eq_ite] at e; split at e) | split at e)
  all_goals (cases e; first | exact Nat.le_refl _ | exact Nat.le_succ _)

end Go.Vm
