/-
  Vm, part 30: slices.Sorted at an iterator of a map's keys (numbers of the kind int64): what it comes to does not hang on the order in which they come.
-/
import Derived.Test.YtliaohleajdgiaaVmExt
import Derived.Lib.SlKeysI
import Derived.Laws.AppendOwn
namespace Go.Vm
open Go.RowKit

variable {P : Program}

/-- A number among sorted ones. -/
def insI (x : Int) : List Int → List Int
  | [] => [x]
  | y :: l => cond (ilt y x) (y :: insI x l) (x :: y :: l)

def sortI : List Int → List Int
  | [] => []
  | x :: l => insI x (sortI l)

/-- The keys, each within its kind. -/
def keysI : List (V × V) → Option (List Int)
  | [] => some []
  | (.int .i64 n, _) :: l => cond (ieq (wr .i64 n) n) (match keysI l with
    | some r => some (n :: r)
    | none => none) none
  | _ => none

def rowI : List Int → List V
  | [] => []
  | n :: l => .int .i64 n :: rowI l

/-- The first cell of a block that may be written. -/
def Hp.readO (h : Hp) (b : Nat) : Option (List V) := match h.blk b with
  | .cells _ false => h.read b 0 1
  | _ => none

theorem readO_read {h : Hp} {b : Nat} {l : List V} (e : h.readO b = some l) : h.read b 0 1 = some l ∧ ∃ c, h.blk b = .cells c false := by
  unfold Hp.readO at e
  split at e
  · rename_i c hb; exact ⟨e, c, hb⟩
  · cases e

/-- slices.Sorted, number fS, at the iterator gK. -/
def sortedX (fS gK : Nat) : Ext := fun f args h => cond (Nat.beq fS f) (match args with
  | [.func g [] [.ptr bx 0]] => cond (Nat.beq g gK) (match h.readO bx with
    | some [.nilmap] => some (.nilslice, h)
    | some [.map b] => match h.blk b with
      | .map (some .i64) l => match keysI l with
        | some ks => cond (Nat.ble ks.length 1000000) (match sortI ks with
          | [] => some (.nilslice, h)
          | x :: r => some (.slice h.next 0 1 (r.length + 1) (r.length + 1) false, h.new (.cells (rowI (x :: r)) false))) none
        | none => none
      | _ => none
    | _ => none) none
  | _ => none) none

theorem insI_perm (x : Int) : ∀ l : List Int, (insI x l).Perm (x :: l)
  | [] => .refl _
  | y :: l => by
    simp only [insI]
    rw [cond_eq_ite]; split
    · exact ((insI_perm x l).cons y).trans (.swap x y l)
    · exact .refl _

theorem sortI_perm : ∀ l : List Int, (sortI l).Perm l
  | [] => .refl _
  | x :: l => (insI_perm x _).trans ((sortI_perm l).cons x)

theorem ilt_iff' {a b : Int} : ilt a b = true ↔ a < b := ilt_iff

theorem insI_sorted (x : Int) : ∀ {l : List Int}, l.Pairwise (fun a b => a ≤ b) → (insI x l).Pairwise (fun a b => a ≤ b)
  | [], _ => by simp [insI]
  | y :: l, h => by
    simp only [insI]
    rw [cond_eq_ite]; split
    · rename_i hlt
      rw [ilt_iff] at hlt
      rw [List.pairwise_cons] at h ⊢
      refine ⟨fun z hz => ?_, insI_sorted x h.2⟩
      rcases List.mem_cons.1 ((insI_perm x l).subset hz) with rfl | hz
      · omega
      · exact h.1 z hz
    · rename_i hlt
      have : ¬ y < x := fun hh => hlt (ilt_iff.2 hh)
      rw [List.pairwise_cons]
      refine ⟨fun z hz => ?_, h⟩
      rcases List.mem_cons.1 hz with rfl | hz
      · omega
      · have := (List.pairwise_cons.1 h).1 z hz; omega

theorem sortI_sorted : ∀ l : List Int, (sortI l).Pairwise (fun a b => a ≤ b)
  | [] => .nil
  | x :: l => insI_sorted x (sortI_sorted l)

theorem sortI_eq {l ss : List Int} (h : ss.Perm l) : ss.mergeSort leI = sortI l := by
  have h1 : ss.mergeSort leI = (sortI l).mergeSort leI := mergeSort_of_perm_i (h.trans (sortI_perm l).symm)
  rw [h1]
  refine List.Perm.eq_of_pairwise (le := fun a b : Int => a ≤ b) (fun a b _ _ h1 h2 => Int.le_antisymm h1 h2) ?_ (sortI_sorted l) (List.mergeSort_perm _ _)
  have tr : ∀ a b c : Int, leI a b = true → leI b c = true → leI a c = true := fun a b c h1 h2 => by simp only [leI, decide_eq_true_eq] at *; omega
  have to : ∀ a b : Int, (leI a b || leI b a) = true := fun a b => by simp only [leI, Bool.or_eq_true, decide_eq_true_eq]; omega
  exact (List.pairwise_mergeSort tr to (sortI l)).imp fun {a b} h => by simpa [leI] using h

/-! ### Worlds that have grown -/

theorem St.below {φ : Emb} {h : Hp} {w w' : World} (hr : HR φ h w) (hb : Below w.heap.size w w') : St φ h w φ h w' where
  le := .refl φ
  new _ _ := rfl
  nx := Nat.le_refl _
  os := hb.os
  tape := hb.tape
  output := hb.output
  size := hb.size
  kept k hk _ := hb.block k hk
  host b pl h1 h2 := .inl ⟨b, pl, h1, h2, rfl⟩
  roof b pl h1 h2 := .inl ⟨b, pl, h1, h2, rfl⟩
  hr := ⟨fun b hl => let ⟨pl, h1, h2⟩ := hr.lies b hl; ⟨pl, h1, h2.mono (.refl φ) (hb.block _ (h2.lt hl))⟩, hr.apart, hr.fresh⟩

theorem St.belowNew {φ : Emb} {h : Hp} {w w' : World} (hr : HR φ h w) (hb : Below w.heap.size w w') {x : Blk} {pl : Place} (hfr : φ.at_ h.next = none) (hg : w.heap.size ≤ pl.blk)
    (hx : ∀ ψ, φ.Le ψ → BlkAt ψ w' pl x) : St φ h w ⟨fun b => if b = h.next then some pl else φ.at_ b, φ.sym⟩ (h.new x) w' := by
  have hle : φ.Le ⟨fun b => if b = h.next then some pl else φ.at_ b, φ.sym⟩ := ⟨fun b q e => by
    show (if b = h.next then some pl else φ.at_ b) = some q
    split
    · rename_i e'; rw [e', hfr] at e; cases e
    · exact e, rfl⟩
  have key : ∀ {b : Nat} {q : Place}, (if b = h.next then some pl else φ.at_ b) = some q → (b = h.next ∧ q = pl) ∨ (b ≠ h.next ∧ φ.at_ b = some q) := by
    intro b q e
    by_cases eb : b = h.next
    · rw [if_pos eb] at e; cases e; exact .inl ⟨eb, rfl⟩
    · rw [if_neg eb] at e; exact .inr ⟨eb, e⟩
  refine ⟨hle, fun b hb' => ?_, Nat.le_succ _, hb.os, hb.tape, hb.output, hb.size, fun k hk _ => hb.block k hk, fun b q ho hq => ?_, fun b q ho hq => ?_, ⟨fun b hl => ?_, fun b b' q q' hl hl' hq hq' hne => ?_, fun b hb' => ?_⟩⟩
  · show (if b = h.next then some pl else φ.at_ b) = _
    have : b ≠ h.next := by
      rcases hb' with hb' | hb'
      · omega
      · have : h.next + 1 ≤ b := hb'
        omega
    rw [if_neg this]
  · rcases key hq with ⟨_, rfl⟩ | ⟨e, hq⟩
    · exact .inr hg
    · rw [blk_new, if_neg e] at ho; exact .inl ⟨b, q, ho, hq, rfl⟩
  · rcases key hq with ⟨_, rfl⟩ | ⟨e, hq⟩
    · exact .inr hg
    · rw [blk_new, if_neg e] at ho; exact .inl ⟨b, q, ho, hq, rfl⟩
  · rw [blk_new] at hl ⊢
    by_cases e : b = h.next
    · rw [if_pos e]
      exact ⟨pl, by show (if b = h.next then some pl else φ.at_ b) = _; rw [if_pos e], hx _ hle⟩
    · rw [if_neg e] at hl ⊢
      obtain ⟨q, h1, h2⟩ := hr.lies b hl
      exact ⟨q, by show (if b = h.next then some pl else φ.at_ b) = _; rw [if_neg e]; exact h1, h2.mono hle (hb.block _ (h2.lt hl))⟩
  · rw [blk_new] at hl hl'
    rcases key hq with ⟨e, rfl⟩ | ⟨e, hqq⟩
    · rcases key hq' with ⟨e', _⟩ | ⟨e', hq'⟩
      · exact absurd (e.trans e'.symm) hne
      · rw [if_neg e'] at hl'
        obtain ⟨r, h1, h2⟩ := hr.lies b' hl'
        rw [h1] at hq'; cases hq'
        have := h2.lt hl'; omega
    · rw [if_neg e] at hl
      rcases key hq' with ⟨e', eq'⟩ | ⟨e', hq'⟩
      · obtain ⟨r, h1, h2⟩ := hr.lies b hl
        have hqr : q = r := Option.some.inj (hqq.symm.trans h1)
        subst hqr
        rw [eq']
        have := h2.lt hl; omega
      · rw [if_neg e'] at hl'
        exact hr.apart b b' q q' hl hl' hqq hq' hne
  · rw [blk_new]
    have : h.next + 1 ≤ b := hb'
    rw [if_neg (by omega)]
    exact hr.fresh b (by omega)

/-! ### The contract that is asked, and what it gives -/

def numKey : Value → Int
  | .int _ a => a
  | _ => 0

/-- What slices.Sorted, number fS, does at the iterator gK of a map's keys. -/
structure KeysSorted (P : Program) (fS gK : Nat) : Prop where
  enters : entered P fS = true
  some_ : ∀ (w : World) (Bm b : Nat) (es : Array MapEntry) (clock : Nat), w.cell? ⟨Bm, 0, none⟩ = some (.map (some b)) → w.heap[b]? = some (.map es clock) → MapKept.Stamped es clock →
    (∀ x, x ∈ es.toList → ∃ a : Int, x.key = .int .i64 a ∧ wr .i64 a = a) → es.size ≤ 1000000 →
    Calls P fS #[.func (.func gK) #[] #[.pointer (some ⟨Bm, 0, none⟩)]] w fun e w' => ∃ (v : Value) (ss : List Int) (t : TypeId), e = .returned v ∧ ss.Perm (es.toList.map fun x => numKey x.key) ∧
      w'.ownsRow w.heap.size t 1 v ss.length ((ss.mergeSort leI).map encZ) ∧ (v = .slice none 0 0 ↔ ss = []) ∧ Below w.heap.size w w'
  none_ : ∀ (w : World) (Bm : Nat), w.cell? ⟨Bm, 0, none⟩ = some (.map none) →
    Calls P fS #[.func (.func gK) #[] #[.pointer (some ⟨Bm, 0, none⟩)]] w fun e w' => e = .returned (.slice none 0 0) ∧ Below w.heap.size w w'

theorem rowI_rel {φ : Emb} : ∀ l : List Int, VRs φ (rowI l) (l.map encZ)
  | [] => .nil
  | n :: l => .cons _ _ _ _ (.int .i64 n) (rowI_rel l)

theorem rowI_length : ∀ l : List Int, (rowI l).length = l.length
  | [] => rfl
  | _ :: l => congrArg (· + 1) (rowI_length l)

theorem keysI_spec {φ : Emb} {kk : Option IntKind} : ∀ {l : List (V × V)} {es : List MapEntry} {ks : List Int}, keysI l = some ks → Ents φ kk l es → ks = es.map (fun x => numKey x.key) ∧ ∀ x, x ∈ es → ∃ a : Int, x.key = .int .i64 a ∧ wr .i64 a = a
  | [], [], ks, h, _ => by simp only [keysI, Option.some.injEq] at h; subst h; exact ⟨rfl, fun _ h => by cases h⟩
  | [], _ :: _, ks, _, he => by have := he.1; simp at this
  | _ :: _, [], ks, _, he => by have := he.1; simp at this
  | (a, b) :: l, e :: es, ks, h, he => by
    obtain ⟨h1, h2⟩ := he.tail
    unfold keysI at h
    split at h
    · rename_i e0; cases e0
    · rename_i n v0 l' e0
      cases e0
      rw [cond_eq_ite] at h; split at h
      case isFalse => cases h
      rename_i hn
      rw [ieq_iff] at hn
      split at h
      case h_2 => cases h
      rename_i r hr
      cases h
      obtain ⟨i1, i2⟩ := keysI_spec hr h2
      have hkey := h1.2.1
      generalize hku : e.key = ku at hkey
      cases hkey
      refine ⟨by rw [i1, List.map_cons, hku]; rfl, fun x hx => ?_⟩
      rcases List.mem_cons.1 hx with rfl | hx
      · exact ⟨n, hku, hn⟩
      · exact i2 x hx
    · cases h

theorem read_live {h : Hp} {b o n : Nat} {l : List V} (hl : h.read b o n = some l) : (h.blk b).live = true := by
  unfold Hp.read at hl
  split at hl
  · rename_i e; rw [e]; rfl
  · cases hl

theorem read_base {φ : Emb} {w : World} {pl : Place} {h : Hp} {b : Nat} (hl : ∃ c, h.blk b = .cells c false) (ha : BlkAt φ w pl (h.blk b)) : pl.base = 0 := by
  obtain ⟨c, e⟩ := hl
  rw [e] at ha
  exact ha.1

theorem sorted_ok {env : Env} {fS gK : Nat} (hk : KeysSorted P fS gK) : CallOk P env (sortedX fS gK) := by
  intro φ f args h v h' w us hv ok hr hfr hargs
  unfold sortedX at hv
  rw [cond_eq_ite] at hv; split at hv
  case isFalse => cases hv
  rename_i hf
  rw [nbeq] at hf
  subst hf
  split at hv
  case h_2 => cases hv
  rename_i g bx
  rw [cond_eq_ite] at hv; split at hv
  case isFalse => cases hv
  rename_i hg
  rw [nbeq] at hg
  subst hg
  cases hargs with | cons _ u1 _ us1 r1 rest =>
  cases rest
  cases r1 with | func _ _ _ fst cap f1 f2 =>
  have hfst : fst = #[] := by
    have hl := f1.length
    simp at hl
    exact Array.size_eq_zero_iff.1 hl.symm
  subst hfst
  have hcap : ∃ u2, cap = #[u2] ∧ VR φ (.ptr bx 0) u2 := by
    generalize hq : cap.toList = cl at f2
    cases f2 with | cons _ u2 _ us2 k1 k2 =>
    cases k2
    exact ⟨u2, by apply Array.ext'; rw [hq], k1⟩
  obtain ⟨u2, rfl, k1⟩ := hcap
  cases k1 with | ptr _ _ pl hpl =>
  split at hv
  · -- the nil map
    rename_i hrd
    obtain ⟨hrd, hro⟩ := readO_read hrd
    cases hv
    obtain ⟨pl', us', r1, r2, r3, r4⟩ := hr.read hrd
    rw [hpl] at r1; cases r1
    obtain ⟨pl2, s1, s2⟩ := hr.lies bx (read_live hrd)
    rw [hpl] at s1; cases s1
    have hb0 := read_base hro s2
    cases r3 with | cons _ m _ us2 m1 m2 =>
    cases m1
    have hc := r4 0 _ rfl
    rw [hb0] at hc ⊢
    left
    refine ⟨hk.enters, (hk.none_ w pl.blk hc).mono ?_⟩
    rintro e w' ⟨rfl, hb⟩
    exact ⟨_, φ, rfl, .nilslice, .below hr hb⟩
  · rename_i b hrd
    obtain ⟨hrd, hro⟩ := readO_read hrd
    obtain ⟨pl', us', r1, r2, r3, r4⟩ := hr.read hrd
    rw [hpl] at r1; cases r1
    obtain ⟨pl2, s1, s2⟩ := hr.lies bx (read_live hrd)
    rw [hpl] at s1; cases s1
    have hb0 := read_base hro s2
    cases r3 with | cons _ m _ us2 m1 m2 =>
    cases m1 with | map _ plm hpm =>
    have hc := r4 0 _ rfl
    rw [hb0] at hc ⊢
    split at hv
    case h_2 => cases hv
    rename_i l hbl
    split at hv
    case h_2 => cases hv
    rename_i ks hks
    rw [cond_eq_ite] at hv; split at hv
    case isFalse => cases hv
    rename_i hle
    rw [nble] at hle
    obtain ⟨plm', es, clock, p1, p2, p3, p4⟩ := map_at hr hbl
    rw [hpm] at p1; cases p1
    obtain ⟨e1, e2⟩ := keysI_spec hks p3
    have hes : es.size ≤ 1000000 := by rw [e1, List.length_map] at hle; simpa using hle
    left
    refine ⟨hk.enters, (hk.some_ w pl.blk plm.blk es clock hc p2 p4 e2 hes).mono ?_⟩
    rintro e w' ⟨u, ss, t, rfl, hperm, hrow, hnil, hb⟩
    rw [← e1] at hperm
    have hsort : ss.mergeSort leI = sortI ks := sortI_eq hperm
    rw [hsort] at hrow
    have hlen : ss.length = (sortI ks).length := by rw [← hsort, List.length_mergeSort]
    split at hv
    · rename_i hs0
      cases hv
      rw [hs0] at hlen
      have : ss = [] := List.length_eq_zero_iff.1 hlen
      rw [hnil.2 this]
      exact ⟨_, φ, rfl, .nilslice, .below hr hb⟩
    · rename_i x r hs1
      cases hv
      rw [hs1] at hlen hrow
      rcases hrow.2 with ⟨_, z⟩ | ⟨g', cap, cur, rfl, hbase, hgb, q1, q2, q3, q4⟩
      · rw [z] at hlen; simp at hlen
      · refine ⟨_, _, rfl, ?_, .belowNew hr hb (pl := ⟨g', 0, cap⟩) (hfr h.next (Nat.le_refl _) (Nat.lt_succ_self _)) hbase fun ψ hle' => ?_⟩
        · rw [hlen]
          refine .slice _ _ _ _ _ _ _ _ (fun _ => ⟨⟨g', 0, cap⟩, ?_, rfl, fun _ => by simp⟩) (Nat.le_refl _) (by rw [hlen] at q1; simpa using q1) (fun ee => by cases ee)
          show (if h.next = h.next then some _ else _) = _
          rw [if_pos rfl]
        · have hl := hlen ▸ q1
          refine ⟨rfl, by rw [rowI_length]; exact hl, cur, t, (0, 0), hgb, by simp; omega, .inl rfl, fun i v hi => ?_⟩
          obtain ⟨u, m1, m2⟩ := (rowI_rel (φ := ψ) (x :: r)).get hi
          refine ⟨u, ?_, m2⟩
          rw [← q4, List.getElem?_take] at m1
          split at m1
          · simpa using m1
          · cases m1
  · cases hv

theorem sortedX_rises (fS gK : Nat) : Rises (sortedX fS gK) := by
  intro f args h v h' e
  unfold sortedX at e
  repeat' (first | (cases e; done) | (rw [cond_eq_ite] at e; split at e) | split at e)
  all_goals (cases e; first | exact Nat.le_refl _ | exact Nat.le_succ _)

/-- One, or the other. -/
def orX (a b : Ext) : Ext := fun f args h => match a f args h with
  | some r => some r
  | none => b f args h

theorem orX_rises {a b : Ext} (ha : Rises a) (hb : Rises b) : Rises (orX a b) := by
  intro f args h v h' e
  unfold orX at e
  split at e
  · rename_i r hr; cases e; exact ha _ _ _ _ _ hr
  · exact hb _ _ _ _ _ e

theorem orX_ok {env : Env} {a b : Ext} (ha : CallOk P env a) (hb : CallOk P env b) : CallOk P env (orX a b) := by
  intro φ f args h v h' w us hv ok hr hfr hargs
  unfold orX at hv
  split at hv
  · rename_i r hr'; cases hv; exact ha φ f args h v h' w us hr' ok hr hfr hargs
  · exact hb φ f args h v h' w us hv ok hr hfr hargs

end Go.Vm
