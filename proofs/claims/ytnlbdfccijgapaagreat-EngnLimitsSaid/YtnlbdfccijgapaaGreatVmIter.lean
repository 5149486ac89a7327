/-
  Vm, part 36: the two contracts that the externs for slices.Sorted and slices.AppendSeq ask, out of the kit's laid contracts.
-/
import Derived.Test.YtnlbdfccijgapaaGreatVmValues
import Derived.Shelf.SlIterI.Nil
import Derived.Shelf.SortM.Plain
import Derived.Shelf.SortM.SortNone
namespace Go.Vm
open Go.RowKit Go.Maps Go.Sort Go.Shelf Go.Proofs
variable {P : Program} {ρ σ : Ren}

theorem insert_perm {H : Type} (x : Lit × DataW H) : ∀ l : List (Lit × DataW H), (DataW.insert x l).Perm (x :: l)
  | [] => .refl _
  | y :: r => by
    simp only [DataW.insert]
    split
    · exact .refl _
    · exact ((insert_perm x r).cons y).trans (.swap x y r)

theorem foldr_insert_perm {H : Type} : ∀ l : List (Lit × DataW H), (l.foldr DataW.insert []).Perm l
  | [] => .refl _
  | x :: l => (insert_perm x _).trans ((foldr_insert_perm l).cons x)

theorem wf_of_wr {a : Int} (h : wr .i64 a = a) : (Lit.int .i64 a).wf = true := by
  rw [wr_eq] at h
  have hb : -9223372036854775808 ≤ a ∧ a ≤ 9223372036854775807 := by
    simp only [IntKind.wrap, IntKind.bits, IntKind.signed, Bool.true_and] at h
    split at h <;> rename_i hc <;> simp at hc <;> omega
  simp only [Lit.wf, IntKind.min, IntKind.max, IntKind.bits, IntKind.signed]
  simp
  exact hb

/-- A map's block of the small machine reads as a map of the kit's. -/
theorem owns_of {w : World} {k : TypeId} {b : Nat} {es : Array MapEntry} {clock : Nat} (hk : P.underlying k = some (.int .i64)) (hb : w.heap[b]? = some (.map es clock)) (hst : MapKept.Stamped es clock)
    (hkeys : ∀ x, x ∈ es.toList → ∃ a : Int, x.key = .int .i64 a ∧ wr .i64 a = a) (hsz : es.size ≤ 1000000) :
    ∃ D0 : DataW Unit, w.ownsMap P k (fun _ => some (.nil, [])) b es.size D0 ∧ Maps.size D0 ≤ 1000000 ∧ (intKeys D0).Perm (es.toList.map fun x => numKey x.key) := by
  have hrd : ∀ x, x ∈ es.toList → WideElems.rd (H := Unit) P k (fun _ => some (.nil, [])) x = some (.int .i64 (numKey x.key), .nil) := by
    intro x hx
    obtain ⟨a, e1, e2⟩ := hkeys x hx
    obtain ⟨key, val, born⟩ := x
    simp only at e1
    subst e1
    exact WideElems.rd_mk (R := fun _ => some ((DataW.nil : DataW Unit), [])) (yv := (.nil, [])) (keyOf_int_mk hk (wf_of_wr e2)) rfl
  have hmax : (1000000 : Nat) ≤ maxLen := by decide
  refine ⟨.map ((es.toList.map (WideElems.rg P k fun _ => some (.nil, []))).foldr DataW.insert []), ⟨es, clock, hb, ⟨Nat.le_trans hsz hmax, hst, fun x hx => ⟨_, hrd x hx⟩⟩, Nat.le_refl _, rfl⟩, ?_, ?_⟩
  · rw [Maps.size_eq, (foldr_insert_perm _).length_eq, List.length_map]
    simpa using hsz
  · show (List.map (fun p : Lit × DataW Unit => Go.intOf p.1) _).Perm _
    refine ((foldr_insert_perm _).map _).trans ?_
    rw [List.map_map]
    refine List.Perm.of_eq (List.map_congr_left fun x hx => ?_)
    simp only [Function.comp, WideElems.rg_of (hrd x hx)]
    rfl

theorem keysSorted_of (K : SlLaysZI.n7 P ρ) (S : SlLaysZI.n6 P σ) (hs : ∀ m, AnyZI.SortsIn P σ Fence.wide m) (he : ∀ args w, (callFunc (σ.f 9) args).run P w = .ok (.enter (σ.f 9) args) w)
    (hk : ∀ args w, (callFunc (ρ.f 10) args).run P w = .ok (.enter (ρ.f 10) args) w) (hen : entered P (σ.f 6) = true) : KeysSorted P (σ.f 6) (ρ.f 10) where
  enters := hen
  some_ w Bm b es clock hm hb hst hkeys hsz := by
    refine (callsIn_wide (n := 6)).1 ?_
    obtain ⟨D0, hown, hmax, hperm⟩ := owns_of K.t26 hb hst hkeys hsz
    have hBm : Bm < w.heap.size := by
      apply Classical.byContradiction
      intro hn
      have : w.heap[Bm]? = none := Array.getElem?_eq_none (by omega)
      simp [World.cell?, this] at hm
    have hseq := AnyZI.keys_gives (P := P) (ρ := ρ) { K with } Fence.wide 3 trivial rfl (by omega) Bm b es.size D0 w hBm hm hown
    have hml : (1000000 : Nat) ≤ maxLen := by decide
    have cS := AnyZI.sorted_in S Fence.wide 6 trivial trivial trivial trivial rfl (by omega) (hs _) he (ρ.f 10) #[.pointer (some ⟨Bm, 0, none⟩)] trivial hk _ _ (Nat.le_trans hmax hml) (by omega) w hseq
    refine cS.mono ?_
    rintro e w' ⟨v, ss, rfl, hS, hrow, hnil, hb'⟩
    exact ⟨v, ss, _, rfl, hS.trans hperm, hrow, hnil, hb'⟩
  none_ w Bm hm := by
    refine (callsIn_wide (n := 6)).1 ?_
    have hBm : Bm < w.heap.size := by
      apply Classical.byContradiction
      intro hn
      have : w.heap[Bm]? = none := Array.getElem?_eq_none (by omega)
      simp [World.cell?, this] at hm
    have hseq := AnyZI.keys_gives_nil (P := P) (ρ := ρ) { K with } Fence.wide 3 trivial rfl Bm w hBm hm
    have cS := AnyZI.sorted_in S Fence.wide 6 trivial trivial trivial trivial rfl (by omega) (hs _) he (ρ.f 10) #[.pointer (some ⟨Bm, 0, none⟩)] trivial hk _ 0 (Nat.zero_le _) (by omega) w hseq
    refine cS.mono ?_
    rintro e w' ⟨v, ss, rfl, rfl, hrow, hnil, hb'⟩
    exact ⟨by rw [hnil.2 rfl], hb'⟩

/-! ### slices.AppendSeq(nil, seq), where the iterator's rounds leave what lay before the call -/

def SeqGivesB (n : Nat) (P : Program) (g : Nat) (lb : Array Value) (S : List Int → Prop) (N : Nat) (w : World) : Prop :=
  ∀ (l : Nat) (J : List Int → World → Prop) (W : World), Below w.heap.size w W → (∀ s W1, J s W1 → Below w.heap.size w W1) →
    (∀ pre x W1, J pre W1 → pre.length < N → YieldAt Fence.wide (n - 1) P l #[encZ x] W1 fun e W' => e = .returned (.bool true) ∧ J (pre ++ [x]) W' ∧ KeepsWalks W1 W') →
    J [] W →
    CallsIn Fence.wide n P g (#[.func (.yield l) #[] #[]] ++ lb) W fun e W' => (∃ v, e = .returned v) ∧ ∃ xs, S xs ∧ J xs W'

set_option maxRecDepth 100000 in
set_option maxHeartbeats 2000000 in
theorem appendB_in (L : SlLaysZI.n11 P ρ) (n : Nat) (hn : 2 ≤ n) (g : Nat) (lb : Array Value) (eg : ∀ args w, (callFunc g args).run P w = .ok (.enter g args) w)
    (S : List Int → Prop) (N : Nat) (hN : N ≤ maxLen) (hNb : N * 8 ≤ 140737488355328) (w : World) (hseq : SeqGivesB (n - 1) P g lb S N w) :
    CallsIn Fence.wide n P (ρ.f 11) #[.slice none 0 0, .func (.func g) #[] lb] w fun e w' => ∃ (v : Value) (ss : List Int), e = .returned v ∧ S ss ∧ w'.ownsRow w.heap.size (ρ.t 26) 1 v ss.length (ss.map encZ) ∧ (v = .slice none 0 0 ↔ ss = []) ∧ Below w.heap.size w w' := by
  have h1 : 1 ≤ n := by omega
  have hro : Fence.wide.round = none := rfl
  have h11 : Fence.wide.fn (ρ.f 11) := trivial
  have mixed := L.mixed; have t0 := L.t0; have a0 := L.a0; have z0 := L.z0; have v0 := L.v0; have t24 := L.t24; have a24 := L.a24; have z24 := L.z24; have v24 := L.v24; have t26 := L.t26; have a26 := L.a26; have z26 := L.z26; have v26 := L.v26; have t28 := L.t28; have a28 := L.a28; have z28 := L.z28; have v28 := L.v28
  have hne : ρ.t 24 ≠ ρ.t 26 := fun e => by have h := L.t24; rw [e, L.t26] at h; cases h
  have u0 := run_underlying L.t0; have u24 := run_underlying L.t24; have u26 := run_underlying L.t26; have u28 := run_underlying L.t28
  obtain ⟨_, _, FG⟩ := L.f11
  refine callsIn_of_wp_marks FG rfl h11 ?_ hro
  simp only [SlBodyZ.n11_ntmps ρ, List.size_toArray, List.length_cons, List.length_nil, Nat.reduceAdd, Nat.reduceSub, Array.replicate_succ, Array.replicate_zero, List.push_toArray, List.append_toArray, List.nil_append, List.cons_append]
  gi_wp2
  refine wpIn_rangeFunc ?_
  intro fn hfn
  rw [hro]
  obtain ⟨W0, hW0⟩ : ∃ W0, w.alloc (.cells #[.slice none 0 0] (ρ.t 24)) = W0 := ⟨_, rfl⟩
  have hs0 : W0.heap.size = w.heap.size + 1 := by rw [← hW0]; simp
  have hv0 : W0.heap[w.heap.size]? = some (.cells #[.slice none 0 0] (ρ.t 24) (0, 0)) := by rw [← hW0]; exact World.alloc_heap_new w _
  have hb0 : Below w.heap.size w W0 := by rw [← hW0]; exact (Below.refl _ w).alloc (Nat.le_refl _) _
  rw [hW0]
  obtain ⟨W1, hW1⟩ : ∃ W1, (W0.alloc (.deferred (some []))).alloc (.loop (AnyZI.apRec ρ fn (.func (.func g) #[] lb) w.heap.size W0.heap.size .ready none)) = W1 := ⟨_, rfl⟩
  have hold : ∀ k, k < W0.heap.size → W1.heap[k]? = W0.heap[k]? := fun k hk => by
    rw [← hW1]; exact (Below.heap_alloc _ _ k (by simp; omega)).trans (Below.heap_alloc _ _ k hk)
  have hb1 : Below w.heap.size w W1 := by rw [← hW1]; exact (hb0.alloc hb0.size _).alloc (by have := hb0.size; simp; omega) _
  have hs1 : W1.heap.size = W0.heap.size + 2 := by rw [← hW1]; simp
  have hM : AnyZI.ApAt ρ w fn (.func (.func g) #[] lb) w.heap.size (W0.heap.size + 1) W0.heap.size [] W1 :=
    ⟨⟨_, (hold w.heap.size (by omega)).trans hv0, ⟨rfl, .inl ⟨rfl, rfl⟩⟩, by simp⟩,
     by rw [← hW1]; have := World.alloc_heap_new (W0.alloc (.deferred (some []))) (.loop (AnyZI.apRec ρ fn (.func (.func g) #[] lb) w.heap.size W0.heap.size .ready none)); rwa [World.size_alloc] at this,
     by rw [← hW1]; exact (Below.heap_alloc _ _ _ (by simp)).trans (World.alloc_heap_new W0 _), hb1⟩
  refine ⟨W0.heap.size + 1, [{ target := .collected W0.heap.size, args := #[] }], W1, { target := .fn (.func g) lb, args := #[.func (.yield (W0.heap.size + 1)) #[] #[]] }, W1, g,
    #[.func (.yield (W0.heap.size + 1)) #[] #[]] ++ lb, W1, ?_, ?_, ?_, ?_, fun _ => h1, ?_⟩
  · rw [← hW1]; exact run_enterLoop_outer _ _ _ _ _
  · simp [resolve, go_sem]
  · intro f' hf'; trivial
  · simp [invoke, go_sem, eg]
  · refine (hseq (W0.heap.size + 1) (AnyZI.ApAt ρ w fn (.func (.func g) #[] lb) w.heap.size (W0.heap.size + 1) W0.heap.size) W1 hb1 (fun _ _ hJ => hJ.below)
      (fun pre x W hJ hl => AnyZI.apYield { L with } Fence.wide (n - 1 - 1) w fn hfn _ w.heap.size (W0.heap.size + 1) W0.heap.size (by omega) (by omega) (by omega) (Nat.le_refl _) (by omega) N hN hNb pre x W hJ hl) hM).mono ?_
    rintro e W2 ⟨⟨v0, rfl⟩, ss, hS, h2⟩
    obtain ⟨v, hv, hrow, hnil⟩ := h2.box
    have hend := run_endLoop (P := P) h2.L (by simp [AnyZI.apRec])
    obtain ⟨W3, hW3⟩ : ∃ W3, W2.putObj (W0.heap.size + 1) (.loop { AnyZI.apRec ρ fn (.func (.func g) #[] lb) w.heap.size W0.heap.size .ready none with state := .exhausted }) = W3 := ⟨_, rfl⟩
    rw [hW3] at hend
    have hg3 : W2.grownBy W3 (some (W0.heap.size + 1)) := by rw [← hW3]; exact grownBy_putObj_a _ _ _
    have hv3 : W3.heap[w.heap.size]? = some (.cells #[v] (ρ.t 24) (0, 0)) := by rw [← hW3]; exact (World.putObj_heap_other (by omega)).trans hv
    have hK3 : W3.heap[W0.heap.size]? = some (.deferred (some [])) := by rw [← hW3]; exact (World.putObj_heap_other (by omega)).trans h2.K
    have hrow3 := hrow.kept hg3 (ownsRow_ne_a hrow h2.L (fun cur e => by first | cases e | exact hne (Obj.cells.inj e).2.1))
    have hb3 : Below w.heap.size w W3 := h2.below.grown hg3 h2.below.size (fun k e => by cases e; omega)
    obtain ⟨hc3, hf3⟩ := cell_of_box_a hv3
    clear hW3
    refine ⟨none, W3, hend, ?_⟩
    gi_wp2
    rw [← hs0]
    refine ⟨by simp, .inl ⟨_, _, rfl, run_takeDeferred hK3, ?_⟩⟩
    exact ⟨_, results_tmp rfl _ _ _, v, ss, rfl, hS, hrow3.kept (grownBy_putObj_a _ _ _) (ownsRow_ne_a hrow3 hK3 (fun cur e => by first | cases e | exact hne (Obj.cells.inj e).2.1)), hnil, hb3.grown (grownBy_putObj_a _ _ _) hb3.size (fun k e => by cases e; omega)⟩

/-- Two later worlds of one. -/
theorem below_pair {w A B : World} {n : Nat} (a : Below n w A) (b : Below n w B) (hs : A.heap.size ≤ B.heap.size) : Below n A B :=
  ⟨b.os.trans a.os.symm, b.tape.trans a.tape.symm, b.output.trans a.output.symm, hs, fun k hk => (b.block k hk).trans (a.block k hk).symm⟩

end Go.Vm
