/-
  Vm, part 39: laws whose arguments bear places: slices of numbers that are only read.
-/
import Derived.Test.YtcoghkkhjaokmaaGreatDoorVmCek
import Derived.WideKeyArgs
import Derived.ChangeSlices
namespace Go.Vm
open Go.RowKit

variable {P : Program}

/-! ### What was there reads as it did -/

theorem trodAll_stays {H : Type} {enc : TypeId × Value → H} (hl : laidOutB P = true) {W W' : World} (hb : Below W.heap.size W W') {sp : Nat → Bool} :
    ∀ {ts : List TypeId} {vs : List Value} {ds : List (DataW H)} {p : List MemPlace}, (∀ t, t ∈ ts → P.readableRec t = true ∧ t < P.types.size) → DataW.TrodAll enc P W 0 (fun _ => true) true ts vs ds p →
    (∀ x, x ∈ p → x.block < W.heap.size) → (∀ x, x ∈ p → sp x.block = true) → DataW.TrodAll enc P W' 0 sp true ts vs ds p
  | [], [], [], p, _, h, _, _ => h
  | t :: ts, v :: vs, d :: ds, p, hr, h, hlt, hsp => by
    obtain ⟨q, r, h1, h2, rfl⟩ := h
    obtain ⟨k1, k2⟩ := hr t List.mem_cons_self
    exact ⟨q, r, WideElems.Trod_stays hl k1 k2 h1 (fun x hx => hb.same (hlt x (List.mem_append_left _ hx))) (fun x hx => hsp x (List.mem_append_left _ hx)),
      trodAll_stays hl hb (fun t ht => hr t (List.mem_cons_of_mem _ ht)) h2 (fun x hx => hlt x (List.mem_append_right _ hx)) (fun x hx => hsp x (List.mem_append_right _ hx)), rfl⟩
  | [], [], _ :: _, _, _, h, _, _ => h.elim
  | [], _ :: _, _, _, _, h, _, _ => h.elim
  | _ :: _, [], _, _, _, h, _, _ => h.elim
  | _ :: _, _ :: _, [], _, _, h, _, _ => h.elim

theorem frozen_below {W W' : World} (hb : Below W.heap.size W W') {a : Addr} (ha : a.block < W.heap.size) : W'.frozen? a = W.frozen? a := by
  simp only [World.frozen?, hb.block a.block ha]

/-- What a law's row asks, where all that was there is left alone. -/
theorem post_kept {H : Type} {enc : TypeId × Value → H} {f : Func} {s : ChangeSpec} {apart fresh handsOn again : Bool} {W W' : World} {args : Array Value} {v : Value} {ds gs : List (DataW H)} {before : List MemPlace}
    (hW : DataW.Whole enc P f.params.toList s.vars apart W args.toList ds gs before) (hnv : s.vars = [])
    (hl : laidOutB P = true) (hr : ∀ t, t ∈ f.params.toList → P.readableRec t = true ∧ t < P.types.size)
    (hfn : (s.fn H (ds ++ gs)).args = ds) (hvn : (s.fn H (ds ++ gs)).vars = [])
    (hres : ∀ (b : Nat) (sp : Nat → Bool) (hd : Bool), DataW.TrodAll enc P W' b sp hd f.resultTypes.toList (v.resultList f.resultTypes.size) (s.fn H (ds ++ gs)).results [])
    (hb : Below W.heap.size W W')
    (hok : ∀ (j : Nat) (t : TypeId) (r : Value), f.resultTypes[j]? = some t → (v.resultList f.resultTypes.size)[j]? = some r → Value.okWide P W' .any 0 t r) :
    s.post enc P f apart fresh handsOn again W args v W' := by
  have hW0 := hW
  obtain ⟨p, q, h1, h2, h3, hz, hn⟩ := hW
  rw [hnv] at h2
  have hq : q = [] := by
    cases gs with
    | nil => exact h2
    | cons g gs => exact h2.elim
  subst hq
  rw [List.append_nil] at h3
  subst h3
  have hlt : ∀ x, x ∈ before → x.block < W.heap.size := fun x hx => hW0.lt x hx
  have hargs : ∀ sp : Nat → Bool, (∀ x, x ∈ before → sp x.block = true) → DataW.TrodAll enc P W' 0 sp true f.params.toList args.toList (s.fn H (ds ++ gs)).args before := fun sp hsp => by
    rw [hfn]
    exact trodAll_stays hl hb hr h1 hlt hsp
  have hvars : ∀ sp : Nat → Bool, DataW.TrodVars enc P W' sp s.vars (s.fn H (ds ++ gs)).vars [] := fun sp => by
    rw [hnv, hvn]
    rfl
  have hk : W.keptBut W' (fun _ => False) := keptBut_of hb.os hb.output fun k hk => hb.block k hk
  have hnd : ∀ b off, MemPlace.cell b off ∈ before → W'.frozen? ⟨b, off, none⟩ = false := fun b off hp => by
    rw [frozen_below hb (hlt _ hp)]
    exact hz b off hp
  have hold : ∀ x, x ∈ before → (fun b => decide (b < W.heap.size)) x.block = true := fun x hx => by simpa using hlt x hx
  refine ⟨ds, gs, before, [], before, [], hW0, hres _ _ _, hargs _ hold, hvars _, World.keptBut_mono (fun p hp => hp.elim) hk, fun _ => ?_⟩
  exact ⟨hok, _, _, [] ++ before, ⟨[] ++ before, [], Go.ChangeShapes.trodAll_append (hargs (fun _ => true) fun _ _ => rfl) (hres 0 (fun _ => true) true), hvars _, by simp, fun b off hp => hnd b off (by simpa using hp), by simpa using hn⟩, fun p hp _ => by simpa using hp⟩

/-! ### A law's call, whose walk was shown -/

theorem top_wp (hm : P.follows .mixedOrders = true) {p : Prog} (hp : Valid P p) {ext : Ext} (hrx : Rises ext) (hx : CallOk P p.env ext) {φ : Emb} {h0 : Hp} {w : World} (hr : HR φ h0 w) (hok : EnvOk P φ p.env) (hfr : ∀ b, h0.next ≤ b → φ.at_ b = none)
    (hro : ∀ b, (h0.blk b).open_ = false) {f : Nat} {args : List V} {us : List Value} (hen : entered P f = true) (hargs : VRs φ args us) (hw : WPc p ext f args h0 fun v _ => v = .bool true) :
    Calls P f us.toArray w fun e w' => e = .returned (.bool true) ∧ Below w.heap.size w w' := by
  obtain ⟨n, v, h', hc, rfl⟩ := hw
  have := call_ok hm hp hrx hx n φ f args h0 (.bool true) h' w us hc hok hr (fun b h1 _ => hfr b h1) hargs
  rcases this with ⟨_, h2⟩ | ⟨u, ψ, w', h1, _⟩
  · refine h2.mono ?_
    rintro e w' ⟨u, ψ, rfl, r1, r2⟩
    cases r1
    exact ⟨rfl, r2.os, r2.tape, r2.output, r2.size, fun k hk => r2.kept k hk fun b pl hb => by rw [hro b] at hb; cases hb⟩
  · rw [callFunc_entered hen] at h1
    cases h1

/-- Numbers in a slice of the small machine's. -/
def IntsV (h : Hp) (s : V) (xs : List Int) : Prop :=
  (lenbV s = some (.int .i64 0) ∧ xs = []) ∨ ∃ b o c ex l ro, s = .slice b o 1 xs.length c ex ∧ h.blk b = .cells l ro ∧ ∀ i x, xs[i]? = some x → l[o + i]? = some (.int .i64 x)

theorem cells_there {w : World} {a : Addr} {n : Nat} {g : Nat → Value} (h : ∀ i, i < n → w.cell? (a.add i) = some (g i)) (hn : 0 < n) :
    ∃ b off c e fz, a = ⟨b, off, none⟩ ∧ w.heap[b]? = some (.cells c e fz) ∧ off + n ≤ c.size ∧ ∀ i, i < n → c[off + i]? = some (g i) := by
  obtain ⟨b, off, spot⟩ := a
  have hspot : spot = none := by simpa [Addr.add] using World.cell?_spot (h 0 hn)
  subst hspot
  have h' : ∀ i, i < n → w.cell? ⟨b, off + i, none⟩ = some (g i) := fun i hi => by rw [← Go.WideShapes.add_plain]; exact h i hi
  cases hb : w.heap[b]? with
  | none => have := h' 0 hn; simp [World.cell?, hb] at this
  | some o =>
    cases o with
    | cells c e fz =>
      have hc : ∀ i, i < n → c[off + i]? = some (g i) := fun i hi => by have := h' i hi; simpa [World.cell?, hb] using this
      refine ⟨b, off, c, e, fz, rfl, hb, ?_, hc⟩
      have := (Array.getElem?_eq_some_iff.1 (hc (n - 1) (by omega))).1
      omega
    | _ => have := h' 0 hn; simp [World.cell?, hb] at this

/-- A law of one slice of numbers. -/
theorem top_ints (hm : P.follows .mixedOrders = true) {p : Prog} (hp : Valid P p) {ext : Ext} (hrx : Rises ext) (hx : CallOk P p.env ext) (htab : p.env.tab = []) (hints : IntsOk P p.env.ints)
    {f : Nat} (hen : entered P f = true)
    (hw : ∀ (h : Hp) (s : V) (xs : List Int), IntsV h s xs → (∀ x, x ∈ xs → (Lit.int .i64 x).wf = true) → xs.length ≤ maxLen → P.globals.size ≤ h.next → (∀ x, s.hasB x → x < h.next) → WPc p ext f [s] h fun v _ => v = .bool true)
    {H : Type} {enc : TypeId × Value → H} {t e : TypeId} (ht : P.underlying t = some (.slice e)) (he : P.underlying e = some (.int .i64)) (hc1 : P.cellsOf e = 1)
    {w : World} {a0 : Option Addr} {len cap : Nat} {d : DataW H} {ps : List MemPlace} (hd : DataW.Trod enc P w 0 (fun _ => true) true t (.slice a0 len cap) d ps) :
    Calls P f #[.slice a0 len cap] w fun e w' => e = .returned (.bool true) ∧ Below w.heap.size w w' := by
  have hok0 : EnvOk P (emb0 P fun _ => .int .i64 0) p.env := ⟨fun _ => ⟨_, _, rfl⟩, fun g hg => ⟨0, by show (if g < P.globals.size then _ else _) = _; rw [if_pos hg]⟩, by rw [htab]; exact fun _ _ _ _ _ _ h => (by cases h), hints⟩
  have hr0 : HR (emb0 P fun _ => .int .i64 0) (h00 P.globals.size) w := ⟨fun b hb => (by rw [blk_h00] at hb; cases hb), fun b b' pl pl' hb => (by rw [blk_h00] at hb; cases hb), fun b _ => blk_h00 _ b⟩
  have hfr0 : ∀ b, (h00 P.globals.size).next ≤ b → (emb0 P fun _ => .int .i64 0).at_ b = none := fun b h1 => by
    show (if b < P.globals.size then some (⟨b, 0, 0⟩ : Place) else none) = _
    have h1 : P.globals.size ≤ b := h1
    rw [if_neg (by omega)]
  obtain ⟨fuel, hf⟩ := hd
  rcases Go.ChangeShapes.open_ints ht he hc1 hf with ⟨hcs, _⟩ | ⟨a, len', cap', zs, hcs, _, hl, hmx, hz, _, hcell, hwz⟩
  · simp [Value.cells] at hcs
    obtain ⟨rfl, rfl, rfl⟩ := hcs
    exact top_wp hm hp hrx hx hr0 hok0 hfr0 (fun b => by rw [blk_h00]; rfl) hen (.cons _ _ _ _ .nilslice .nil) (hw (h00 P.globals.size) .nilslice [] (.inl ⟨rfl, rfl⟩) (fun _ h => by cases h) (Nat.zero_le _) (Nat.le_refl _) fun x hx => hx.elim)
  · simp [Value.cells] at hcs
    obtain ⟨rfl, rfl, rfl⟩ := hcs
    simp at hz
    rcases Nat.eq_zero_or_pos cap with hc0 | hpos
    · have hl0 : len = 0 := by omega
      subst hl0
      refine top_wp hm hp hrx hx (h0 := { next := P.globals.size + 1, t := .leaf }) (φ := emb0 P fun _ => .int .i64 0) ?_ hok0 ?_ ?_ hen (.cons _ _ _ _ (.slice P.globals.size 0 1 0 0 true a cap (fun hh => absurd hh (by omega)) (Nat.le_refl _) (Nat.zero_le _) (fun _ => hc0.symm)) .nil) (hw _ _ [] (.inl ⟨rfl, rfl⟩) (fun _ h => by cases h) (Nat.zero_le _) (Nat.le_succ _) fun x hx => ?_)
      · exact ⟨fun b hb => (by simp [Hp.blk, Blk.live] at hb), fun b b' pl pl' hb => (by simp [Hp.blk, Blk.live] at hb), fun b _ => by simp [Hp.blk]⟩
      · intro b h1
        show (if b < P.globals.size then some (⟨b, 0, 0⟩ : Place) else none) = _
        have h1 : P.globals.size + 1 ≤ b := h1
        rw [if_neg (by omega)]
      · intro b; simp [Hp.blk, Blk.open_]
      · have : x = P.globals.size := hx
        show x < P.globals.size + 1
        omega
    · obtain ⟨b, off, c, ee, fz, rfl, hb, hsz, hc⟩ := cells_there (n := cap) (g := fun i => .int .i64 (zs.getD i 0)) (fun i hi => hcell i (by omega)) hpos
      let φ : Emb := ⟨fun x => if x = P.globals.size then some ⟨b, off, cap⟩ else if x < P.globals.size then some ⟨x, 0, 0⟩ else none, fun _ => .int .i64 0⟩
      have hblk : ∀ x, ((h00 P.globals.size).new (.cells (rowI zs) true)).blk x = if x = P.globals.size then .cells (rowI zs) true else .gone := fun x => by
        rw [blk_new, blk_h00]; rfl
      have hrow : ∀ (l : List Int) (i : Nat) (v : V), (rowI l)[i]? = some v → v = .int .i64 (l.getD i 0) ∧ i < l.length := by
        intro l
        induction l with
        | nil => intro i v h; simp [rowI] at h
        | cons n l ih =>
          intro i v h
          cases i with
          | zero => simp [rowI] at h; exact ⟨by simp [← h], by simp⟩
          | succ i =>
            have := ih i v (by simpa [rowI] using h)
            exact ⟨by simpa using this.1, by simpa using this.2⟩
      have hrow' : ∀ (l : List Int) (i : Nat) (x : Int), l[i]? = some x → (rowI l)[i]? = some (.int .i64 x) := by
        intro l
        induction l with
        | nil => intro i x h; simp at h
        | cons n l ih =>
          intro i x h
          cases i with
          | zero => simp at h; simp [rowI, h]
          | succ i => simpa [rowI] using ih i x (by simpa using h)
      have hφg : φ.at_ P.globals.size = some ⟨b, off, cap⟩ := by show (if P.globals.size = P.globals.size then _ else _) = _; rw [if_pos rfl]
      refine top_wp hm hp hrx hx (h0 := (h00 P.globals.size).new (.cells (rowI zs) true)) (φ := φ) ?_ ?_ ?_ ?_ hen (.cons _ _ _ _ (.slice P.globals.size 0 1 len cap true ⟨b, off, none⟩ cap (fun _ => ⟨⟨b, off, cap⟩, hφg, rfl, fun ee => by cases ee⟩) hl (Nat.le_refl _) (fun _ => rfl)) .nil)
        (hw _ _ (zs.take len) (.inr ⟨P.globals.size, 0, cap, true, rowI zs, true, by rw [List.length_take, Nat.min_eq_left (by omega)], by rw [hblk, if_pos rfl], fun i x hi => ?_⟩) (fun x hx => hwz x (List.take_subset _ _ hx)) (by rw [List.length_take]; omega) (Nat.le_succ _) fun x hx => ?_)
      · refine ⟨fun x hx => ?_, fun x x' q q' hx hx' _ _ _ hne => ?_, fun x hx => ?_⟩
        · rw [hblk] at hx ⊢
          by_cases ex : x = P.globals.size
          · rw [if_pos ex]
            refine ⟨⟨b, off, cap⟩, by rw [ex]; exact hφg, ?_⟩
            show CellsRo _ _ _ _
            refine ⟨by rw [rowI_length, hz]; exact Nat.le_refl _, c, ee, fz, hb, hsz, fun i v hi => ?_⟩
            obtain ⟨rfl, hlt⟩ := hrow zs i v hi
            exact ⟨_, hc i (by omega), .int _ _⟩
          · rw [if_neg ex] at hx; cases hx
        · rw [hblk] at hx hx'
          by_cases ex : x = P.globals.size
          · by_cases ex' : x' = P.globals.size
            · exact absurd (ex.trans ex'.symm) hne
            · rw [if_neg ex'] at hx'; cases hx'
          · rw [if_neg ex] at hx; cases hx
        · rw [hblk, if_neg]
          have : P.globals.size + 1 ≤ x := hx
          omega
      · refine ⟨fun _ => ⟨_, _, rfl⟩, fun g hg => ⟨0, ?_⟩, by rw [htab]; exact fun _ _ _ _ _ _ h => (by cases h), hints⟩
        show (if g = P.globals.size then _ else if g < P.globals.size then _ else _) = _
        rw [if_neg (by omega), if_pos hg]
      · intro x hx
        have hx : P.globals.size + 1 ≤ x := hx
        show (if x = P.globals.size then _ else if x < P.globals.size then _ else _) = _
        rw [if_neg (by omega), if_neg (by omega)]
      · intro x
        rw [hblk]
        split <;> rfl
      · rw [Nat.zero_add]
        rw [List.getElem?_take] at hi
        split at hi
        · exact hrow' zs i x hi
        · cases hi
      · have : x = P.globals.size := hx
        show x < P.globals.size + 1
        omega

end Go.Vm
