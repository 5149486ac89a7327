/-
  'colonnade/colonnadelaw18.TxnsPlays' returns true whatever its script: proved for all, without a condition.
  The walk goes over the small machine: between two rounds the book holds just the transactions that the law keeps in its own slice, and its ticks are one less than what the law remembers.
-/
import Derived.Test.YtliaohleajdgiaaTx
import Derived.WalkKit
import Derived.ProofKit
import Derived.OpenShut
set_option maxRecDepth 10000
namespace Go.Proofs.Ytliaohleajdgiaa.txnsPlays
open Go.Vm

/-! ### Cuts -/

def okR (J : Fr → Hp → Prop) : Res → Prop
  | .ok fr h => J fr h
  | _ => False
theorem okR_ok {J : Fr → Hp → Prop} {fr : Fr} {h : Hp} : okR J (.ok fr h) ↔ J fr h := Iff.rfl
attribute [simp] okR_ok

theorem ws_cut {p : Prog} {ext : Ext} {c : MCode} {K : List KF} {fr : Fr} {h : Hp} {Q : Res → Prop} (J : Fr → Hp → Prop) (h1 : WS p ext c [] fr h (okR J)) (h2 : ∀ fr' h', J fr' h' → RK p ext K (.ok fr' h') Q) : WS p ext c K fr h Q := by
  refine (h1 : WP _ _ _ _ _ _).mono fun r hr => ?_
  have hr : okR J r := hr
  cases r with
  | ok fr' h' => exact h2 fr' h' hr
  | _ => exact hr.elim

theorem ws_seq {p : Prog} {ext : Ext} {a b : MCode} {K : List KF} {fr : Fr} {h : Hp} {Q : Res → Prop} (J : Fr → Hp → Prop) (h1 : WS p ext a [] fr h (okR J)) (h2 : ∀ fr' h', J fr' h' → WS p ext b K fr' h' Q) : WS p ext (.seq a b) K fr h Q :=
  WS.seq.2 (ws_cut J h1 h2)

/-! ### The law's own book -/

/-- The slice av holds l, and lies apart from the book; the acts lie apart from both. -/
structure Par (h : Hp) (b : Nat) (s av : V) (xs : List Int) (l : List Tx) : Prop where
  al : Own h 4 av l.length (encs l)
  ap : ∀ x, av.hasB x → ¬ BookF h b x ∧ x < h.next
  ac : IntsV h s xs
  cs : ∀ x, s.hasB x → ¬ BookF h b x ∧ ¬ av.hasB x ∧ x < h.next

theorem IntsV.mono {h h' : Hp} {s : V} {xs : List Int} (hs : IntsV h s xs) (hk : ∀ x, s.hasB x → h'.blk x = h.blk x) : IntsV h' s xs := by
  rcases hs with h1 | ⟨b, o, c, ex, l, ro, rfl, h2, h3⟩
  · exact .inl h1
  · exact .inr ⟨b, o, c, ex, l, ro, rfl, by rw [hk b rfl, h2], h3⟩

theorem BookF.mono {h h' : Hp} {b x : Nat} (hb : h'.blk b = h.blk b) : BookF h' b x ↔ BookF h b x := by
  unfold BookF; rw [hb]

theorem Par.mono {h h' : Hp} {b : Nat} {s av : V} {xs : List Int} {l : List Tx} (hp : Par h b s av xs l) (hn : h.next ≤ h'.next) (hb : ∀ x, BookF h' b x → BookF h b x ∨ h.next ≤ x) (hk : ∀ x, x < h.next → ¬ BookF h b x → h'.blk x = h.blk x) : Par h' b s av xs l := by
  have out : ∀ x, x < h.next → ¬ BookF h b x → ¬ BookF h' b x := fun x h1 h2 h3 => by
    rcases hb x h3 with e | e
    · exact h2 e
    · omega
  refine ⟨hp.al.mono fun x hx => hk x (hp.ap x hx).2 (hp.ap x hx).1, fun x hx => ⟨out x (hp.ap x hx).2 (hp.ap x hx).1, Nat.lt_of_lt_of_le (hp.ap x hx).2 hn⟩, IntsV.mono hp.ac fun x hx => hk x (hp.cs x hx).2.2 (hp.cs x hx).1, fun x hx => ?_⟩
  obtain ⟨h1, h2, h3⟩ := hp.cs x hx
  exact ⟨out x h3 h1, h2, Nat.lt_of_lt_of_le h3 hn⟩

theorem Par.call {h h' : Hp} {b : Nat} {s av : V} {xs : List Int} {l : List Tx} (hp : Par h b s av xs l) (hc : BookC h h' b) : Par h' b s av xs l :=
  hp.mono hc.next hc.own hc.kept

/-- Nothing but new blocks. -/
theorem Par.grow {h h' : Hp} {b : Nat} {s av : V} {xs : List Int} {l : List Tx} {t : Int} {l0 : List Tx} (hp : Par h b s av xs l) (hb : Book h b t l0) (hn : h.next ≤ h'.next) (hk : ∀ x, x < h.next → h'.blk x = h.blk x) : Par h' b s av xs l :=
  hp.mono hn (fun _ hx => .inl ((BookF.mono (hk b hb.lt)).1 hx)) fun x hx _ => hk x hx

/-- One turned. -/
theorem Par.turn {h : Hp} {b k j : Nat} {s av : V} {xs : List Int} {l l0 : List Tx} {t : Int} {x y : Tx} {v : V} (hp : Par h b s av xs l) (hb : Book h b t l0) (hx : l[k]? = some x) (hj : j < 4) (hy : y.enc = x.enc.set j v) (hf : v.flat = true) :
    ∃ sb h', av = .slice sb 0 4 l.length l.length false ∧ iaddrV 4 av (.int .i64 (k : Int)) = some (.ptr sb (k * 4)) ∧ storeH h 1 sb (k * 4 + j) [v] = some h' ∧ Book h' b t l0 ∧ Par h' b s av xs (l.set k y) := by
  have hk : k < l.length := (List.getElem?_eq_some_iff.1 hx).1
  obtain ⟨sb, rfl, hia, hbk⟩ := hp.al.iaddr hk
  obtain ⟨has1, has2⟩ := hp.ap sb rfl
  have hne : b ≠ sb := fun e => has1 (.inl e.symm)
  have hb1 : (h.put sb (.cells (encs (l.set k y)) false)).blk b = h.blk b := by rw [blk_put, if_neg hne]
  refine ⟨sb, h.put sb (.cells (encs (l.set k y)) false), rfl, hia, ?_, hb.keep (Nat.le_refl _) fun x hx => ?_, ?_, ?_, ?_, ?_⟩
  · rw [storeH_cells (sz := 1) (vs := [v]) hbk rfl (by rw [encs_length]; omega) (by rw [allFlat_cons, hf]; rfl), encs_set hx hj hy]
  · rw [blk_put, if_neg]
    rintro rfl
    exact has1 hx
  · exact .inr ⟨sb, by simp, by rw [blk_put, if_pos rfl], by rw [encs_length], by simp; omega⟩
  · intro x hx
    rw [BookF.mono hb1]
    exact hp.ap x hx
  · refine IntsV.mono hp.ac fun x hx => ?_
    rw [blk_put, if_neg]
    rintro rfl
    exact (hp.cs _ hx).2.1 rfl
  · intro x hx
    rw [BookF.mono hb1]
    exact hp.cs x hx

/-- One more. -/
theorem Par.more {h : Hp} {b : Nat} {s av src : V} {xs : List Int} {l l0 : List Tx} {t : Int} {x : Tx} (hp : Par h b s av xs l) (hb : Book h b t l0) (hl : l.length < 1000000) (hlen : lenV src = some 1) (hsrc : srcCells h 4 1 src = some x.enc) :
    ∃ h', appendV 4 32 h av src = some (.slice h.next 0 4 (l.length + 1) (l.length + 1) false, h') ∧ Book h' b t l0 ∧ Par h' b s (.slice h.next 0 4 (l.length + 1) (l.length + 1) false) xs (l ++ [x]) := by
  obtain ⟨h2, e, n2, c2, g2, k2⟩ := appendV_own (by_ := 32) (x := src) (m := 1) (new := x.enc) hp.al hlen (by omega) (roomy_of (by omega) (by omega)) hsrc rfl rfl
  have keep : ∀ y, y < h.next → ¬ av.hasB y → h2.blk y = h.blk y := fun y hy hny => k2 y (by omega) hny
  have hav : ∀ y, BookF h b y → ¬ av.hasB y := fun y hy hay => (hp.ap y hay).1 hy
  have hbb : h2.blk b = h.blk b := keep b hb.lt (hav b (.inl rfl))
  refine ⟨h2, e, hb.keep (by omega) fun y hy => keep y (hb.below hy) (hav y hy), ?_, ?_, ?_, ?_⟩
  · exact .inr ⟨h.next, by simp, by rw [c2]; simp [encs], by simp [encs_length], by simp⟩
  · intro y hy
    have : y = h.next := hy
    subst this
    rw [BookF.mono hbb]
    exact ⟨fun hf => by have := hb.below hf; omega, by omega⟩
  · exact IntsV.mono hp.ac fun y hy => keep y (hp.cs y hy).2.2 (hp.cs y hy).2.1
  · intro y hy
    obtain ⟨h1, h3, h4⟩ := hp.cs y hy
    rw [BookF.mono hbb]
    exact ⟨h1, fun e => by have e : y = h.next := e; omega, by omega⟩


/-! ### TxnsPlays -/

/-- The transaction that id names, as the law copies it. -/
def Named (l : List Tx) (id : Int) (y : Tx) : Prop := (∃ k : Nat, id = k + 1 ∧ l[k]? = some y) ∨ (y = ⟨0, 0, 0, 0⟩ ∧ ∀ sts, inB l id sts = none)

theorem Named.found {l : List Tx} {id : Int} {y : Tx} (hn : Named l id y) {sts : List Int} (h0 : (0 : Int) ∉ sts) :
    (y.st ∈ sts ∧ ∃ k : Nat, id = k + 1 ∧ inB l id sts = some k ∧ l[k]? = some y) ∨ (y.st ∉ sts ∧ inB l id sts = none) := by
  rcases hn with ⟨k, rfl, hk⟩ | ⟨rfl, hk⟩
  · have hkl : k < l.length := (List.getElem?_eq_some_iff.1 hk).1
    have hin : inB l ((k : Int) + 1) sts = if y.st ∈ sts then some k else none := by
      unfold inB
      rw [if_neg (by omega), show ((k : Int) + 1 - 1).toNat = k by omega]
      simp [hk]
    by_cases hs : y.st ∈ sts
    · exact .inl ⟨hs, k, rfl, by rw [hin, if_pos hs], hk⟩
    · exact .inr ⟨hs, by rw [hin, if_neg hs]⟩
  · exact .inr ⟨h0, hk sts⟩

theorem eqB {a b : Bool} : eqP .bool true (.bool a) (.bool b) = some (.bool (a != b)) := by cases a <;> cases b <;> rfl

theorem eqRow {x : Tx} : eqP (.struct [(0, none, .int), (1, none, .int), (2, none, .int), (3, none, .int)]) true (.agg x.enc) (.agg x.enc) = some (.bool false) := by
  simp [eqP, eqV, eqVs, fieldOf, Tx.enc, ieq_t, keq_self]

theorem enc_len {x : Tx} : x.enc.length = 4 := rfl

theorem w11 {h : Hp} : Ret pr xt 11 [] h (.bool true) h := ⟨0, rfl⟩

/-- What stands behind an act. -/
def After (s : V) (xs : List Int) (b i : Nat) (fr : Fr) (h : Hp) : Prop := ∃ (t : Int) (l : List Tx) (av : V), ev fr (.tmp 0) = s ∧ ev fr (.tmp 3) = .ptr b 0 ∧ ev fr (.tmp 4) = av ∧ ev fr (.tmp 5) = .int .i64 (t + 1) ∧ ev fr (.tmp 6) = .int .i64 i ∧
  0 ≤ t ∧ t ≤ i + 1 ∧ l.length ≤ i + 1 ∧ Book h b t l ∧ Par h b s av xs l

theorem plays {h : Hp} {s : V} {xs : List Int} (hs : IntsV h s xs) (hlt : ∀ x, s.hasB x → x < h.next) : WPc pr xt 5 [s] h fun v _ => v = .bool true := by
  refine enter rfl rfl rfl ?_
  have hsl : lenbV s = some (.int .i64 xs.length) := by
    rcases hs with ⟨h1, rfl⟩ | ⟨b, o, c, ex, l, ro, rfl, _⟩
    · simpa using h1
    · rfl
  simp [m5, w6.call, eqP, eqV]
  generalize hh0 : h.new (.cells [.int .i64 0, .nilslice] false) = h0
  have hb0 : Book h0 h.next 0 [] := hh0 ▸ book_new
  refine ws_loop (fun k fr h' => ∃ (i : Nat) (t : Int) (l : List Tx) (av : V), k = 101 - i ∧ i ≤ 100 ∧ ev fr (.tmp 0) = s ∧ ev fr (.tmp 3) = .ptr h.next 0 ∧ ev fr (.tmp 4) = av ∧ ev fr (.tmp 5) = .int .i64 (t + 1) ∧ ev fr (.tmp 6) = .int .i64 i ∧ 0 ≤ t ∧ t ≤ i ∧ l.length ≤ i ∧
    Book h' h.next t l ∧ Par h' h.next s av xs l) ?_ (k := 101) ?_
  · rintro k fr h' ⟨i, t, l, av, rfl, hi, e0, e3, e4, e5, e6, ht0, ht1, hl, hb, hp⟩
    by_cases c1 : i < xs.length
    case neg =>
      simp [e0, e6, hsl]
      rw [decide_eq_false c1]
      simp [w11.call]
    case pos =>
      simp [e0, e6, hsl, -WS.block]
      rw [decide_eq_true c1]
      simp [e6, -WS.block]
      by_cases c2 : i < 100
      case neg =>
        rw [decide_eq_false (by omega : ¬ ((i : Int) < 100))]
        simp [w11.call]
      case pos =>
        rw [decide_eq_true (by omega : ((i : Int) < 100))]
        simp [-WS.block]
        have hw3 : wr .i64 ((i : Int) + 1) = (i : Int) + 1 := by rw [wr_of] <;> omega
        obtain ⟨_, h1⟩ | ⟨ab, ao, ac, aex, al, aro, rfl, ha2, ha3⟩ := hp.ac
        · rw [h1] at c1; simp at c1
        have hcell := ha3 i xs[i] (by simp [c1])
        have hab := hp.cs ab rfl
        obtain ⟨q, hq1, hq2⟩ := and_range (a := shrI .i64 xs[i] 3) (m := 15) (by omega)
        simp at hq1
        have hshr : binV pr.env.tab .shr (.int .i64 xs[i]) (.int .u64 3) = some (.int .i64 (shrI .i64 xs[i] 3)) := rfl
        refine WS.block.2 (WS.seq.2 ?_)
        have hwq : wr .i64 ((q : Int) - 1) = (q : Int) - 1 := by rw [wr_of] <;> omega
        simp [e0, e6, c1, ha2, hcell, hshr, hq1, hwq, -WS.block, -WS.seq]
        refine WS.seq.2 ?_
        simp [aV, allFlat, -WS.block, -WS.seq]
        generalize hid : (q : Int) - 1 = id
        refine ws_seq (fun fr1 h1 => ∃ y, Named l id y ∧ ev fr1 (.tmp 0) = .slice ab ao 1 xs.length ac aex ∧ ev fr1 (.tmp 3) = .ptr h.next 0 ∧ ev fr1 (.tmp 4) = av ∧ ev fr1 (.tmp 5) = .int .i64 (t + 1) ∧ ev fr1 (.tmp 6) = .int .i64 i ∧
          ev fr1 (.tmp 7) = .int .i64 id ∧ ev fr1 (.tmp 8) = .ptr h'.next 0 ∧ h1.blk h'.next = .cells y.enc false ∧ h1.next = h'.next + 1 ∧ ∀ x, x < h'.next → h1.blk x = h'.blk x) ?_ ?_
        · have hlb := hp.al.lenb
          by_cases d1 : 1 ≤ id
          · simp [d1, e4, hlb]
            by_cases d2 : id ≤ l.length
            · rw [decide_eq_true d2]
              obtain ⟨k, rfl⟩ : ∃ k : Nat, id = (k : Int) + 1 := ⟨(id - 1).toNat, by omega⟩
              have hk : k < l.length := by omega
              obtain ⟨sb, rfl, hia, hbk⟩ := hp.al.iaddr hk
              have hw' : wr .i64 (k : Int) = (k : Int) := by rw [wr_of] <;> omega
              have hx : l[k]? = some l[k] := by simp [hk]
              have hrd : (h'.new (.cells [.int .i64 0, .int .i64 0, .int .i64 0, .int .i64 0] false)).read sb (k * 4) 4 = some (l[k]).enc := by
                have := (hp.ap sb rfl).2
                rw [read_cells (l := encs l) (ro := false) (by rw [blk_new, if_neg (by omega), hbk]) (by rw [encs_length]; omega), encs_row hx]
              simp [e4, hw', hk, hrd]
              rw [storeH_cells (sz := 4) (vs := (l[k]).enc) (b := h'.next) (l := [.int .i64 0, .int .i64 0, .int .i64 0, .int .i64 0]) (by simp) rfl (by simp) rfl]
              simp
              refine ⟨l[k], .inl ⟨k, rfl, hx⟩, e0, e3, e4, e5, e6, ?_, fun x hx => ?_⟩
              · simp [Tx.enc]
              · rw [if_neg (by omega), if_neg (by omega)]
            · rw [decide_eq_false d2]
              simp
              refine ⟨⟨0, 0, 0, 0⟩, .inr ⟨rfl, fun sts => ?_⟩, e0, e3, e4, e5, e6, rfl, fun x hx => ?_⟩
              · unfold inB
                rw [if_pos (by omega)]
              · intro e; omega
          · simp [d1]
            refine ⟨⟨0, 0, 0, 0⟩, .inr ⟨rfl, fun sts => ?_⟩, e0, e3, e4, e5, e6, rfl, fun x hx => ?_⟩
            · unfold inB
              rw [if_pos (by omega)]
            · intro e; omega
        rintro fr1 h1 ⟨y, hy, f0, f3, f4, f5, f6, f7, f8, hyb, hn1, hk1⟩
        have hb1 : Book h1 h.next t l := hb.keep (by omega) fun x hx => hk1 x (hb.below hx)
        have hp1 := hp.grow hb (by omega) hk1
        have ha2' : h1.blk ab = .cells al aro := by rw [hk1 ab hab.2.2, ha2]
        have hy1 : y.enc[1]? = some (.int .i64 y.st) := rfl
        have hyk : ∀ h3, BookC h1 h3 h.next → h3.blk h'.next = .cells y.enc false := fun h3 hc => by
          rw [hc.kept h'.next (by omega) (fun hf => ?_), hyb]
          have := hb.below ((BookF.mono (hk1 _ hb.lt)).1 hf)
          omega
        obtain ⟨q2, hr1, hr2⟩ := and_range (a := xs[i]) (m := 7) (by omega)
        simp at hr1
        refine ws_seq (After (.slice ab ao 1 xs.length ac aex) xs h.next i) ?_ ?_
        · simp [f0, f6, c1, ha2', hcell, hr1, -WS.block]
          refine WS.block.2 (WS.seq.2 ?_)
          rcases (by omega : (q2 = 0 ∨ q2 = 1) ∨ (q2 = 2 ∨ q2 = 3) ∨ (q2 = 4 ∨ q2 = 5) ∨ (q2 = 6 ∨ q2 = 7)) with hq | hq | hq | hq
          · have hlb := hp1.al.lenb
            have hwl : wr .i64 ((l.length : Int) + 1) = (l.length : Int) + 1 := by rw [wr_of] <;> omega
            rcases hq with rfl | rfl <;> simp [f3]
            all_goals
              refine callS_of (w7 hb1 (by omega) ht0 (by omega) fun h2 hb2 hc2 => ?_)
              have hp2 := hp1.call hc2
              simp [f4, hlb, hwl, f5, aV, allFlat]
              have hp3 := hp2.grow (h' := h2.new (.cells [.int .i64 ((l.length : Int) + 1), .int .i64 1, .int .i64 (t + 1), .int .i64 0] false)) hb2 (by simp) (fun x hx => by rw [blk_new, if_neg (by omega)])
              have hb3 := hb2.new (.cells [.int .i64 ((l.length : Int) + 1), .int .i64 1, .int .i64 (t + 1), .int .i64 0] false)
              obtain ⟨h4, e, hb4, hp4⟩ := hp3.more (src := .slice h2.next 0 4 1 1 true) (x := ⟨l.length + 1, 1, t + 1, 0⟩) hb3 (by omega) rfl (by
                rw [srcCells_slice (l := Tx.enc ⟨l.length + 1, 1, t + 1, 0⟩) (ro := false) (by rw [blk_new, if_pos rfl]; rfl) (by simp [Tx.enc])]; rfl)
              rw [e]
              simp
              exact ⟨t, l ++ [⟨l.length + 1, 1, t + 1, 0⟩], _, by simp [f0], by simp [f3], by simp, by simp [f5], by simp [f6], by omega, by omega, by simp; omega, hb4, hp4⟩
          · rcases hq with rfl | rfl <;> simp [f3, f7]
            all_goals
              refine callS_of (w9 (i := id) hb1 (by omega) ht0 (by omega) (fun h3 hin hb3 hc3 => ?_) (fun h3 k x hin hx hb3 hc3 => ?_))
              · obtain ⟨hys, k', _, hk', _⟩ | ⟨hys, _⟩ := hy.found (sts := [1]) (by simp)
                · rw [hk'] at hin; cases hin
                simp at hys
                simp [f8, hyk h3 hc3, hy1]
                rw [decide_eq_false hys]
                simp [eqB]
                exact ⟨t, l, av, by simp [f0], by simp [f3], by simp [f4], by simp [f5], by simp [f6], by omega, by omega, by omega, hb3, hp1.call hc3⟩
              · obtain ⟨hys, k', hid', hk', hx'⟩ | ⟨hys, h7⟩ := hy.found (sts := [1]) (by simp)
                · rw [hk'] at hin; cases hin
                  rw [hx'] at hx; cases hx
                  simp at hys
                  have hw1 : wr .i64 (t + 1 + 1) = t + 1 + 1 := by rw [wr_of] <;> omega
                  have hk : k < l.length := (List.getElem?_eq_some_iff.1 hx').1
                  have hwk : wr .i64 (id - 1) = (k : Int) := by rw [wr_of] <;> omega
                  obtain ⟨sb, h4, hav, hia, hst, hb4, hp4⟩ := (hp1.call hc3).turn hb3 hx' (j := 1) (v := .int .i64 2) (y := { y with st := 2 }) (by omega) rfl rfl
                  simp [f8, hyk h3 hc3, hy1]
                  rw [decide_eq_true hys]
                  simp [eqB, f5, hw1]
                  rw [decide_eq_true (by omega : t + 2 = t + 1 + 1)]
                  obtain ⟨sb2, h5, hav2, hia2, hst2, hb5, hp5⟩ := hp4.turn hb4 (k := k) (x := { y with st := 2 }) (by simp [hk]) (j := 3) (v := .int .i64 (t + 1 + 1)) (y := { y with st := 2, en := t + 1 + 1 }) (by omega) rfl rfl
                  obtain rfl : sb = sb2 := by
                    rw [hav] at hav2
                    injection hav2
                  simp [f4, f7, f5, hw1, hwk, hia, hst, hst2]
                  have e : (l.set k { y with st := 2 }).set k { y with st := 2, en := t + 1 + 1 } = l.set k { y with st := 2, en := t + 2 } := by
                    rw [List.set_set, show t + 1 + 1 = t + 2 by omega]
                  rw [e] at hp5
                  exact ⟨t + 1, l.set k { y with st := 2, en := t + 2 }, av, by simp [f0], by simp [f3], by simp [f4], by simp, by simp [f6], by omega, by omega, by simp; omega, hb5, hp5⟩
                · rw [h7] at hin; cases hin
          · rcases hq with rfl | rfl <;> simp [f8, hyb, hy1, f3, f7]
            all_goals
              refine callS_of (w12 (i := id) hb1 (by omega) (fun h3 hin hb3 hc3 => ?_) (fun h3 k x hin hx hb3 hc3 => ?_))
              · obtain ⟨hys, k', _, hk', _⟩ | ⟨hys, _⟩ := hy.found (sts := [2]) (by simp)
                · rw [hk'] at hin; cases hin
                simp at hys
                rw [decide_eq_false hys]
                simp [eqB]
                exact ⟨t, l, av, by simp [f0], by simp [f3], by simp [f4], by simp [f5], by simp [f6], by omega, by omega, by omega, hb3, hp1.call hc3⟩
              · obtain ⟨hys, k', hid', hk', hx'⟩ | ⟨hys, h7⟩ := hy.found (sts := [2]) (by simp)
                · rw [hk'] at hin; cases hin
                  rw [hx'] at hx; cases hx
                  simp at hys
                  have hk : k < l.length := (List.getElem?_eq_some_iff.1 hx').1
                  have hwk : wr .i64 (id - 1) = (k : Int) := by rw [wr_of] <;> omega
                  obtain ⟨sb, h4, hav, hia, hst, hb4, hp4⟩ := (hp1.call hc3).turn hb3 hx' (j := 1) (v := .int .i64 3) (y := { y with st := 3 }) (by omega) rfl rfl
                  rw [decide_eq_true hys]
                  simp [eqB, f4, f7, hwk, hia, hst]
                  exact ⟨t, l.set k { y with st := 3 }, av, by simp [f0], by simp [f3], by simp [f4], by simp [f5], by simp [f6], by omega, by omega, by simp; omega, hb4, hp4⟩
                · rw [h7] at hin; cases hin
          · rcases hq with rfl | rfl <;> simp [f8, hyb, hy1]
            all_goals
              by_cases s1 : y.st = 1 ∨ y.st = 2
              · have hw : y.st ∈ [(1 : Int), 2] := by simpa using s1
                obtain ⟨hys, k, hid', hk', hx'⟩ | ⟨hys, h7⟩ := hy.found (sts := [1, 2]) (by simp)
                case inr => exact absurd hw hys
                have hk : k < l.length := (List.getElem?_eq_some_iff.1 hx').1
                have hwk : wr .i64 (id - 1) = (k : Int) := by rw [wr_of] <;> omega
                by_cases s2 : y.st = 1
                · rw [decide_eq_true s2]
                  simp [f3, f7]
                  refine callS_of (w13 (i := id) hb1 (by omega) (fun h3 hin hb3 hc3 => absurd (hk'.symm.trans hin) (by simp)) (fun h3 k2 x hin hx hb3 hc3 => ?_))
                  rw [hk'] at hin; cases hin
                  rw [hx'] at hx; cases hx
                  obtain ⟨sb, h4, hav, hia, hst, hb4, hp4⟩ := (hp1.call hc3).turn hb3 hx' (j := 1) (v := .int .i64 4) (y := { y with st := 4 }) (by omega) rfl rfl
                  simp [eqB, f4, f7, hwk, hia, hst]
                  exact ⟨t, l.set k { y with st := 4 }, av, by simp [f0], by simp [f3], by simp [f4], by simp [f5], by simp [f6], by omega, by omega, by simp; omega, hb4, hp4⟩
                · rw [decide_eq_false s2]
                  simp [f8, hyb, hy1]
                  rw [decide_eq_true (s1.resolve_left s2)]
                  simp [f3, f7]
                  refine callS_of (w13 (i := id) hb1 (by omega) (fun h3 hin hb3 hc3 => absurd (hk'.symm.trans hin) (by simp)) (fun h3 k2 x hin hx hb3 hc3 => ?_))
                  rw [hk'] at hin; cases hin
                  rw [hx'] at hx; cases hx
                  obtain ⟨sb, h4, hav, hia, hst, hb4, hp4⟩ := (hp1.call hc3).turn hb3 hx' (j := 1) (v := .int .i64 4) (y := { y with st := 4 }) (by omega) rfl rfl
                  simp [eqB, f4, f7, hwk, hia, hst]
                  exact ⟨t, l.set k { y with st := 4 }, av, by simp [f0], by simp [f3], by simp [f4], by simp [f5], by simp [f6], by omega, by omega, by simp; omega, hb4, hp4⟩
              · obtain ⟨hys, k, hid', hk', hx'⟩ | ⟨hys, h7⟩ := hy.found (sts := [1, 2]) (by simp)
                · exact absurd (by simpa using hys) s1
                rw [decide_eq_false (fun e => s1 (.inl e))]
                simp [f8, hyb, hy1]
                rw [decide_eq_false (fun e => s1 (.inr e))]
                simp [f3, f7]
                refine callS_of (w13 (i := id) hb1 (by omega) (fun h3 hin hb3 hc3 => ?_) (fun h3 k2 x hin hx hb3 hc3 => absurd (h7.symm.trans hin) (by simp)))
                simp [eqB]
                exact ⟨t, l, av, by simp [f0], by simp [f3], by simp [f4], by simp [f5], by simp [f6], by omega, by omega, by omega, hb3, hp1.call hc3⟩
        rintro fr2 h2 ⟨t', l', av', g0, g3, g4, g5, g6, gt0, gt1, gl, hb2, hp2⟩
        have hlb := hp2.al.lenb
        simp [g4, g5, hlb, -WS.block]
        refine ws_range l'.length (fun j fr3 h3 => h2.next ≤ h3.next ∧ (∀ x, x < h2.next → h3.blk x = h2.blk x) ∧ ev fr3 (.tmp 147) = av' ∧ ev fr3 (.tmp 13) = .int .i64 (oldest (t' + 1) (l'.take j)) ∧
          ev fr3 (.tmp 0) = .slice ab ao 1 xs.length ac aex ∧ ev fr3 (.tmp 3) = .ptr h.next 0 ∧ ev fr3 (.tmp 4) = av' ∧ ev fr3 (.tmp 5) = .int .i64 (t' + 1) ∧ ev fr3 (.tmp 6) = .int .i64 i) (by omega) (by decide) (by simp) (by simp) ⟨Nat.le_refl _, fun _ _ => rfl, by simp, by simp [oldest], by simp [g0], by simp [g3], by simp [g4], by simp [g5], by simp [g6]⟩ ?_ ?_ ?_
        · rintro j d w fr3 h3 (rfl | rfl | rfl) ⟨k1, k2, e1, e2, e3, e4, e5, e6, e7⟩ <;> exact ⟨k1, k2, by simp [e1], by simp [e2], by simp [e3], by simp [e4], by simp [e5], by simp [e6], by simp [e7]⟩
        · rintro j fr3 h3 hj e149 e148 ⟨k1, k2, e1, e2, e3, e4, e5, e6, e7⟩
          obtain ⟨sb, hsb, hia, hbk⟩ := hp2.al.iaddr hj
          have hsl := (hp2.ap sb (by rw [hsb]; rfl)).2
          have hx : l'[j]? = some l'[j] := by simp [hj]
          have hrd : h3.read sb (j * 4) 4 = some (l'[j]).enc := by
            rw [read_cells (l := encs l') (ro := false) (by rw [k2 sb hsl, hbk]) (by rw [encs_length]; omega), encs_row hx]
          simp [e149, e1, hia, hrd, aV, allFlat]
          rw [storeH_cells (sz := 4) (vs := (l'[j]).enc) (b := h3.next) (l := [.int .i64 0, .int .i64 0, .int .i64 0, .int .i64 0]) (by simp) rfl (by simp) rfl]
          simp [Tx.enc]
          have ho1 := oldest_take (now := t' + 1) hx
          by_cases s1 : (l'[j]).st = 1
          · rw [decide_eq_true s1]
            simp [e149, e148, e1, e2, e3, e4, e5, e6, e7]
            refine ⟨by omega, fun x hx => ?_, ?_⟩
            · rw [if_neg (by omega), if_neg (by omega), k2 x hx]
            · rw [ho1, old1, if_pos (.inl s1)]
          · rw [decide_eq_false s1]
            simp
            by_cases s2 : (l'[j]).st = 2
            · rw [decide_eq_true s2]
              simp [e149, e148, e1, e2, e3, e4, e5, e6, e7]
              refine ⟨by omega, fun x hx => ?_, ?_⟩
              · rw [if_neg (by omega), if_neg (by omega), k2 x hx]
              · rw [ho1, old1, if_pos (.inr s2)]
            · rw [decide_eq_false s2]
              simp [e149, e148, e1, e2, e3, e4, e5, e6, e7]
              refine ⟨by omega, fun x hx => ?_, ?_⟩
              · rw [if_neg (by omega), if_neg (by omega), k2 x hx]
              · rw [ho1, old1, if_neg (by simp [s1, s2])]
        rintro fr3 h3 ⟨k1, k2, e1, e2, e3, e4, e5, e6, e7⟩
        have hb3 : Book h3 h.next t' l' := hb2.keep k1 fun x hx => k2 x (hb2.below hx)
        have hp3 := hp2.grow hb2 k1 k2
        simp [e4]
        refine callS_of (w8 hb3 (by omega) fun h4 sv hh n4 k4 f4 => ?_)
        have hb4 : Book h4 h.next t' l' := hb3.keep n4 fun x hx => k4 x (hb3.below hx)
        have hp4 := hp3.grow hb3 n4 k4
        have hlen : lenbV sv = some (.int .i64 l'.length) := by
          rcases hh with ⟨rfl, rfl⟩ | ⟨sb, c, ex, rfl, _⟩ <;> rfl
        have f10 : Ret pr xt 10 [.ptr h.next 0] h4 (.int .i64 (t' + 1)) h4 := by
          obtain ⟨⟨sb, q1, q2, q3, q4⟩, q5⟩ := hb4
          exact w10 (h := h4) (b := h.next) (o := 0) (t := t') (by rw [q1]; rfl) (by omega) (by omega)
        simp [e4, e5, e6, hlen, hp4.al.lenb, f10.call]
        refine callS_of (w14 hb4 (by omega) gt0 (by omega) fun h5 n5 k5 => ?_)
        have hb5 : Book h5 h.next t' l' := hb4.keep n5 fun x hx => k5 x (hb4.below hx)
        have hp5 := hp4.grow hb4 n5 k5
        simp [e2, hlen, -WS.block]
        refine ws_range l'.length (fun j fr6 h6 => h6 = h5 ∧ ev fr6 (.tmp 16) = sv ∧
          ev fr6 (.tmp 0) = .slice ab ao 1 xs.length ac aex ∧ ev fr6 (.tmp 3) = .ptr h.next 0 ∧ ev fr6 (.tmp 4) = av' ∧ ev fr6 (.tmp 5) = .int .i64 (t' + 1) ∧ ev fr6 (.tmp 6) = .int .i64 i) (by omega) (by decide) (by simp) (by simp) ⟨rfl, by simp, by simp [e3], by simp [e4], by simp [e5], by simp [e6], by simp [e7]⟩ ?_ ?_ ?_
        · rintro j d w fr6 h6 (rfl | rfl | rfl) ⟨k1, q2, q3, q4, q5, q6, q7⟩ <;> exact ⟨k1, by simp [q2], by simp [q3], by simp [q4], by simp [q5], by simp [q6], by simp [q7]⟩
        · rintro j fr6 h6 hj e189 e188 ⟨rfl, q2, q3, q4, q5, q6, q7⟩
          obtain ⟨sb, hsb, hia, hbk⟩ := hp5.al.iaddr hj
          have hx : l'[j]? = some l'[j] := by simp [hj]
          have hrd : h6.read sb (j * 4) 4 = some (l'[j]).enc := by
            rw [read_cells (l := encs l') (ro := false) hbk (by rw [encs_length]; omega), encs_row hx]
          obtain ⟨rfl, rfl⟩ | ⟨cb, c, ex, rfl, r1, r2, r3⟩ := hh
          · simp at hj
          have hcl := f4 cb rfl
          have hrd2 : h6.read cb (j * 4) 4 = some (l'[j]).enc := by
            rw [read_cells (l := encs l') (ro := false) (by rw [k5 cb hcl.2, r2]) (by rw [encs_length]; omega), encs_row hx]
          simp [e189, e188, q2, q3, q4, q5, q6, q7, hia, hrd, hrd2, hj, eqRow, enc_len]
        rintro fr6 h6 ⟨rfl, q2, q3, q4, q5, q6, q7⟩
        simp [q3, q4, q5, q6, q7, hw3]
        exact ⟨101 - (i + 1), by omega, i + 1, rfl, by omega, by omega, gt0, by omega, l', by omega, hb5, hp5⟩
  · refine ⟨0, 0, [], .nilslice, rfl, by omega, by simp, by simp, by simp, by simp, by simp, by omega, by omega, by simp, hb0, ?_⟩
    have hF : ∀ x, x < h.next → ¬ BookF h0 h.next x := fun x hx hf => by
      rcases hf with rfl | ⟨t', s', k1, k2⟩
      · omega
      · rw [← hh0, blk_new, if_pos rfl] at k1
        cases k1
        exact k2.elim
    refine ⟨.inl ⟨rfl, rfl, rfl⟩, fun x hx => hx.elim, IntsV.mono hs fun x hx => ?_, fun x hx => ⟨hF x (hlt x hx), fun e => e.elim, ?_⟩⟩
    · have := hlt x hx
      rw [← hh0, blk_new, if_neg (by omega)]
    · have := hlt x hx
      rw [← hh0, new_next]; omega

end Go.Proofs.Ytliaohleajdgiaa.txnsPlays

namespace Go.Proofs.Ytliaohleajdgiaa.txnsPlays
open Go.ChangeShapes Go.WideShapes Go.ChangeAt Go.RowKit Go.Vm
set_option linter.unusedVariables false

theorem own : ownKnob Try.prog.godebug = none := by kernel_rfl

theorem mixed : Try.prog.follows .mixedOrders = true := by kernel_rfl

theorem awake11 : runs (mach []) noExt 1000000 11 [] Try.prog.globals.size = true := by decide +kernel

theorem xt_ok {env : Env} : CallOk Try.prog env xt := constX_ok mixed (valid []) noExt_rises noExt_ok rfl intsOk (n := 1000000) fun f hf => by
  rcases List.mem_cons.1 hf with rfl | hf
  · exact ⟨by kernel_rfl, awake11⟩
  · cases hf

theorem walk {H : Type} {enc : TypeId × Value → H} {w : World} {a0 : Option Addr} {len cap : Nat} {d : DataW H} {ps : List MemPlace} (hd : DataW.Trod enc Try.prog w 0 (fun _ => true) true 22 (.slice a0 len cap) d ps) :
    Calls Try.prog 5 #[.slice a0 len cap] w fun e w' => e = .returned (.bool true) ∧ Below w.heap.size w w' :=
  top_ints (p := pr) mixed (valid []) (constX_rises _) xt_ok rfl intsOk (by kernel_rfl) (fun h s xs hs _ _ _ hlt => plays hs hlt) Try.underlying22 Try.underlying3 (by kernel_rfl) hd

/-! ### The row's step: after the seat's shell -/
set_option maxRecDepth 100000 in
theorem lifted (os : Os) (started : os.Started) (H : Type) (enc : TypeId × Value → H) :
    ReturnsInHanded {} Try.checked os 5 .any (Rows.txnsPlaysSpec.pre6 enc Try.prog Try.f5 Rows.txnsPlaysRow.domain false) (Rows.txnsPlaysSpec.post enc Try.prog Try.f5 false true false false) := by
  refine returnsInHanded_of_change (C := Try.checked) own started (by kernel_rfl) Try.func5
    (ChangeSpec.witness6 (enc := enc) (C := Try.checked) false ⟨#[], #[.slice none 0 0], []⟩ 8 (by kernel_rfl) (by kernel_rfl) (by kernel_rfl) (by kernel_rfl)) ?_
  intro W base args ds gs before hval0 hW hcnd _
  have hval : ∀ (j : Nat) t v, Try.f5.params[j]? = some t → args[j]? = some v → Value.okWide Try.prog W .any base t v := hval0
  have hW' := hW
  obtain ⟨p, q, hA0, hV, rfl, hfz, hnd⟩ := hW
  have hA : DataW.TrodAll enc Try.prog W 0 (fun _ => true) true Try.f5.params.toList args.toList ds p := hA0
  rw [Try.params5] at hA hval
  obtain ⟨v0, vs0, d0, ds0, p0, q0, hargs, rfl, rfl, h0, r0⟩ := trodAll_cons hA
  obtain ⟨rfl, rfl, rfl⟩ := trodAll_nil r0
  obtain rfl : args = #[v0] := by cases args; simp_all
  obtain ⟨rfl, rfl⟩ := trodVars_none hV
  obtain ⟨a0, len, cap, rfl⟩ := okWide_slice Try.underlying22 (hval 0 22 v0 rfl rfl)
  refine (walk h0).mono fun e W' ⟨he, hb⟩ => ?_
  subst he
  exact ⟨_, rfl, post_kept hW' rfl (by kernel_rfl) (fun t ht => by rw [Try.params5] at ht; simp at ht; subst ht; exact ⟨by kernel_rfl, of_decide_eq_true (by kernel_rfl)⟩) rfl rfl
    (fun _ _ _ => trodAll_cons_mk (shut_bool Try.underlying4 _) trodAll_mk0) hb (ok_one (by kernel_rfl) rfl (okWide_bool_mk Try.underlying4 _))⟩

theorem over : Rows.txnsPlaysRow.holds Try.pinned (OpenSpec.ofChange Rows.txnsPlaysSpec) :=
  OpenClaim.holds_of_wide 5 Try.f5 rfl rfl rfl rfl rfl rfl rfl ⟨rfl, rfl, rfl, rfl, rfl⟩ rfl rfl rfl rfl rfl (by kernel_rfl) Try.func5 (by kernel_rfl)
    (of_decide_eq_true (by kernel_rfl)) (by unfold Func.isWrapper; first | (rw [if_pos (by decide +kernel)]; kernel_rfl) | (rw [if_neg (by decide +kernel)]; exact ⟨rfl, rfl⟩))
    (fun os started H enc _ => lifted os started H enc)

theorem proved : Rows.TxnsPlaysSaid :=
  over
#print axioms proved
end Go.Proofs.Ytliaohleajdgiaa.txnsPlays
