/-
  Vm, part 19: operations that may write: the joint.
-/
import Derived.Test.YtcoghkkhjaokmaaGreatDoorVmEff2
namespace Go.Vm

variable {P : Program} {φ : Emb}

/-- Calls are not asked here. -/
def EOp.isCall : EOp → Bool
  | .call _ _ | .callv _ _ | .extern _ _ => true
  | _ => false

theorem args2 {fr : Fr} {a : Act} {args : Array Operand} {x y : Opd} (h : VRs φ (evs fr [x, y]) (args.toList.map a.eval)) : ∃ u1 u2, VR φ (ev fr x) u1 ∧ VR φ (ev fr y) u2 ∧ args.map a.eval = #[u1, u2] := by
  have hargs : (args.map a.eval).toList = args.toList.map a.eval := by simp
  simp only [evs] at h
  generalize args.toList.map a.eval = us at h hargs
  cases h with | cons _ u1 _ _ r1 h =>
  cases h with | cons _ u2 _ _ r2 h =>
  cases h
  exact ⟨u1, u2, r1, r2, by apply Array.ext'; rw [hargs]⟩

theorem args1 {fr : Fr} {a : Act} {args : Array Operand} {x : Opd} (h : VRs φ (evs fr [x]) (args.toList.map a.eval)) : ∃ u1, VR φ (ev fr x) u1 ∧ args.map a.eval = #[u1] := by
  have hargs : (args.map a.eval).toList = args.toList.map a.eval := by simp
  simp only [evs] at h
  generalize args.toList.map a.eval = us at h hargs
  cases h with | cons _ u1 _ _ r1 h =>
  cases h
  exact ⟨u1, r1, by apply Array.ext'; rw [hargs]⟩

/-- Nothing is appended. -/
theorem append_nothing {ts : Array TypeId} {sT e ty : TypeId} {it : TypeInfo} (h0 : ts[0]? = some sT) (ht : P.underlying sT = some (.slice e)) (hi : P.info? e = some it)
    {base : Option Addr} {sLen sCap : Nat} {x : Value} {w : World} (hle : sLen ≤ sCap)
    (hs : (∃ d, (ts[1]?).bind P.underlying = some d ∧ (∀ k, d ≠ .int k) ∧ (Builtin.lenOf x).run P w = .ok 0 w ∧ (Builtin.firstCells it.size 0 x).run P w = .ok #[] w) ∨ (∃ k k', (ts[1]?).bind P.underlying = some (.int k) ∧ x = .int k' (0 : Int))) :
    (Builtin.append_ ts ty #[.slice base sLen sCap, x]).run P w = .ok (.slice base sLen sCap) w := by
  rcases hs with ⟨d, h1, hd, hl, hfc⟩ | ⟨k, k', h1, rfl⟩
  · cases ht1 : ts[1]? with
    | none => simp [ht1] at h1
    | some xT =>
      simp only [ht1, Option.bind_some] at h1
      simp only [Builtin.append_, h0, List.getElem?_toArray, List.getElem?_cons_zero, List.getElem?_cons_succ, Sem.run_bind, run_underlying ht, Result.andThen_ok, sizeOf, typeInfo, run_program, hi, Sem.run_pure, ht1, run_underlying h1, Bool.false_eq_true, if_false, hl, Nat.add_zero, hle, if_true]
      cases base with
      | none => simp [hfc]
      | some a => simp [hfc, storeCells]
  · cases ht1 : ts[1]? with
    | none => simp [ht1] at h1
    | some xT =>
      simp only [ht1, Option.bind_some] at h1
      have w1 : IntKind.i64.wrap (0 : Int) = 0 := wrap_id .i64 _ (by simp only [sgn, hiN, cond_true]; omega) (by simp only [hiN]; omega)
      simp only [Builtin.append_, h0, List.getElem?_toArray, List.getElem?_cons_zero, List.getElem?_cons_succ, Sem.run_bind, run_underlying ht, Result.andThen_ok, sizeOf, typeInfo, run_program, hi, Sem.run_pure, ht1, run_underlying h1, if_true, asInt, asIntOf, w1]
      cases base with
      | none => simp [hle, hi]
      | some a => simp [hle, storeCells, hi]

theorem append_sim {env : Env} (ok : EnvOk P φ env) {h h' : Hp} {w : World} (hr : HR φ h w) (hfr : h.next < h'.next → φ.at_ h.next = none) {ts : Array TypeId} {sT e ty : TypeId} {it : TypeInfo} {z : V} (h0 : ts[0]? = some sT)
    (ht : P.underlying sT = some (.slice e)) (hi : P.info? e = some it) (hz : zeroP P e = some z) (hzl : z.cells.length = it.size) (hsz : 0 < it.size) {s x v : V} {su xu : Value} (hs : VR φ s su) (hx : VR φ x xu)
    {d : TypeDesc} (hd : (ts[1]?).bind P.underlying = some d) (hdn : ∀ k, d ≠ .int k) (hv : appendV it.size it.bytes h s x = some (v, h')) :
    ∃ u ψ w', VR ψ v u ∧ (Builtin.append_ ts ty #[su, xu]).run P w = .ok u w' ∧ St φ h w ψ h' w' := by
  obtain ⟨it2, zu, hi2, hz0, rz, rzc⟩ := zeroP_info (φ := φ) ok.sym hz
  rw [hi] at hi2; cases hi2
  have hzs : zu.cells.size = it.size := by have := rzc.length; simp at this; omega
  unfold appendV at hv
  split at hv
  · cases hv
  rename_i n hn
  have hlen := lenV_ok (P := P) hx hn w
  split at hv
  · -- nothing
    have hfc : (Builtin.firstCells it.size 0 xu).run P w = .ok #[] w := by
      cases x <;> simp only [lenV, reduceCtorEq] at hn
      · cases hx with | str s' =>
        simp [Builtin.firstCells]
      · cases hx; simp [Builtin.firstCells]
      · cases hx; exact run_first0 _ _ _ _ _
    split at hv
    · cases hv
      cases hs
      exact ⟨_, φ, w, .nilslice, append_nothing h0 ht hi (Nat.le_refl 0) (.inl ⟨d, hd, hdn, hlen, hfc⟩), .refl hr⟩
    · rename_i b o sz' len c ex
      rw [cond_eq_ite] at hv
      split at hv
      case isFalse => cases hv
      cases hv
      cases hs with | slice _ _ _ _ _ _ ad cc hp h1 h2 h3 =>
      exact ⟨_, φ, w, .slice _ _ _ _ _ _ _ _ hp h1 h2 h3, append_nothing h0 ht hi (by omega) (.inl ⟨d, hd, hdn, hlen, hfc⟩), .refl hr⟩
    · cases hv
  · rename_i n'
    split at hv
    · cases hv
    rename_i new hnew
    rw [cond_eq_ite] at hv
    split at hv
    case isFalse => cases hv
    rename_i hfl
    obtain ⟨us, r1, r2, r3⟩ := src_ok hr hx hnew
    exact appC_sim (ty := ty) ok.sym hr hfr h0 ht hi hz0 hzs hsz hs (Nat.succ_pos n') (nu := us.toArray) (by simpa using r1) r2 hfl (.inl ⟨d, hd, hdn, hlen, r3⟩) hv

theorem zeroCells_rel {z : List V} {c : Array Value} (h : VRs φ z c.toList) (n : Nat) : VRs φ (repX z n) (Builtin.zeroCells c n).toList := by
  have hl : z.length = c.size := by rw [h.length]; simp
  exact rep_rel h n (n * c.size) (by rw [hl])

theorem appendz_sim {env : Env} (ok : EnvOk P φ env) {h h' : Hp} {w : World} (hr : HR φ h w) (hfr : h.next < h'.next → φ.at_ h.next = none) {ts : Array TypeId} {sT e ty : TypeId} {it : TypeInfo} {z : V} (h0 : ts[0]? = some sT)
    (ht : P.underlying sT = some (.slice e)) (hi : P.info? e = some it) (hz : zeroP P e = some z) (hzl : z.cells.length = it.size) (hsz : 0 < it.size) {s x v : V} {su xu : Value} (hs : VR φ s su) (hx : VR φ x xu)
    {k : IntKind} (hd : (ts[1]?).bind P.underlying = some (.int k)) (hv : appendZ z.cells it.size it.bytes h s x = some (v, h')) :
    ∃ u ψ w', VR ψ v u ∧ (Builtin.append_ ts ty #[su, xu]).run P w = .ok u w' ∧ St φ h w ψ h' w' := by
  obtain ⟨it2, zu, hi2, hz0, rz, rzc⟩ := zeroP_info (φ := φ) ok.sym hz
  rw [hi] at hi2; cases hi2
  have hzs : zu.cells.size = it.size := by have := rzc.length; simp at this; omega
  unfold appendZ at hv
  split at hv
  · cases hv
  rename_i n hn
  obtain ⟨k', rfl⟩ := nat_rel hn hx
  split at hv
  · split at hv
    · cases hv
      cases hs
      exact ⟨_, φ, w, .nilslice, append_nothing h0 ht hi (Nat.le_refl 0) (.inr ⟨k, k', hd, rfl⟩), .refl hr⟩
    · rename_i b o sz' len c ex
      rw [cond_eq_ite] at hv
      split at hv
      case isFalse => cases hv
      cases hv
      cases hs with | slice _ _ _ _ _ _ ad cc hp h1 h2 h3 =>
      exact ⟨_, φ, w, .slice _ _ _ _ _ _ _ _ hp h1 h2 h3, append_nothing h0 ht hi (by omega) (.inr ⟨k, k', hd, rfl⟩), .refl hr⟩
    · cases hv
  · rename_i n'
    repeat' (rw [cond_eq_ite] at hv; split at hv)
    all_goals first | (cases hv; done) | skip
    rename_i h1 h2 h3
    rw [roomy_iff] at h3
    have hflr : allFlat (repX z.cells (n' + 1)) = true := by
      generalize n' + 1 = m
      induction m with
      | zero => rfl
      | succ m ih =>
        simp only [repX]
        have app : ∀ (a b : List V), allFlat a = true → allFlat b = true → allFlat (a ++ b) = true := by
          intro a b ha hb
          induction a with
          | nil => exact hb
          | cons v a iha =>
            simp only [List.cons_append, allFlat] at ha ⊢
            cases hv : v.flat with
            | false => simp [hv] at ha
            | true => rw [hv] at ha; exact iha ha
        exact app _ _ h2 ih
    refine appC_sim (ty := ty) ok.sym hr hfr h0 ht hi hz0 hzs hsz hs (Nat.succ_pos n') (nu := Builtin.zeroCells zu.cells (n' + 1)) (zeroCells_rel rzc _) (by rw [repX_length, hzl]) hflr ?_ hv
    exact .inr ⟨k, k', hd, by simp, h3.2, h3.1, Nat.mul_pos (Nat.succ_pos n') hsz, rfl⟩


/-- What is copied. -/
theorem copy_sim {env : Env} (ok : EnvOk P φ env) {h h' : Hp} {w : World} (hr : HR φ h w) {ts : Array TypeId} {dT e ty : TypeId} {sz : Nat} (h0 : ts[0]? = some dT) (ht : P.underlying dT = some (.slice e)) (hsz : szP P e = some sz)
    {d s v : V} {du su : Value} (hd : VR φ d du) (hs : VR φ s su) (hv : (match (generalizing := false) lenV s, d with
    | some n, .slice b o sz' len _ _ => cond (Nat.beq sz sz') (match srcCells h sz (minN n len) s with
      | some new => match new with
        | [] => some (.int .i64 (.ofNat (minN n len)), h)
        | c :: r => match h.write b o (c :: r) with
          | some h' => some (.int .i64 (.ofNat (minN n len)), h')
          | none => none
      | none => none) none
    | some _, .nilslice => some (.int .i64 (.ofNat 0), h)
    | _, _ => none) = some (v, h')) : ∃ u ψ w', VR ψ v u ∧ (Builtin.copy_ ts ty #[du, su]).run P w = .ok u w' ∧ St φ h w ψ h' w' := by
  have hmin : ∀ a b, minN a b = Nat.min a b := fun a b => by unfold minN; rw [nble_d, Bool.cond_decide]; simp only [Nat.min_def]
  cases hn : lenV s with
  | none => rw [hn] at hv; cases d <;> cases hv
  | some n =>
    have hlen := lenV_ok (P := P) hs hn w
    cases d <;> simp only [hn, reduceCtorEq] at hv
    case nilslice =>
      cases hv
      cases hd
      have hfc : (Builtin.firstCells sz (Nat.min n 0) su).run P w = .ok #[] w := by
        rw [show Nat.min n 0 = 0 from Nat.min_zero n]
        cases s <;> simp only [lenV, reduceCtorEq] at hn
        · cases hs; simp [Builtin.firstCells]
        · cases hs; simp [Builtin.firstCells]
        · cases hs; exact run_first0 _ _ _ _ _
      refine ⟨.int .i64 0, φ, w, .int _ _, ?_, .refl hr⟩
      simp only [Builtin.copy_, h0, List.getElem?_toArray, List.getElem?_cons_zero, List.getElem?_cons_succ, Sem.run_bind, run_underlying ht, Result.andThen_ok, hlen, run_sizeOf_of hsz, hfc]
      rw [show Nat.min n 0 = 0 from Nat.min_zero n]
      rfl
    case slice b o sz' len c ex =>
      rw [cond_eq_ite] at hv
      split at hv
      case isFalse => cases hv
      rename_i e0
      rw [nbeq] at e0
      subst e0
      split at hv
      case h_2 => cases hv
      rename_i new hnew
      obtain ⟨us, r1, r2, r3⟩ := src_ok (P := P) hr hs hnew
      cases hd with | slice _ _ _ _ _ _ ad cc hp h1 h2 h3 =>
      split at hv
      · cases hv
        have : us = [] := List.length_eq_zero_iff.1 (by have := r1.length; simp at this; omega)
        subst this
        refine ⟨_, φ, w, .int _ _, ?_, .refl hr⟩
        have hfc := r3 w rfl
        rw [hmin] at hfc ⊢
        simp only [Builtin.copy_, h0, List.getElem?_toArray, List.getElem?_cons_zero, List.getElem?_cons_succ, Sem.run_bind, run_underlying ht, Result.andThen_ok, hlen, run_sizeOf_of hsz, hfc, storeCells, Sem.run_pure]
        rfl
      · rename_i c0 r0
        split at hv
        case h_2 => cases hv
        rename_i h1' hw
        cases hv
        obtain ⟨pl, p1, p2, p3, p4⟩ := hr.store r1 hw
        have hpos : 0 < len := by
          rcases Nat.eq_zero_or_pos len with e0 | e0
          · exfalso
            subst e0
            rw [hmin, show Nat.min n 0 = 0 from Nat.min_zero n] at r2
            simp at r2
          · exact e0
        obtain ⟨pl', q1, q2, _⟩ := hp (by omega)
        rw [p1] at q1; cases q1
        subst q2
        refine ⟨_, φ, _, .int _ _, ?_, p4⟩
        have hfc := r3 w rfl
        rw [hmin] at hfc ⊢
        have hst := store_run (P := P) p2 (all_one ok.sym r1 p3)
        simp only [Builtin.copy_, h0, List.getElem?_toArray, List.getElem?_cons_zero, List.getElem?_cons_succ, Sem.run_bind, run_underlying ht, Result.andThen_ok, hlen, run_sizeOf_of hsz, hfc, hst, Sem.run_pure]
        rfl

/-- A text out of bytes. -/
theorem bytes_text : ∀ {l : List V} {us : List Value} {s : List Nat}, eV.bytesOf l = some s → VRs φ l us → ∃ ns : List Int, us = ns.map (Value.int .u8) ∧ ∀ r : ByteArray, (ns.foldl (fun r n => r.push (UInt8.ofNat n.toNat)) r).data.toList.map UInt8.toNat = r.data.toList.map UInt8.toNat ++ s
  | [], us, s, h, hr => by
    simp [eV.bytesOf] at h; subst h
    cases hr
    exact ⟨[], rfl, fun r => by simp⟩
  | x :: l, us, s, h, hr => by
    unfold eV.bytesOf at h
    split at h
    · rename_i e; cases e
    · rename_i n l' e
      cases e
      rw [cond_eq_ite] at h
      split at h
      case isFalse => cases h
      rename_i hn
      rw [nblt] at hn
      split at h
      case h_2 => cases h
      rename_i r hr'
      cases h
      cases hr with | cons _ u _ us' h1 h2 =>
      cases h1
      obtain ⟨ns, e1, e2⟩ := bytes_text hr' h2
      refine ⟨Int.ofNat n :: ns, by rw [e1]; rfl, fun q => ?_⟩
      simp only [List.foldl_cons]
      rw [e2]
      have : (q.push (UInt8.ofNat (Int.ofNat n).toNat)).data.toList = q.data.toList ++ [UInt8.ofNat n] := by
        simp [ByteArray.push]
      rw [this]
      simp
      omega
    · cases h

theorem text_sim {h : Hp} {w : World} (hr : HR φ h w) {sT dT e : TypeId} (h1 : P.underlying sT = some (.slice e)) (h2 : P.underlying dT = some .string) (h3 : P.underlying e = some (.int .u8)) {x v : V} {xu : Value} (hx : VR φ x xu) {h' : Hp}
    (hv : (match (generalizing := false) x with
    | .nilslice => some (.str [], h)
    | .slice b o sz len _ _ => cond (Nat.beq sz 1) (match h.read b o len with
      | some l => match eV.bytesOf l with
        | some s => some (.str s, h)
        | none => none
      | none => none) none
    | _ => none) = some (v, h')) : h' = h ∧ ∃ u, VR φ v u ∧ (convert sT dT xu).run P w = .ok u w := by
  cases x <;> simp only [reduceCtorEq] at hv
  case nilslice =>
    cases hv
    cases hx
    refine ⟨rfl, .string .empty, .str ByteArray.empty, ?_⟩
    rw [run_convert_bytes_string w sT dT e none 0 0 h1 h3 h2]
    simp [Conv.bytesToString]
  case slice b o sz len c ex =>
    rw [cond_eq_ite] at hv
    split at hv
    case isFalse => cases hv
    rename_i e0
    rw [nbeq] at e0
    subst e0
    split at hv
    case h_2 => cases hv
    rename_i l hl
    split at hv
    case h_2 => cases hv
    rename_i s hs
    cases hv
    cases hx with | slice _ _ _ _ _ _ ad cc hp k1 k2 k3 =>
    obtain ⟨pl, us, r1, r2, r3, r4⟩ := hr.read hl
    obtain ⟨ns, e1, e2⟩ := bytes_text hs r3
    refine ⟨rfl, .string (ns.foldl (fun r n => r.push (UInt8.ofNat n.toNat)) ByteArray.empty), ?_, ?_⟩
    · have := e2 ByteArray.empty
      have e3 : s = (ns.foldl (fun r n => r.push (UInt8.ofNat n.toNat)) ByteArray.empty).data.toList.map UInt8.toNat := by rw [this]; simp
      rw [e3]
      exact .str _
    · rw [run_convert_bytes_string w sT dT e (some ad) len cc h1 h3 h2]
      refine run_bytesToString w ad len cc ns ?_
      have hul := r3.length
      rcases Nat.eq_zero_or_pos len with z | z
      · subst z
        have : us = [] := List.length_eq_zero_iff.1 (by omega)
        rw [← e1, this]
        simp [loadCells, loadCellsFrom]
      · obtain ⟨pl', q1, q2, _⟩ := hp (by omega)
        rw [r1] at q1; cases q1
        subst q2
        have := run_loadCells_list (P := P) w ⟨pl.blk, pl.base + o, none⟩ us (range_add r4)
        rw [← e1, show len = us.length by omega]
        exact this

/-- The bytes of a block are said to be a text's kin: nothing that is read turns. -/
theorem mark_sim {h : Hp} {w : World} (hr : HR φ h w) {b : Nat} {l : List V} (hb : h.blk b = .cells l false) {pl : Place} (hp : φ.at_ b = some pl) {o : Nat} :
    ∃ w', (markStringish ⟨pl.blk, o, none⟩).run P w = .ok () w' ∧ St φ h w φ h w' := by
  obtain ⟨pl', hpl', hat⟩ := hr.lies b (by rw [hb]; rfl)
  rw [hp] at hpl'; cases hpl'
  rw [hb] at hat
  obtain ⟨hb0, hl1, c, e, fz, hc, hs, hf, hcs⟩ := hat
  have hlt := (Array.getElem?_eq_some_iff.1 hc).1
  have hsh : w.shape? pl.blk = some (e, c.size) := by unfold World.shape?; rw [hc]
  obtain ⟨lo, hi⟩ := fz
  have hfz : ∃ fz', (w.freeze ⟨pl.blk, c.size, none⟩ 1).heap[pl.blk]? = some (.cells c e fz') ∧ (fz'.1 = fz'.2 ∨ c.size ≤ fz'.1) := by
    simp only [World.freeze]
    rw [if_neg (by omega)]
    simp only [Array.getElem?_modify, if_true, hc, Option.map_some]
    refine ⟨_, rfl, ?_⟩
    split
    · right; exact Nat.le_refl _
    · rename_i hne
      rcases hf with hf | hf
      · simp at hf hne; exact absurd hf hne
      · right
        simp only at hf ⊢
        omega
  obtain ⟨fz', g1, g2⟩ := hfz
  have hother : ∀ k, k ≠ pl.blk → (w.freeze ⟨pl.blk, c.size, none⟩ 1).heap[k]? = w.heap[k]? := fun k hk => by
    simp only [World.freeze]
    rw [if_neg (by omega)]
    simp only [Array.getElem?_modify]
    rw [if_neg (Ne.symm hk)]
  have hrest : (w.freeze ⟨pl.blk, c.size, none⟩ 1).os = w.os ∧ (w.freeze ⟨pl.blk, c.size, none⟩ 1).tape = w.tape ∧ (w.freeze ⟨pl.blk, c.size, none⟩ 1).output = w.output ∧ (w.freeze ⟨pl.blk, c.size, none⟩ 1).heap.size = w.heap.size := by
    simp only [World.freeze]
    rw [if_neg (by omega)]
    simp
  refine ⟨w.freeze ⟨pl.blk, c.size, none⟩ 1, by simp [markStringish, hsh], .refl φ, fun _ _ => rfl, Nat.le_refl _, hrest.1, hrest.2.1, hrest.2.2.1, by rw [hrest.2.2.2]; exact Nat.le_refl _,
    fun k hk hn => hother k fun ek => hn b pl (by rw [hb]; rfl) hp ek.symm, fun x q ho hq => .inl ⟨x, q, ho, hq, rfl⟩, fun x q ho hq => .inl ⟨x, q, ho, hq, rfl⟩, fun x hx => ?_, hr.apart, hr.fresh⟩
  by_cases ex : x = b
  · subst ex
    refine ⟨pl, hp, ?_⟩
    rw [hb]
    exact ⟨hb0, hl1, c, e, fz', g1, hs, g2, hcs⟩
  · obtain ⟨q, k1, k2⟩ := hr.lies x hx
    exact ⟨q, k1, k2.mono (.refl φ) (hother _ (hr.apart x b q pl hx (by rw [hb]; rfl) (.inr (by rw [hb]; rfl)) k1 hp ex))⟩

end Go.Vm
