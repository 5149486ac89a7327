/-
  Vm, part 17: operations that may write.
-/
import Derived.Test.YtcoghkkhjaokmaaGreatDoorVmApp2
namespace Go.Vm

variable {P : Program} {φ : Emb}

/-- What an operation does, calls aside. -/
def Acts (P : Program) (φ : Emb) (a : Act) (o : Oper) (h : Hp) (w : World) (v : V) (h' : Hp) : Prop :=
  ∃ nx u ψ w', (execOp a.eval o).run P w = .ok nx w' ∧ (nx = .value u ∨ (nx = .skip ∧ u = undef)) ∧ VR ψ v u ∧ St φ h w ψ h' w'

theorem Acts.of {a : Act} {o : Oper} {h h' : Hp} {w : World} {v : V} {s : Sem Value} (he : execOp a.eval o = (do pure (Next.value (← s)))) (hs : ∃ u ψ w', VR ψ v u ∧ s.run P w = .ok u w' ∧ St φ h w ψ h' w') :
    Acts P φ a o h w v h' := by
  obtain ⟨u, ψ, w', h1, h2, h3⟩ := hs
  exact ⟨.value u, u, ψ, w', by rw [he]; exact lift_ok h2, .inl rfl, h1, h3⟩

theorem Acts.of_skip {a : Act} {o : Oper} {h h' : Hp} {w : World} {s : Sem Unit} (he : execOp a.eval o = (do s; pure Next.skip)) (hs : ∃ ψ w', s.run P w = .ok () w' ∧ St φ h w ψ h' w') :
    Acts P φ a o h w (.tup []) h' := by
  obtain ⟨ψ, w', h2, h3⟩ := hs
  exact ⟨.skip, undef, ψ, w', by rw [he]; simp [h2], .inr ⟨rfl, rfl⟩, .tup _ _ .nil, h3⟩

theorem undef_rel : VR φ (.tup []) undef := .tup _ _ .nil

theorem store_run {w : World} {k o : Nat} {us : List Value} (ht : w.there k o us.length) (h1 : ∀ u ∈ us, u.oneCell' = true) : (storeCells ⟨k, o, none⟩ us).run P w = .ok () (w.setCells k o us) := by
  have := run_storeCells_cells (P := P) k o us 0 w (fun j hj => by simpa using (ht j hj).1) (fun j hj => by simpa using (ht j hj).2) h1
  simpa using this

/-! ### Maps -/

/-- What a map's keys are of. -/
def KeyTy (kk : Option IntKind) (d : TypeDesc) : Prop := (∃ k, kk = some k ∧ ∃ j, d = .int j) ∨ (kk = none ∧ d = .string)

theorem key_now {kk : Option IntKind} {k1 k2 : V} {u1 u2 : Value} (ho1 : keyOk kk k1 = true) (ho2 : keyOk kk k2 = true) (h1 : VR φ k1 u1) (h2 : VR φ k2 u2) {d : TypeDesc} (hd : KeyTy kk d) :
    Instr.sameNow d u2 u1 = some (V.same k1 k2) := by
  cases kk with
  | none =>
    rcases hd with ⟨k, e, _⟩ | ⟨_, rfl⟩
    · cases e
    · cases k1 <;> simp [keyOk] at ho1
      cases k2 <;> simp [keyOk] at ho2
      cases h1; cases h2
      simp only [Instr.sameNow, V.same, neqs_map, beq_toListBytes, str_eq, Option.some.injEq]
      rw [Bool.eq_iff_iff, beq_iff_eq, beq_iff_eq]
      exact eq_comm
  | some k =>
    rcases hd with ⟨k', e, j, rfl⟩ | ⟨e, _⟩
    · cases k1 <;> simp only [keyOk, Bool.false_eq_true] at ho1
      cases k2 <;> simp only [keyOk, Bool.false_eq_true] at ho2
      have e1 := keq_iff.1 ho1
      have e2 := keq_iff.1 ho2
      subst e1; subst e2
      cases h1; cases h2
      simp only [Instr.sameNow, V.same, keq_iff.2 rfl, cond_true, ieq_d, if_true, Option.some.injEq]
      rw [Bool.eq_iff_iff, beq_iff_eq, beq_iff_eq]
      exact eq_comm
    · cases e


theorem keyIs_ty {sk : Bool} {kk : Option IntKind} {v : V} (h : keyIs sk kk v = true) {d : TypeDesc} (hd : (sk = false ∧ ∃ k, d = .int k) ∨ (sk = true ∧ d = .string)) : keyOk kk v = true ∧ KeyTy kk d := by
  cases kk with
  | none =>
    simp only [keyIs] at h
    cases sk with
    | false => simp at h
    | true =>
      rcases hd with ⟨e, _⟩ | ⟨_, rfl⟩
      · cases e
      · exact ⟨by simpa using h, .inr ⟨rfl, rfl⟩⟩
  | some k =>
    simp only [keyIs] at h
    cases sk with
    | true => simp at h
    | false =>
      rcases hd with ⟨_, j, rfl⟩ | ⟨e, _⟩
      · exact ⟨by simpa using h, .inl ⟨k, rfl, j, rfl⟩⟩
      · cases e

/-- Entries, one by one. -/
def Ents (φ : Emb) (kk : Option IntKind) (l : List (V × V)) (es : List MapEntry) : Prop :=
  l.length = es.length ∧ ∀ (i : Nat) (p : V × V) (e : MapEntry), l[i]? = some p → es[i]? = some e → EntR φ kk p e

theorem Ents.tail {kk : Option IntKind} {p : V × V} {l : List (V × V)} {e : MapEntry} {es : List MapEntry} (h : Ents φ kk (p :: l) (e :: es)) : EntR φ kk p e ∧ Ents φ kk l es :=
  ⟨h.2 0 p e rfl rfl, by simpa using h.1, fun i q f h1 h2 => h.2 (i + 1) q f (by simpa using h1) (by simpa using h2)⟩

theorem find_ok {kk : Option IntKind} {d : TypeDesc} (hd : KeyTy kk d) {k : V} {ku : Value} (hk : keyOk kk k = true) (hr : VR φ k ku) :
    ∀ (l : List (V × V)) (es : List MapEntry) (i : Nat), Ents φ kk l es →
      (Instr.findNow d ku es i = some none ∧ mapFind k l = none ∧ mapDel k l = l ∧ ∀ x, mapSet k x l = l ++ [(k, x)]) ∨
      (∃ j p e, l[j]? = some p ∧ es[j]? = some e ∧ Instr.findNow d ku es i = some (some (i + j, e.val)) ∧ mapFind k l = some p.2 ∧ EntR φ kk p e ∧ p.1 = k ∧ mapDel k l = l.eraseIdx j ∧ ∀ x, mapSet k x l = l.set j (p.1, x))
  | [], [], i, _ => .inl ⟨rfl, rfl, rfl, fun _ => rfl⟩
  | [], _ :: _, i, h => by have := h.1; simp at this
  | _ :: _, [], i, h => by have := h.1; simp at this
  | (a, b) :: l, e :: es, i, h => by
    obtain ⟨he, ht⟩ := h.tail
    have hs := key_now he.1 hk he.2.1 hr hd
    cases hsame : V.same a k with
    | true =>
      rw [hsame] at hs
      refine .inr ⟨0, (a, b), e, rfl, rfl, by simp [Instr.findNow, hs], by simp [mapFind, hsame], he, same_eq hsame, by simp [mapDel, hsame], fun x => by simp [mapSet, hsame]⟩
    | false =>
      rw [hsame] at hs
      rcases find_ok hd hk hr l es (i + 1) ht with ⟨h1, h2, h3, h4⟩ | ⟨j, p, f, h1, h2, h3, h4, h5, h6, h7, h8⟩
      · exact .inl ⟨by simp [Instr.findNow, hs, h1], by simp [mapFind, hsame, h2], by simp [mapDel, hsame, h3], fun x => by simp [mapSet, hsame, h4]⟩
      · refine .inr ⟨j + 1, p, f, by simpa using h1, by simpa using h2, by simp [Instr.findNow, hs, h3]; omega, by simp [mapFind, hsame, h4], h5, h6, by simp [mapDel, hsame, h7], fun x => by simp [mapSet, hsame, h8]⟩

theorem run_check {kt : TypeId} {d : TypeDesc} (hu : P.underlying kt = some d) (hd : (∃ k, d = .int k) ∨ d = .string) (e : Bool) (n : Nat) (k : Value) (w : World) : (Instr.checkKey e (n + 1) kt k).run P w = .ok () w := by
  unfold Instr.checkKey
  rcases hd with ⟨j, rfl⟩ | rfl <;> simp [run_underlying hu]

/-- Another map in a block. -/
theorem HR.setMap {h : Hp} {w : World} (hr : HR φ h w) {b : Nat} {kk : Option IntKind} {l l' : List (V × V)} (hb : h.blk b = .map kk l) {pl : Place} (hp : φ.at_ b = some pl) {es : Array MapEntry} {clock : Nat}
    (hes : Ents φ kk l' es.toList) (hst : MapKept.Stamped es clock) : St φ h w φ (h.put b (.map kk l')) { w with heap := w.heap.setIfInBounds pl.blk (.map es clock) } := by
  obtain ⟨pl', hpl', hat⟩ := hr.lies b (by rw [hb]; rfl)
  rw [hp] at hpl'; cases hpl'
  rw [hb] at hat
  obtain ⟨es0, clock0, hh, _, _, _⟩ := hat
  have hlt := (Array.getElem?_eq_some_iff.1 hh).1
  have hother : ∀ k, k ≠ pl.blk → (w.heap.setIfInBounds pl.blk (.map es clock))[k]? = w.heap[k]? := fun k hk => by
    rw [Array.getElem?_setIfInBounds, if_neg (Ne.symm hk)]
  have hkey : ∀ y, ((h.put b (.map kk l')).blk y).live = true → (h.blk y).live = true := fun y hy => by
    rw [blk_put] at hy
    by_cases ey : y = b
    · rw [ey, hb]; rfl
    · rwa [if_neg ey] at hy
  have hkeyO : ∀ y, ((h.put b (.map kk l')).blk y).open_ = true → (h.blk y).open_ = true := fun y hy => by
    rw [blk_put] at hy
    by_cases ey : y = b
    · rw [ey, hb]; rfl
    · rwa [if_neg ey] at hy
  refine ⟨.refl φ, fun _ _ => rfl, Nat.le_refl _, rfl, rfl, rfl, by simp, fun k hk hn => hother k fun ek => hn b pl (by rw [hb]; rfl) hp ek.symm, fun x q ho hq => ?_, fun x q ho hq => .inl ⟨x, q, hkey x ho, hq, rfl⟩, ?_⟩
  · rw [blk_put] at ho
    by_cases ex : x = b
    · subst ex; exact .inl ⟨x, q, by rw [hb]; rfl, hq, rfl⟩
    · rw [if_neg ex] at ho; exact .inl ⟨x, q, ho, hq, rfl⟩
  · refine ⟨fun x hx => ?_, fun x x' q q' hx hx' ho => hr.apart x x' q q' (hkey x hx) (hkey x' hx') (ho.imp (hkeyO x) (hkeyO x')), fun x hx => ?_⟩
    · have hx0 := hkey x hx
      rw [blk_put]
      by_cases ex : x = b
      · rw [if_pos ex]
        subst ex
        refine ⟨pl, hp, es, clock, ?_, hst, by simpa using hes.1, fun i p e h1 h2 => hes.2 i p e h1 (by simpa using h2)⟩
        show (w.heap.setIfInBounds pl.blk (.map es clock))[pl.blk]? = _
        rw [Array.getElem?_setIfInBounds, if_pos rfl, if_pos hlt]
      · rw [if_neg ex]
        obtain ⟨q, h1, h2⟩ := hr.lies x hx0
        exact ⟨q, h1, h2.mono (.refl φ) (hother _ (hr.apart x b q pl hx0 (by rw [hb]; rfl) (.inr (by rw [hb]; rfl)) h1 hp ex))⟩
    · rw [blk_put]
      have : x ≠ b := fun e => by have := hr.fresh x hx; rw [e, hb] at this; cases this
      rw [if_neg this]
      exact hr.fresh x hx

theorem map_at {h : Hp} {w : World} (hr : HR φ h w) {b : Nat} {kk : Option IntKind} {l : List (V × V)} (hb : h.blk b = .map kk l) : ∃ pl es clock, φ.at_ b = some pl ∧ w.heap[pl.blk]? = some (.map es clock) ∧ Ents φ kk l es.toList ∧ MapKept.Stamped es clock := by
  obtain ⟨pl, hp, hat⟩ := hr.lies b (by rw [hb]; rfl)
  rw [hb] at hat
  obtain ⟨es, clock, hh, hst, h1, h2⟩ := hat
  exact ⟨pl, es, clock, hp, hh, ⟨by simpa using h1, fun i p e k1 k2 => h2 i p e k1 (by simpa using k2)⟩, hst⟩

theorem lookup_sim {h : Hp} {w : World} (hr : HR φ h w) {t kt e : TypeId} {dk : TypeDesc} (ht : P.underlying t = some (.map kt e)) (hk : P.underlying kt = some dk) {sk : Bool} (hd : (sk = false ∧ ∃ k, dk = .int k) ∨ (sk = true ∧ dk = .string))
    {z : V} {it : TypeInfo} {zu : Value} (hi : P.info? e = some it) (hz : it.zero = some zu) (rz : VR φ z zu) {m k : V} {mu ku : Value} (hm : VR φ m mu) (hkr : VR φ k ku) {ok : Bool} {v : V} {h' : Hp}
    (hv : (match (generalizing := false) m with
    | .nilmap => some (cond ok (.tup [z, .bool false]) z, h)
    | .map b => match h.blk b with
      | .map kk l => cond (keyIs sk kk k) (match mapFind k l with
        | some v => some (cond ok (.tup [v, .bool true]) v, h)
        | none => some (cond ok (.tup [z, .bool false]) z, h)) none
      | _ => none
    | _ => none) = some (v, h')) : h' = h ∧ ∃ u, VR φ v u ∧ (Instr.lookup t mu ku ok).run P w = .ok u w := by
  have hdk : (∃ k, dk = .int k) ∨ dk = .string := by rcases hd with ⟨_, h⟩ | ⟨_, h⟩ <;> simp [h]
  have hout : ∀ (x : V) (xu : Value) (q : Bool), VR φ x xu → VR φ (cond ok (.tup [x, .bool q]) x) (if ok = true then .tuple #[xu, .bool q] else xu) := by
    intro x xu q hx
    cases ok with
    | true => exact .tup _ _ (.cons _ _ _ _ hx (.cons _ _ _ _ (.bool q) .nil))
    | false => exact hx
  cases m <;> simp only [reduceCtorEq] at hv
  case nilmap =>
    cases hv
    cases hm
    refine ⟨rfl, _, hout z zu false rz, ?_⟩
    simp only [Instr.lookup, Sem.run_bind, run_underlying ht, Result.andThen_ok, Sem.run_pure]
    rw [run_check hk hdk]
    simp [Instr.findKey, run_underlying hk, Instr.findNow, zeroValue, typeInfo, hi, hz]
  case map b =>
    cases hm with | map _ pl hp =>
    split at hv
    case h_2 => cases hv
    rename_i kk l hb
    rw [cond_eq_ite] at hv
    split at hv
    case isFalse => cases hv
    rename_i hkey
    obtain ⟨hok, hty⟩ := keyIs_ty hkey hd
    obtain ⟨pl', es, clock, p1, p2, p3, p4⟩ := map_at hr hb
    rw [hp] at p1; cases p1
    rcases find_ok hty hok hkr l es.toList 0 p3 with ⟨h1, h2, _⟩ | ⟨j, p, f, h1, h2, h3, h4, h5, _⟩
    · rw [h2] at hv
      cases hv
      refine ⟨rfl, _, hout z zu false rz, ?_⟩
      simp only [Instr.lookup, Sem.run_bind, run_underlying ht, Result.andThen_ok, MapKept.run_getObj_map p2, Sem.run_pure]
      rw [run_check hk hdk]
      simp [Instr.findKey, run_underlying hk, h1, zeroValue, typeInfo, hi, hz]
    · rw [h4] at hv
      cases hv
      refine ⟨rfl, _, hout p.2 f.val true h5.2.2, ?_⟩
      simp only [Instr.lookup, Sem.run_bind, run_underlying ht, Result.andThen_ok, MapKept.run_getObj_map p2, Sem.run_pure]
      rw [run_check hk hdk]
      simp [Instr.findKey, run_underlying hk, h3]

theorem same_bits {kk : Option IntKind} {k : V} {u1 u2 : Value} (ho : keyOk kk k = true) (h1 : VR φ k u1) (h2 : VR φ k u2) : Instr.sameBits 10000 u1 u2 = true := by
  cases k <;> cases kk <;> simp [keyOk] at ho
  · cases h1; cases h2
    unfold Instr.sameBits
    simp
  · rename_i l
    cases h1 with | str s1 =>
    generalize hl : s1.data.toList.map UInt8.toNat = l at h2
    cases h2 with | str s2 =>
    have := map_inj hl
    have e : s1 = s2 := by
      cases s1; cases s2
      simp at this
      simpa using this
    subst e
    show (s1 == s1) = true
    rw [beq_toListBytes]
    exact beq_self_eq_true _

theorem key_uniq {kk : Option IntKind} {k : V} {u1 u2 : Value} (ho : keyOk kk k = true) (h1 : VR φ k u1) (h2 : VR φ k u2) : u1 = u2 := by
  unfold keyOk at ho
  split at ho
  · cases h1; cases h2; rfl
  · rename_i l
    cases h1 with | str s1 =>
    generalize hl : s1.data.toList.map UInt8.toNat = l at h2
    cases h2 with | str s2 =>
    have := map_inj hl
    have e : s1 = s2 := by
      cases s1; cases s2
      simp at this
      simpa using this
    rw [e]
  · cases ho

theorem key_inj {kk : Option IntKind} {a b : V} {u : Value} (ha : keyOk kk a = true) (hb : keyOk kk b = true) (h1 : VR φ a u) (h2 : VR φ b u) : a = b := by
  unfold keyOk at ha hb
  split at ha
  · split at hb
    · cases h1; cases h2; rfl
    · cases h1; cases h2
    · cases hb
  · split at hb
    · cases h1; cases h2
    · cases h1; cases h2; rfl
    · cases hb
  · cases ha

theorem neqs_refl : ∀ l : List Nat, neqs l l = true
  | [] => rfl
  | a :: l => by
    simp only [neqs]
    rw [nbeq.2 rfl]
    exact neqs_refl l

theorem same_key {kk : Option IntKind} {k : V} (h : keyOk kk k = true) : V.same k k = true := by
  unfold keyOk at h
  split at h
  · simp only [V.same]
    rw [keq_iff.2 rfl, ieq_iff.2 rfl]
    rfl
  · simp only [V.same]; exact neqs_refl _
  · cases h

theorem mapFind_none {kk : Option IntKind} {k : V} (hk : keyOk kk k = true) : ∀ {l : List (V × V)}, mapFind k l = none → ∀ p, p ∈ l → p.1 ≠ k
  | [], _, p, hp => by cases hp
  | (a, v) :: l, h, p, hp => by
    simp only [mapFind] at h
    rw [cond_eq_ite] at h; split at h
    · cases h
    rename_i hs
    rcases List.mem_cons.1 hp with rfl | hp
    · rintro rfl
      exact hs (same_key hk)
    · exact mapFind_none hk h p hp

theorem mapput_sim {h h' : Hp} {w : World} (hr : HR φ h w) {t kt e : TypeId} {dk : TypeDesc} (ht : P.underlying t = some (.map kt e)) (hk : P.underlying kt = some dk) {sk : Bool} (hd : (sk = false ∧ ∃ k, dk = .int k) ∨ (sk = true ∧ dk = .string))
    {m k x : V} {mu ku xu : Value} (hm : VR φ m mu) (hkr : VR φ k ku) (hx : VR φ x xu) {v : V}
    (hv : (match (generalizing := false) m with
    | .map b => match h.blk b with
      | .map kk l => cond (keyIs sk kk k) (some (.tup [], h.put b (.map kk (mapSet k x l)))) none
      | _ => none
    | _ => none) = some (v, h')) : v = .tup [] ∧ ∃ w', (Instr.mapUpdate t mu ku xu).run P w = .ok () w' ∧ St φ h w φ h' w' := by
  have hdk : (∃ k, dk = .int k) ∨ dk = .string := by rcases hd with ⟨_, h⟩ | ⟨_, h⟩ <;> simp [h]
  cases m <;> simp only [reduceCtorEq] at hv
  rename_i b
  cases hm with | map _ pl hp =>
  split at hv
  case h_2 => cases hv
  rename_i kk l hb
  rw [cond_eq_ite] at hv
  split at hv
  case isFalse => cases hv
  rename_i hkey
  cases hv
  obtain ⟨hok, hty⟩ := keyIs_ty hkey hd
  obtain ⟨pl', es, clock, p1, p2, p3, p4⟩ := map_at hr hb
  rw [hp] at p1; cases p1
  rcases find_ok hty hok hkr l es.toList 0 p3 with ⟨h1, h2, _, h4⟩ | ⟨j, p, f, h1, h2, h3, h4, h5, h6, _, h8⟩
  · refine ⟨rfl, _, ?_, HR.setMap hr hb hp (es := es.push { key := ku, val := xu, born := clock }) (clock := clock + 1) ?_ (MapKept.stamped_push p4 fun y hy e => ?_)⟩
    · simp only [Instr.mapUpdate, Sem.run_bind, run_underlying ht, Result.andThen_ok, MapKept.run_getObj_map p2]
      rw [run_check hk hdk]
      simp [Instr.findKey, run_underlying hk, h1, MapKept.run_setObj_map _ p2]
    · rw [h4]
      refine ⟨by simp [p3.1], fun i q g g1 g2 => ?_⟩
      simp only [Array.toList_push] at g2
      by_cases c : i < l.length
      · rw [List.getElem?_append_left c] at g1
        rw [List.getElem?_append_left (by have := p3.1; omega)] at g2
        exact p3.2 i q g g1 g2
      · rw [List.getElem?_append_right (by omega)] at g1
        rw [List.getElem?_append_right (by have := p3.1; omega)] at g2
        have := p3.1
        rw [← this] at g2
        cases hi : i - l.length with
        | zero =>
          rw [hi] at g1 g2
          simp at g1 g2
          subst g1; subst g2
          exact ⟨hok, hkr, hx⟩
        | succ n => rw [hi] at g1; simp at g1
    · obtain ⟨i, hi⟩ := List.mem_iff_getElem?.1 hy
      have hil : i < l.length := by
        have := (List.getElem?_eq_some_iff.1 hi).1
        have := p3.1
        omega
      obtain ⟨q1, q2, _⟩ := p3.2 i _ y (List.getElem?_eq_getElem hil) hi
      rw [e] at q2
      exact mapFind_none hok h2 _ (List.getElem_mem hil) (key_inj q1 hok q2 hkr)
  · have hjl : j < es.size := by
      have := (List.getElem?_eq_some_iff.1 h2).1
      simpa using this
    have hej : es[j]? = some f := by simpa using h2
    refine ⟨rfl, _, ?_, HR.setMap hr hb hp (es := es.modify j fun e => { e with key := ku, val := xu }) (clock := clock) ?_ (MapKept.stamped_modify p4 j _ (fun _ _ => rfl) fun y _ hy => ?_)⟩
    · simp only [Instr.mapUpdate, Sem.run_bind, run_underlying ht, Result.andThen_ok, MapKept.run_getObj_map p2]
      rw [run_check hk hdk]
      have hsb : Instr.sameBits 10000 f.key ku = true := same_bits hok (h6 ▸ h5.2.1) hkr
      simp only [Instr.findKey, Sem.run_bind, run_underlying hk, Result.andThen_ok, h3, Sem.run_pure, Nat.zero_add, hej, Option.map_some, Option.getD_some, Instr.keyThatStays, hsb, if_true]
      exact MapKept.run_setObj_map _ p2
    · rw [h8]
      refine ⟨by simp [p3.1], fun i q g g1 g2 => ?_⟩
      rw [Array.getElem?_toList, Array.getElem?_modify] at g2
      rw [List.getElem?_set] at g1
      by_cases c : j = i
      · subst c
        rw [if_pos rfl] at g1 g2
        rw [hej] at g2
        simp at g2
        split at g1
        · simp at g1
          subst g1; subst g2
          exact ⟨h6 ▸ hok, h6 ▸ hkr, hx⟩
        · cases g1
      · rw [if_neg c] at g1 g2
        exact p3.2 i q g g1 (by simpa using g2)
    · rw [hej] at hy
      cases hy
      exact key_uniq hok hkr (h6 ▸ h5.2.1)

theorem delete_sim {h h' : Hp} {w : World} (hr : HR φ h w) {ts : Array TypeId} {t ty kt e : TypeId} {dk : TypeDesc} (h0 : ts[0]? = some t) (ht : P.underlying t = some (.map kt e)) (hk : P.underlying kt = some dk) {sk : Bool} (hd : (sk = false ∧ ∃ k, dk = .int k) ∨ (sk = true ∧ dk = .string))
    {m k : V} {mu ku : Value} (hm : VR φ m mu) (hkr : VR φ k ku) {v : V}
    (hv : (match (generalizing := false) m with
    | .nilmap => some (.tup [], h)
    | .map b => match h.blk b with
      | .map kk l => cond (keyIs sk kk k) (some (.tup [], h.put b (.map kk (mapDel k l)))) none
      | _ => none
    | _ => none) = some (v, h')) : v = .tup [] ∧ ∃ w', (Builtin.delete_ ts ty #[mu, ku]).run P w = .ok (.tuple #[]) w' ∧ St φ h w φ h' w' := by
  have hdk : (∃ k, dk = .int k) ∨ dk = .string := by rcases hd with ⟨_, h⟩ | ⟨_, h⟩ <;> simp [h]
  cases m <;> simp only [reduceCtorEq] at hv
  case nilmap =>
    cases hv
    cases hm
    refine ⟨rfl, w, ?_, .refl hr⟩
    simp only [Builtin.delete_, h0, List.getElem?_toArray, List.getElem?_cons_zero, List.getElem?_cons_succ, Sem.run_bind, run_underlying ht, Result.andThen_ok]
    rw [run_check hk hdk]
    simp
  case map b =>
    cases hm with | map _ pl hp =>
    split at hv
    case h_2 => cases hv
    rename_i kk l hb
    rw [cond_eq_ite] at hv
    split at hv
    case isFalse => cases hv
    rename_i hkey
    cases hv
    obtain ⟨hok, hty⟩ := keyIs_ty hkey hd
    obtain ⟨pl', es, clock, p1, p2, p3, p4⟩ := map_at hr hb
    rw [hp] at p1; cases p1
    rcases find_ok hty hok hkr l es.toList 0 p3 with ⟨h1, h2, h3, _⟩ | ⟨j, p, f, h1, h2, h3, h4, h5, h6, h7, _⟩
    · refine ⟨rfl, _, ?_, HR.setMap hr hb hp (es := es) (clock := clock) ?_ p4⟩
      · simp only [Builtin.delete_, h0, List.getElem?_toArray, List.getElem?_cons_zero, List.getElem?_cons_succ, Sem.run_bind, run_underlying ht, Result.andThen_ok, MapKept.run_getObj_map p2]
        rw [run_check hk hdk]
        simp [Instr.findKey, run_underlying hk, h1, MapKept.run_setObj_map _ p2]
      · rw [h3]; exact p3
    · have hjl : j < es.size := by
        have := (List.getElem?_eq_some_iff.1 h2).1
        simpa using this
      refine ⟨rfl, _, ?_, HR.setMap hr hb hp (es := es.eraseIdxIfInBounds j) (clock := clock) ?_ (MapKept.stamped_erase p4 j)⟩
      · simp only [Builtin.delete_, h0, List.getElem?_toArray, List.getElem?_cons_zero, List.getElem?_cons_succ, Sem.run_bind, run_underlying ht, Result.andThen_ok, MapKept.run_getObj_map p2]
        rw [run_check hk hdk]
        simp [Instr.findKey, run_underlying hk, h3, MapKept.run_setObj_map _ p2]
      · rw [h7]
        have he : (es.eraseIdxIfInBounds j).toList = es.toList.eraseIdx j := by
          simp [Array.eraseIdxIfInBounds, hjl]
        rw [he]
        refine ⟨by simp [List.length_eraseIdx, p3.1], fun i q g g1 g2 => ?_⟩
        rw [List.getElem?_eraseIdx] at g1 g2
        split at g1
        · rename_i c; rw [if_pos c] at g2; exact p3.2 i q g g1 g2
        · rename_i c; rw [if_neg c] at g2; exact p3.2 (i + 1) q g g1 g2

end Go.Vm
