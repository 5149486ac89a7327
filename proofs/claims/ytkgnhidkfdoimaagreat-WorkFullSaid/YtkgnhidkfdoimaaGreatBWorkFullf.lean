/-
 Texts that the claim's last one rests on, joined.
-/
import Derived.Test.YtkgnhidkfdoimaaGreatBWorkFulle
import Derived.Test.YtkgnhidkfdoimaaGreatBWorkFulld
import Derived.Handed

section
namespace Go.Dv
open Go.Vm
section
variable {p : Prog} {ext : Ext} {Q : ResD → Prop}
theorem os_step {ψ ψ' : Nat → Option Nat} {S S' : Fz} {h h' : Hp} {fr : FrD} {fv : Fr} {H' : HpD} {d : Option Nat} {x : D} {v : V} {l : List MO} {fz lv : List Nat} {K : List KD} {P : Res → Prop}
  (hs : Sem p ext Q (.ops l fz lv K .mk (putD fr d x) H')) (hK : okK K = true) (x0 : Ex h ψ S h' ψ' S') (s' : SR p.gl ψ' S' H' h') (k : FrR h ψ S fr fv) (kv : VD h' ψ' S' x v) (hP : ∀ r, Post p.gl ψ S h Q r → P r) :
  OS p ext l (eraseK K) (putO fv d v) h' P := hs hK ψ' S' h' _ P s' ((k.mono x0).put kv d) fun r hr => hP r (hr.up x0)
theorem sem_op {d : Option Nat} {o : EOp} {l : List MO} {fz lv : List Nat} {K : List KD} {fr : FrD} {H : HpD} {k : D → HpD → Cfg} (hk : ∀ x H', Sem p ext Q (k x H') → Sem p ext Q (.ops l fz lv K .mk (putD fr d x) H'))
  (hs : Sem p ext Q (optH (eD fr H o) k)) : Sem p ext Q (.ops (⟨d, .e o, none⟩ :: l) fz lv K .mk fr H) := by
 intro hK ψ S h fv P s kf hP;obtain ⟨x, H', e, hs⟩ := sem_optH hs;obtain ⟨u, h', e1, hc, ψ', S', x0, s', kv⟩ := eD_ok s kf e;refine (OS.eff hc).2 ?_;rw [e1];exact os_step (hk x H' hs) hK x0 s' kf kv hP
theorem ds_step {ψ ψ' : Nat → Option Nat} {S S' : Fz} {h h' : Hp} {fr : FrD} {fv : Fr} {H' : HpD} {d : Option Nat} {x : D} {v : V} {l : List DO} {lv : List Nat} {K : List KD} {i : Nat} {cs : List (Nat × List Nat)} {ws : List (Nat × Nat)} {nx : Nat} {pst : List (Nat × HpD)} {st : List (Nat × Hp)} {rds : List Rd} {P : Res → Prop}
  (hs : Sem p ext Q (.dops l lv K cs ws .mk i nx pst (putD fr d x) H')) (hK : okK K = true) (hd : drOk l i cs ws = true) (hn : nx ≤ H'.next) (x0 : Ex h ψ S h' ψ' S') (s' : SR p.gl ψ' S' H' h') (k : FrR h ψ S fr fv) (kv : VD h' ψ' S' x v) (di : DI p.gl ψ' S' h' (putD fr d x) (putO fv d v) cs ws nx pst st rds) (hP : ∀ r, Post p.gl ψ S h Q r → P r) :
  DS p ext l (eraseK K) i (putO fv d v) h' st rds P := hs hK hd hn ψ' S' h' _ st rds P s' ((k.mono x0).put kv d) di fun r hr => hP r (hr.up x0)
theorem sem_dop {d : Option Nat} {o : EOp} {lo hi : Nat} {l : List DO} {lv : List Nat} {K : List KD} {i : Nat} {cs : List (Nat × List Nat)} {ws : List (Nat × Nat)} {nx : Nat} {pst : List (Nat × HpD)} {fr : FrD} {H : HpD} {k : D → HpD → Cfg}
  (hk : ∀ x H', Sem p ext Q (k x H') → Sem p ext Q (.dops l lv K ((i + 1, []) :: dirtyN d cs) ws .mk (i + 1) H'.next ((i + 1, H') :: pst) (putD fr d x) H'))
  (hs : Sem p ext Q (optH (eD fr H o) k)) : Sem p ext Q (.dops (⟨⟨d, .e o, none⟩, lo, hi⟩ :: l) lv K cs ws .mk i nx pst fr H) := by
 intro hK hd _ ψ S h fv st rds P s kf di hP;simp only [drOk, Bool.and_eq_true] at hd;obtain ⟨x, H', e, hs⟩ := sem_optH hs;obtain ⟨u, h', e1, hc, ψ', S', x0, s', kv⟩ := eD_ok s kf e;refine (D.eff hc).2 ?_;rw [e1];exact ds_step (hk x H' hs) hK hd.2 (Nat.le_refl _) x0 s' kf kv (di.stage hd.1 x0 s' ((kf.mono x0).put kv d)) hP
theorem vd_rptr {ψ : Nat → Option Nat} {S : Fz} {h : Hp} {l : List D} {k : Nat} {v : V} (kv : VD h ψ S (.rptr l k) v) : ∃ c o, S c ∧ v = .ptr c o := by
 simp only [VD] at kv;obtain ⟨c, o, _, _, hs, rfl, _⟩ := kv;exact ⟨c, _, hs, rfl⟩
theorem Past.clean {G : Nat → Option (Blk → Prop)} {ψ : Nat → Option Nat} {S : Fz} {h : Hp} {fr : FrD} {fv : Fr} {cs : List (Nat × List Nat)} {st : List (Nat × Hp)} {pst : List (Nat × HpD)} (k : Past G ψ S h fr fv cs st pst) {w : Nat × Nat} {l : List Nat} (hc : pst = [] ∨ cleanAll w l cs = true) : cleanAll w l cs = true := by
 rcases hc with rfl | hc
 ·cases cs with
  | nil => rfl
  | cons c cs => cases st <;> exact k.elim
 ·exact hc
theorem loadD_isR {H Hc : HpD} {d : D} (hr : isR d = true) : loadD Hc d = loadD H d := by
 cases d <;> first | (cases hr; done) | rfl
theorem loadnD_isR {H Hc : HpD} {n : Nat} {d : D} (hr : isR d = true) : loadnD Hc n d = loadnD H n d := by
 cases d <;> first | (cases hr; done) | rfl
theorem load1_past {ψ ψc : Nat → Option Nat} {S Sc : Fz} {Hc : HpD} {h hc : Hp} {d y : D} {u v : V} {b o : Nat} (sc : SR p.gl ψc Sc Hc hc) (xc : Ex hc ψc Sc h ψ S) (hr : isR d = true) (hvd : VD hc ψc Sc d u) (eu : u = .ptr b o) (e : loadD Hc d = some y) (e1 : loadV h (.ptr b o) = some v) : VD hc ψc Sc y v := by
 subst eu;obtain ⟨w, e2, kw⟩ := loadD_ok sc hvd e
 have hb : h.blk b = hc.blk b := by
  cases d with
  | rptr l k =>
   obtain ⟨c, o', hs, e3⟩ := vd_rptr hvd;cases e3;exact (xc.frz b hs).2
  | _ => cases hr
 have : loadV h (.ptr b o) = loadV hc (.ptr b o) := (by simp only [loadV, hb]);rw [this, e2] at e1;cases e1;exact kw
theorem loadn_past {ψ ψc : Nat → Option Nat} {S Sc : Fz} {Hc : HpD} {h hc : Hp} {d y : D} {u v : V} {b o n : Nat} (sc : SR p.gl ψc Sc Hc hc) (xc : Ex hc ψc Sc h ψ S) (hr : isR d = true) (hvd : VD hc ψc Sc d u) (eu : u = .ptr b o) (e : loadnD Hc n d = some y) (e1 : loadnV h n (.ptr b o) = some v) : VD hc ψc Sc y v := by
 subst eu;obtain ⟨w, e2, kw⟩ := loadnD_ok sc hvd e
 have hb : h.blk b = hc.blk b := by
  cases d with
  | rptr l k =>
   obtain ⟨c, o', hs, e3⟩ := vd_rptr hvd;cases e3;exact (xc.frz b hs).2
  | _ => cases hr
 have : loadnV h n (.ptr b o) = loadnV hc n (.ptr b o) := (by simp only [loadnV, Hp.read, hb]);rw [this, e2] at e1;cases e1;exact kw
theorem DI.old {ψ : Nat → Option Nat} {S : Fz} {h : Hp} {fr : FrD} {fv : Fr} {cs : List (Nat × List Nat)} {ws : List (Nat × Nat)} {nx : Nat} {pst : List (Nat × HpD)} {st : List (Nat × Hp)} {rds : List Rd} (di : DI p.gl ψ S h fr fv cs ws nx pst st rds) {d : D} {v : V} (k : VD h ψ S d v) (hb : ∀ b o, d = .ptr b o → b < nx) (hd : (∃ b o, d = .ptr b o) ∨ ∃ l o, d = .rptr l o) :
  ∃ b o, v = .ptr b o ∧ ∀ c hc st', st = (c, hc) :: st' → b < hc.next := by
 rcases hd with ⟨b, o, rfl⟩ | ⟨l, o, rfl⟩
 ·simp only [VD] at k;obtain ⟨c, e, rfl⟩ := k;exact ⟨c, o, rfl, fun c' hc st' es => (di.last c' hc st' es).2.1 b c e (hb b o rfl)⟩
 ·obtain ⟨c, o', hs, rfl⟩ := vd_rptr k;exact ⟨c, o', rfl, fun c' hc st' es => (di.last c' hc st' es).2.2.1 c hs⟩
theorem loadD_kind {H : HpD} {x d : D} (e : loadD H x = some d) : (∃ b o, x = .ptr b o) ∨ ∃ l o, x = .rptr l o := by
 cases x <;> simp only [loadD] at e <;> first | (cases e; done) | skip
 ·exact .inl ⟨_, _, rfl⟩
 ·exact .inr ⟨_, _, rfl⟩
theorem loadnD_kind {H : HpD} {x d : D} {n : Nat} (e : loadnD H n x = some d) : (∃ b o, x = .ptr b o) ∨ ∃ l o, x = .rptr l o := by
 cases x <;> simp only [loadnD] at e <;> first | (cases e; done) | skip
 ·exact .inl ⟨_, _, rfl⟩
 ·exact .inr ⟨_, _, rfl⟩
theorem at1_read {h : Hp} {b o : Nat} {v : V} (e : cellAt (h.blk b) o = some v) : h.read b o [v].length = some [v] := by
 rw [← at1_eq] at e;exact Hp.at1_iff.1 e
theorem loadnV_read {h : Hp} {b o n : Nat} {u : V} (e : loadnV h n (.ptr b o) = some u) : ∃ l, u = .agg l ∧ h.read b o n = some l ∧ l.length = n := by
 simp only [loadnV] at e
 cases hr : h.read b o n with
 | none => rw [hr] at e; cases e
 | some l =>
  rw [hr] at e;cases e;refine ⟨l, rfl, rfl, ?_⟩;unfold Hp.read at hr;split at hr
  ·obtain ⟨a1, a2⟩ := takeX_eq hr;rw [a1, List.length_take]; omega
  ·cases hr
theorem sem_p {d : Option Nat} {o : POp} {l : List MO} {fz lv : List Nat} {K : List KD} {fr : FrD} {H : HpD} {k : D → Cfg} (hk : ∀ x, Sem p ext Q (k x) → Sem p ext Q (.ops l fz lv K .mk (putD fr d x) H))
  (hs : Sem p ext Q (optC (pD p.env fr o) k)) : Sem p ext Q (.ops (⟨d, .p o, none⟩ :: l) fz lv K .mk fr H) := by
 intro hK ψ S h fv P s kf hP;obtain ⟨x, e, hs⟩ := sem_optC hs;obtain ⟨v, e1, kv⟩ := pD_ok kf e;refine OS.pure.2 ?_;rw [e1];exact os_step (hk x hs) hK .refl s kf kv hP
theorem sem_p_nil {d : Option Nat} {neg : Bool} {a b : Opd} {l : List MO} {fz lv : List Nat} {K : List KD} {fr : FrD} {H : HpD} {k : Bool → Cfg} (hk : ∀ r, Sem p ext Q (k r) → Sem p ext Q (.ops l fz lv K .mk (putD fr d (.lit (.bool (cond neg (!r) r)))) H))
  (hs : Sem p ext Q (nilC (evD fr a) (evD fr b) k)) : Sem p ext Q (.ops (⟨d, .p (.eq .slice neg a b), none⟩ :: l) fz lv K .mk fr H) := by
 intro hK ψ S h fv P s kf hP;obtain ⟨r, e, hs⟩ := sem_nilC (evD_ok kf a) (evD_ok kf b) hs;refine OS.pure.2 ?_;rw [pV_eq, eqP_some e];exact os_step (hk r hs) hK .refl s kf (by simp [VD, atomV]) hP
theorem sem_dp {d : Option Nat} {o : POp} {lo hi : Nat} {l : List DO} {lv : List Nat} {K : List KD} {i : Nat} {cs : List (Nat × List Nat)} {ws : List (Nat × Nat)} {nx : Nat} {pst : List (Nat × HpD)} {fr : FrD} {H : HpD} {k : D → Cfg}
  (hk : ∀ x, Sem p ext Q (k x) → Sem p ext Q (.dops l lv K (dirtyP d o cs) ws .mk (i + 1) nx pst (putD fr d x) H))
  (hs : Sem p ext Q (optC (pD p.env fr o) k)) : Sem p ext Q (.dops (⟨⟨d, .p o, none⟩, lo, hi⟩ :: l) lv K cs ws .mk i nx pst fr H) := by
 intro hK hd hn ψ S h fv st rds P s kf di hP;obtain ⟨x, e, hs⟩ := sem_optC hs;obtain ⟨v, e1, kv⟩ := pD_ok kf e;refine D.pure.2 ?_;rw [e1];exact ds_step (hk x hs) hK hd hn .refl s kf kv (di.pure e e1) hP
theorem sem_dp_nil {d : Option Nat} {neg : Bool} {a b : Opd} {lo hi : Nat} {l : List DO} {lv : List Nat} {K : List KD} {i : Nat} {cs : List (Nat × List Nat)} {ws : List (Nat × Nat)} {nx : Nat} {pst : List (Nat × HpD)} {fr : FrD} {H : HpD} {k : Bool → Cfg}
  (hk : ∀ r, Sem p ext Q (k r) → Sem p ext Q (.dops l lv K (dirtyP d (.eq .slice neg a b) cs) ws .mk (i + 1) nx pst (putD fr d (.lit (.bool (cond neg (!r) r)))) H))
  (hs : Sem p ext Q (nilC (evD fr a) (evD fr b) k)) : Sem p ext Q (.dops (⟨⟨d, .p (.eq .slice neg a b), none⟩, lo, hi⟩ :: l) lv K cs ws .mk i nx pst fr H) := by
 intro hK hd hn ψ S h fv st rds P s kf di hP;obtain ⟨r, e, hs⟩ := sem_nilC (evD_ok kf a) (evD_ok kf b) hs;refine D.pure.2 ?_;rw [pV_eq, eqP_some e];exact ds_step (hk r hs) hK hd hn .refl s kf (by simp [VD, atomV]) di.bool hP
theorem sem_runI : ∀ (n : Nat) (c : Cfg), Sem p ext Q (runI p.env n c) → Sem p ext Q c := by
 intro n
 induction n with
 | zero => intro c hs; exact hs
 | succ n ih =>
  intro c hs
  match c with
  | .stuck => exact hs
  | .call f a d l fz lv K .mk fr H => exact hs
  | .dcall f a d l lv K cs ws .mk i pst fr H => exact hs
  | .code .skip K .mk fr H =>
   have hs := ih _ hs;intro _ hK ψ S h fv P s kf hP;exact WS.skip.2 (hs hK ψ S h fv P s kf hP)
  | .code (.region l fz lv) K .mk fr H =>
   have hs := ih _ hs;intro _ hK ψ S h fv P s kf hP;exact WS.region.2 (hs hK ψ S h fv P s kf hP)
  | .code (.dregion l lv) K .mk fr H =>
   have hs := ih _ hs;intro hc hK ψ S h fv P s kf hP;refine WS.dregion.2 (hs hK hc (Nat.le_refl _) ψ S h fv _ _ P s kf ⟨⟨rfl, rfl, ⟨ψ, S, s, .refl, fun t _ => kf t⟩, trivial⟩, fun r hr => (by cases hr), fun c hc st' e => ?_, by simp⟩ hP);cases e;exact ⟨fun _ _ => rfl, fun b x hb _ => (s.dom b x hb).2, s.frz, Nat.le_refl _⟩
  | .code (.seq a b) K .mk fr H =>
   have hs := ih _ hs;intro hc hK ψ S h fv P s kf hP;simp only [KC.ok, Bool.and_eq_true] at hc;exact WS.seq.2 (hs hc.1 (by simp only [okK, KD.ok, hc.2, hK]; rfl) ψ S h fv P s kf hP)
  | .code (.cond c a b) K .mk fr H =>
   have hs : Sem p ext Q (boolC (evD fr c) (runI p.env n (.code a K .mk fr H)) (runI p.env n (.code b K .mk fr H))) := hs;intro hc hK ψ S h fv P s kf hP;simp only [KC.ok, Bool.and_eq_true] at hc;have ke := evD_ok kf c;unfold boolC at hs;split at hs
   case h_2 => exact hs.elim
   rename_i t ht;rw [ht] at ke;simp only [VD] at ke;refine WS.cond.2 ?_;rw [ke.1]
   cases t with
   | true => exact ih _ hs hc.1 hK ψ S h fv P s kf hP
   | false => exact ih _ hs hc.2 hK ψ S h fv P s kf hP
  | .code (.block id c) K .mk fr H =>
   have hs := ih _ hs;intro hc hK ψ S h fv P s kf hP;exact WS.block.2 (hs hc (by simp only [okK, KD.ok, hK]; rfl) ψ S h fv P s kf hP)
  | .code (.loop c) K .mk fr H => exact hs
  | .code (.exit id) K .mk fr H =>
   have hs := ih _ hs;intro _ hK ψ S h fv P s kf hP;exact WS.exit.2 (hs hK ψ S h fv P s kf hP)
  | .res (.exit id fr H) (.seq b :: K) .mk =>
   have hs := ih _ hs;intro hK ψ S h fv P s kf hP;exact RK.seq_exit.2 (hs (okK_cons hK).2 ψ S h fv P s kf hP)
  | .res (.exit id fr H) (.block id' :: K) .mk =>
   intro hK ψ S h fv P s kf hP;have hs : Sem p ext Q (exitC (Nat.beq id id') (runI p.env n (.res (.ok fr H) K .mk)) (runI p.env n (.res (.exit id fr H) K .mk))) := hs
   by_cases e : id = id'
   ·subst e;rw [show Nat.beq id id = true from nbeq.2 rfl] at hs;exact RK.block_same.2 (ih _ hs (okK_cons hK).2 ψ S h fv P s kf hP)
   ·rw [show Nat.beq id id' = false from by rw [nbeq_d]; exact decide_eq_false e] at hs;exact (RK.block_other e).2 (ih _ hs (okK_cons hK).2 ψ S h fv P s kf hP)
  | .code .ret K .mk fr H =>
   have hs : Sem p ext Q (.res (.ret fr H) [] .mk) := hs;intro _ hK ψ S h fv P s kf hP;exact WS.ret.2 (RK_ret (hs rfl ψ S h fv P s kf hP))
  | .res (.ok fr H) (.seq b :: K) .mk =>
   have hs := ih _ hs;intro hK ψ S h fv P s kf hP;obtain ⟨h1, h2⟩ := okK_cons hK;exact RK.seq_ok.2 (hs h1 h2 ψ S h fv P s kf hP)
  | .res (.ok fr H) (.block id :: K) .mk =>
   have hs := ih _ hs;intro hK ψ S h fv P s kf hP;exact RK.block_ok.2 (hs (okK_cons hK).2 ψ S h fv P s kf hP)
  | .res (.ok fr H) [] .mk => exact hs
  | .res (.exit id fr H) [] .mk => exact hs
  | .res (.ret fr H) K .mk => exact hs
  | .ops [] fz lv K .mk fr H =>
   have hs := ih _ hs;intro hK ψ S h fv P s kf hP;exact OS.nil.2 (hs hK ψ S h fv P s (kf.keep lv) hP)
  | .ops (⟨d, o, some (t, w)⟩ :: l) fz lv K .mk fr H =>
   have hs : Sem p ext Q (gateC (lk fr t) w (runI p.env n (.ops (⟨d, o, none⟩ :: l) fz lv K .mk fr H)) (runI p.env n (.ops l fz lv K .mk (putD fr d (.tup [])) H))) := hs;intro hK ψ S h fv P s kf hP;have ke := kf t;refine OS.guard.2 ?_;unfold gateS;rcases sem_gateC hs with ⟨t', e, h1, h2⟩ | ⟨⟨r, e⟩, h2⟩
   ·rw [e] at ke;simp only [VD] at ke;rw [ke.1];refine ⟨fun e => ih _ (h1 e) hK ψ S h fv P s kf hP, fun e => ?_⟩;exact ih _ (h2 e) hK ψ S h _ P s (kf.put (by simp [VD, VDl]) d) hP
   ·rw [e] at ke;simp only [VD] at ke;obtain ⟨r', e', _⟩ := ke;rw [e'];exact ih _ h2 hK ψ S h _ P s (kf.put (by simp [VD, VDl]) d) hP
  | .ops (⟨d, .p (.eq .slice neg a b), none⟩ :: l) fz lv K .mk fr H => exact sem_p_nil (fun r => ih _) hs
  | .ops (⟨d, .p (.mov a), none⟩ :: l) fz lv K .mk fr H => exact sem_p (fun x => ih _) hs
  | .ops (⟨d, .p (.pick a b c), none⟩ :: l) fz lv K .mk fr H => exact sem_p (fun x => ih _) hs
  | .ops (⟨d, .p (.build a b), none⟩ :: l) fz lv K .mk fr H => exact sem_p (fun x => ih _) hs
  | .ops (⟨d, .p (.nilchk a), none⟩ :: l) fz lv K .mk fr H => exact sem_p (fun x => ih _) hs
  | .ops (⟨d, .p (.bin a b c), none⟩ :: l) fz lv K .mk fr H => exact sem_p (fun x => ih _) hs
  | .ops (⟨d, .p (.eq .bool a b c), none⟩ :: l) fz lv K .mk fr H => exact sem_p (fun x => ih _) hs
  | .ops (⟨d, .p (.eq .int a b c), none⟩ :: l) fz lv K .mk fr H => exact sem_p (fun x => ih _) hs
  | .ops (⟨d, .p (.eq .str a b c), none⟩ :: l) fz lv K .mk fr H => exact sem_p (fun x => ih _) hs
  | .ops (⟨d, .p (.eq .ptr a b c), none⟩ :: l) fz lv K .mk fr H => exact sem_p (fun x => ih _) hs
  | .ops (⟨d, .p (.eq .map a b c), none⟩ :: l) fz lv K .mk fr H => exact sem_p (fun x => ih _) hs
  | .ops (⟨d, .p (.eq .func a b c), none⟩ :: l) fz lv K .mk fr H => exact sem_p (fun x => ih _) hs
  | .ops (⟨d, .p (.eq .iface a b c), none⟩ :: l) fz lv K .mk fr H => exact sem_p (fun x => ih _) hs
  | .ops (⟨d, .p (.eq (.struct z) a b c), none⟩ :: l) fz lv K .mk fr H => exact sem_p (fun x => ih _) hs
  | .ops (⟨d, .p (.eqi a b c e), none⟩ :: l) fz lv K .mk fr H => exact sem_p (fun x => ih _) hs
  | .ops (⟨d, .p (.neg a), none⟩ :: l) fz lv K .mk fr H => exact sem_p (fun x => ih _) hs
  | .ops (⟨d, .p (.not a), none⟩ :: l) fz lv K .mk fr H => exact sem_p (fun x => ih _) hs
  | .ops (⟨d, .p (.compl a), none⟩ :: l) fz lv K .mk fr H => exact sem_p (fun x => ih _) hs
  | .ops (⟨d, .p (.conv a b), none⟩ :: l) fz lv K .mk fr H => exact sem_p (fun x => ih _) hs
  | .ops (⟨d, .p (.mkiface a b), none⟩ :: l) fz lv K .mk fr H => exact sem_p (fun x => ih _) hs
  | .ops (⟨d, .p (.mkfunc a b c), none⟩ :: l) fz lv K .mk fr H => exact sem_p (fun x => ih _) hs
  | .ops (⟨d, .p (.slc a b c e f), none⟩ :: l) fz lv K .mk fr H => exact sem_p (fun x => ih _) hs
  | .ops (⟨d, .p (.sls a b c), none⟩ :: l) fz lv K .mk fr H => exact sem_p (fun x => ih _) hs
  | .ops (⟨d, .p (.sla a b c e f g), none⟩ :: l) fz lv K .mk fr H => exact sem_p (fun x => ih _) hs
  | .ops (⟨d, .p (.faddr a b), none⟩ :: l) fz lv K .mk fr H => exact sem_p (fun x => ih _) hs
  | .ops (⟨d, .p (.field1 a b), none⟩ :: l) fz lv K .mk fr H => exact sem_p (fun x => ih _) hs
  | .ops (⟨d, .p (.fieldn a b c), none⟩ :: l) fz lv K .mk fr H => exact sem_p (fun x => ih _) hs
  | .ops (⟨d, .p (.iaddr a b c), none⟩ :: l) fz lv K .mk fr H => exact sem_p (fun x => ih _) hs
  | .ops (⟨d, .p (.iaddra a b c e), none⟩ :: l) fz lv K .mk fr H => exact sem_p (fun x => ih _) hs
  | .ops (⟨d, .p (.idxs a b), none⟩ :: l) fz lv K .mk fr H => exact sem_p (fun x => ih _) hs
  | .ops (⟨d, .p (.idx1 a b c), none⟩ :: l) fz lv K .mk fr H => exact sem_p (fun x => ih _) hs
  | .ops (⟨d, .p (.idxn a b c e), none⟩ :: l) fz lv K .mk fr H => exact sem_p (fun x => ih _) hs
  | .ops (⟨d, .p (.ext a b), none⟩ :: l) fz lv K .mk fr H => exact sem_p (fun x => ih _) hs
  | .ops (⟨d, .p (.lens a), none⟩ :: l) fz lv K .mk fr H => exact sem_p (fun x => ih _) hs
  | .ops (⟨d, .p (.lenb a), none⟩ :: l) fz lv K .mk fr H => exact sem_p (fun x => ih _) hs
  | .ops (⟨d, .p (.lena a), none⟩ :: l) fz lv K .mk fr H => exact sem_p (fun x => ih _) hs
  | .ops (⟨d, .p (.caps a), none⟩ :: l) fz lv K .mk fr H => exact sem_p (fun x => ih _) hs
  | .ops (⟨d, .p (.min a), none⟩ :: l) fz lv K .mk fr H => exact sem_p (fun x => ih _) hs
  | .ops (⟨d, .p (.max a), none⟩ :: l) fz lv K .mk fr H => exact sem_p (fun x => ih _) hs
  | .ops (⟨d, .a o, none⟩ :: l) fz lv K .mk fr H =>
   have hs : Sem p ext Q (optH (aD fr H (inL d fz) o) fun x H' => runI p.env n (.ops l fz lv K .mk (putD fr d x) H')) := hs;intro hK ψ S h fv P s kf hP;obtain ⟨x, H', e, hs⟩ := sem_optH hs;obtain ⟨y, mk, e1, ψ', S', x0, s', kv⟩ := aD_ok s kf e;refine OS.alloc.2 ?_;rw [e1];exact os_step (ih _ hs) hK x0 s' kf kv hP
  | .ops (⟨d, .load1 x, none⟩ :: l) fz lv K .mk fr H =>
   have hs : Sem p ext Q (optC (loadD H (evD fr x)) fun x => runI p.env n (.ops l fz lv K .mk (putD fr d x) H)) := hs;intro hK ψ S h fv P s kf hP;obtain ⟨y, e, hs⟩ := sem_optC hs;obtain ⟨v, e1, kv⟩ := loadD_ok s (evD_ok kf x) e;refine OS.load1.2 ?_;rw [e1];exact os_step (ih _ hs) hK .refl s kf kv hP
  | .ops (⟨d, .loadn m x, none⟩ :: l) fz lv K .mk fr H =>
   have hs : Sem p ext Q (optC (loadnD H m (evD fr x)) fun x => runI p.env n (.ops l fz lv K .mk (putD fr d x) H)) := hs;intro hK ψ S h fv P s kf hP;obtain ⟨y, e, hs⟩ := sem_optC hs;obtain ⟨v, e1, kv⟩ := loadnD_ok s (evD_ok kf x) e;refine OS.loadn.2 ?_;rw [e1];exact os_step (ih _ hs) hK .refl s kf kv hP
  | .ops (⟨d, .e (.call f a), none⟩ :: l) fz lv K .mk fr H =>
   have hs : Sem p ext Q (.call f (evsD fr a) d l fz lv K .mk fr H) := hs;intro hK ψ S h fv P s kf hP;exact OS.call.2 (hs hK ψ S h fv _ P s kf (evsD_ok kf a) hP)
  | .ops (⟨d, .e (.extern f a), none⟩ :: l) fz lv K .mk fr H =>
   have hs : Sem p ext Q (.call f (evsD fr a) d l fz lv K .mk fr H) := hs;intro hK ψ S h fv P s kf hP;exact OS.extern.2 (hs hK ψ S h fv _ P s kf (evsD_ok kf a) hP)
  | .ops (⟨d, .e (.callv x a), none⟩ :: l) fz lv K .mk fr H =>
   have hs : Sem p ext Q (funC (evD fr x) fun f fi ca => .call f (fi ++ evsD fr a ++ ca) d l fz lv K .mk fr H) := hs;intro hK ψ S h fv P s kf hP;obtain ⟨f, fi, ca, e, hs⟩ := sem_funC hs;have ke := evD_ok kf x;rw [e] at ke;simp only [VD] at ke;obtain ⟨fi', ca', e1, k1, k2⟩ := ke;refine OS.callv.2 ?_;rw [e1];exact hs hK ψ S h fv _ P s kf (VDl.append (VDl.append k1 (evsD_ok kf a)) k2) hP
  | .ops (⟨d, .e (.store sz a x), none⟩ :: l) fz lv K .mk fr H => exact sem_op (fun x H' => ih _) hs
  | .ops (⟨d, .e (.append sz b a x), none⟩ :: l) fz lv K .mk fr H => exact sem_op (fun x H' => ih _) hs
  | .ops (⟨d, .e (.appendz z sz b a x), none⟩ :: l) fz lv K .mk fr H => exact sem_op (fun x H' => ih _) hs
  | .ops (⟨d, .e (.copy sz a x), none⟩ :: l) fz lv K .mk fr H => exact sem_op (fun x H' => ih _) hs
  | .ops (⟨d, .e (.clear z x), none⟩ :: l) fz lv K .mk fr H => exact sem_op (fun x H' => ih _) hs
  | .ops (⟨d, .e (.text x), none⟩ :: l) fz lv K .mk fr H => exact sem_op (fun x H' => ih _) hs
  | .ops (⟨d, .e (.lookup sk z ok m k), none⟩ :: l) fz lv K .mk fr H => exact sem_op (fun x H' => ih _) hs
  | .ops (⟨d, .e (.mapput sk m k v), none⟩ :: l) fz lv K .mk fr H => exact sem_op (fun x H' => ih _) hs
  | .ops (⟨d, .e (.delete sk m k), none⟩ :: l) fz lv K .mk fr H => exact sem_op (fun x H' => ih _) hs
  | .ops (⟨d, .e (.lenm x), none⟩ :: l) fz lv K .mk fr H => exact sem_op (fun x H' => ih _) hs
  | .ops (⟨d, .e (.mark x), none⟩ :: l) fz lv K .mk fr H => exact sem_op (fun x H' => ih _) hs
  | .ops (⟨d, .e .stop, none⟩ :: l) fz lv K .mk fr H => exact sem_op (fun x H' => ih _) hs
  | .both P0 a b =>
   have hs : (P0 → Sem p ext Q (runI p.env n a)) ∧ Sem p ext Q (runI p.env n b) := hs;exact ⟨fun h => ih _ (hs.1 h), ih _ hs.2⟩
  | .need P0 c =>
   have hs : P0 ∧ Sem p ext Q (runI p.env n c) := hs;exact ⟨hs.1, ih _ hs.2⟩
  | .dops [] lv K cs ws .mk i nx pst fr H =>
   have hs := ih _ hs;intro hK _ _ ψ S h fv st rds P s kf di hP;exact DS.nil.2 ⟨allStill_of fun r hr => (di.rds r hr).2, hs hK ψ S h fv P s (kf.keep lv) hP⟩
  | .dops (⟨⟨d, o, some (t, w)⟩, lo, hi⟩ :: l) lv K cs ws .mk i nx pst fr H =>
   have hs : Sem p ext Q (gateC (lk fr t) w (runI p.env n (.dops (⟨⟨d, o, none⟩, lo, hi⟩ :: l) lv K cs ws .mk i nx pst fr H))
    (runI p.env n (.dops l lv K (dirtyO d o i cs) (addWin o lo hi ws) .mk (i + 1) (bif isE o then H.next else nx) (bif isE o then (i + 1, H) :: pst else pst) (putD fr d (.tup [])) H))) := hs
   intro hK hd hn ψ S h fv st rds P s kf di hP;have ke := kf t;refine D.guard.2 ?_
   have yes : Sem p ext Q (runI p.env n (.dops (⟨⟨d, o, none⟩, lo, hi⟩ :: l) lv K cs ws .mk i nx pst fr H)) → WPd p ext (⟨⟨d, o, none⟩, lo, hi⟩ :: l) i fv h st rds fun fr h => RK p ext (eraseK K) (.ok fr h) P := fun hs =>
    ih _ hs hK hd hn ψ S h fv st rds P s kf di hP
   have no : Sem p ext Q (runI p.env n (.dops l lv K (dirtyO d o i cs) (addWin o lo hi ws) .mk (i + 1) (bif isE o then H.next else nx) (bif isE o then (i + 1, H) :: pst else pst) (putD fr d (.tup [])) H)) →
     WPd p ext l (i + 1) (putO fv d (.tup [])) h (stAdd (isE o) i h st) rds fun fr h => RK p ext (eraseK K) (.ok fr h) P := fun hs => by
    have hs := ih _ hs;have kf' := kf.put (d := .tup []) (v := .tup []) (by simp [VD, VDl]) d
    cases o with
    | p o => exact hs hK hd hn ψ S h _ st rds P s kf' di.tup hP
    | a o => exact hs hK hd hn ψ S h _ st rds P s kf' di.load hP
    | load1 x =>
     exact hs hK hd hn ψ S h _ st rds P s kf' di.load.unread hP
    | loadn m x =>
     exact hs hK hd hn ψ S h _ st rds P s kf' di.load.unread hP
    | e o =>
     simp only [drOk, Bool.and_eq_true] at hd;exact hs hK hd.2 (Nat.le_refl _) ψ S h _ _ rds P s kf' (di.stage hd.1 .refl s kf') hP
   rcases sem_gateC hs with ⟨t', e, h1, h2⟩ | ⟨⟨r, e⟩, h2⟩
   ·rw [e] at ke;simp only [VD] at ke;rw [ke.1];exact ⟨fun e => yes (h1 e), fun e => no (h2 e)⟩
   ·rw [e] at ke;simp only [VD] at ke;obtain ⟨r', e', _⟩ := ke;rw [e'];exact no h2
  | .dops (⟨⟨d, .p (.eq .slice neg a b), none⟩, lo, hi⟩ :: l) lv K cs ws .mk i nx pst fr H => exact sem_dp_nil (fun r => ih _) hs
  | .dops (⟨⟨d, .p (.mov a), none⟩, lo, hi⟩ :: l) lv K cs ws .mk i nx pst fr H => exact sem_dp (fun x => ih _) hs
  | .dops (⟨⟨d, .p (.pick a b c), none⟩, lo, hi⟩ :: l) lv K cs ws .mk i nx pst fr H => exact sem_dp (fun x => ih _) hs
  | .dops (⟨⟨d, .p (.build a b), none⟩, lo, hi⟩ :: l) lv K cs ws .mk i nx pst fr H => exact sem_dp (fun x => ih _) hs
  | .dops (⟨⟨d, .p (.nilchk a), none⟩, lo, hi⟩ :: l) lv K cs ws .mk i nx pst fr H => exact sem_dp (fun x => ih _) hs
  | .dops (⟨⟨d, .p (.bin a b c), none⟩, lo, hi⟩ :: l) lv K cs ws .mk i nx pst fr H => exact sem_dp (fun x => ih _) hs
  | .dops (⟨⟨d, .p (.eq .bool a b c), none⟩, lo, hi⟩ :: l) lv K cs ws .mk i nx pst fr H => exact sem_dp (fun x => ih _) hs
  | .dops (⟨⟨d, .p (.eq .int a b c), none⟩, lo, hi⟩ :: l) lv K cs ws .mk i nx pst fr H => exact sem_dp (fun x => ih _) hs
  | .dops (⟨⟨d, .p (.eq .str a b c), none⟩, lo, hi⟩ :: l) lv K cs ws .mk i nx pst fr H => exact sem_dp (fun x => ih _) hs
  | .dops (⟨⟨d, .p (.eq .ptr a b c), none⟩, lo, hi⟩ :: l) lv K cs ws .mk i nx pst fr H => exact sem_dp (fun x => ih _) hs
  | .dops (⟨⟨d, .p (.eq .map a b c), none⟩, lo, hi⟩ :: l) lv K cs ws .mk i nx pst fr H => exact sem_dp (fun x => ih _) hs
  | .dops (⟨⟨d, .p (.eq .func a b c), none⟩, lo, hi⟩ :: l) lv K cs ws .mk i nx pst fr H => exact sem_dp (fun x => ih _) hs
  | .dops (⟨⟨d, .p (.eq .iface a b c), none⟩, lo, hi⟩ :: l) lv K cs ws .mk i nx pst fr H => exact sem_dp (fun x => ih _) hs
  | .dops (⟨⟨d, .p (.eq (.struct z) a b c), none⟩, lo, hi⟩ :: l) lv K cs ws .mk i nx pst fr H => exact sem_dp (fun x => ih _) hs
  | .dops (⟨⟨d, .p (.eqi a b c e), none⟩, lo, hi⟩ :: l) lv K cs ws .mk i nx pst fr H => exact sem_dp (fun x => ih _) hs
  | .dops (⟨⟨d, .p (.neg a), none⟩, lo, hi⟩ :: l) lv K cs ws .mk i nx pst fr H => exact sem_dp (fun x => ih _) hs
  | .dops (⟨⟨d, .p (.not a), none⟩, lo, hi⟩ :: l) lv K cs ws .mk i nx pst fr H => exact sem_dp (fun x => ih _) hs
  | .dops (⟨⟨d, .p (.compl a), none⟩, lo, hi⟩ :: l) lv K cs ws .mk i nx pst fr H => exact sem_dp (fun x => ih _) hs
  | .dops (⟨⟨d, .p (.conv a b), none⟩, lo, hi⟩ :: l) lv K cs ws .mk i nx pst fr H => exact sem_dp (fun x => ih _) hs
  | .dops (⟨⟨d, .p (.mkiface a b), none⟩, lo, hi⟩ :: l) lv K cs ws .mk i nx pst fr H => exact sem_dp (fun x => ih _) hs
  | .dops (⟨⟨d, .p (.mkfunc a b c), none⟩, lo, hi⟩ :: l) lv K cs ws .mk i nx pst fr H => exact sem_dp (fun x => ih _) hs
  | .dops (⟨⟨d, .p (.slc a b c e f), none⟩, lo, hi⟩ :: l) lv K cs ws .mk i nx pst fr H => exact sem_dp (fun x => ih _) hs
  | .dops (⟨⟨d, .p (.sls a b c), none⟩, lo, hi⟩ :: l) lv K cs ws .mk i nx pst fr H => exact sem_dp (fun x => ih _) hs
  | .dops (⟨⟨d, .p (.sla a b c e f g), none⟩, lo, hi⟩ :: l) lv K cs ws .mk i nx pst fr H => exact sem_dp (fun x => ih _) hs
  | .dops (⟨⟨d, .p (.faddr a b), none⟩, lo, hi⟩ :: l) lv K cs ws .mk i nx pst fr H => exact sem_dp (fun x => ih _) hs
  | .dops (⟨⟨d, .p (.field1 a b), none⟩, lo, hi⟩ :: l) lv K cs ws .mk i nx pst fr H => exact sem_dp (fun x => ih _) hs
  | .dops (⟨⟨d, .p (.fieldn a b c), none⟩, lo, hi⟩ :: l) lv K cs ws .mk i nx pst fr H => exact sem_dp (fun x => ih _) hs
  | .dops (⟨⟨d, .p (.iaddr a b c), none⟩, lo, hi⟩ :: l) lv K cs ws .mk i nx pst fr H => exact sem_dp (fun x => ih _) hs
  | .dops (⟨⟨d, .p (.iaddra a b c e), none⟩, lo, hi⟩ :: l) lv K cs ws .mk i nx pst fr H => exact sem_dp (fun x => ih _) hs
  | .dops (⟨⟨d, .p (.idxs a b), none⟩, lo, hi⟩ :: l) lv K cs ws .mk i nx pst fr H => exact sem_dp (fun x => ih _) hs
  | .dops (⟨⟨d, .p (.idx1 a b c), none⟩, lo, hi⟩ :: l) lv K cs ws .mk i nx pst fr H => exact sem_dp (fun x => ih _) hs
  | .dops (⟨⟨d, .p (.idxn a b c e), none⟩, lo, hi⟩ :: l) lv K cs ws .mk i nx pst fr H => exact sem_dp (fun x => ih _) hs
  | .dops (⟨⟨d, .p (.ext a b), none⟩, lo, hi⟩ :: l) lv K cs ws .mk i nx pst fr H => exact sem_dp (fun x => ih _) hs
  | .dops (⟨⟨d, .p (.lens a), none⟩, lo, hi⟩ :: l) lv K cs ws .mk i nx pst fr H => exact sem_dp (fun x => ih _) hs
  | .dops (⟨⟨d, .p (.lenb a), none⟩, lo, hi⟩ :: l) lv K cs ws .mk i nx pst fr H => exact sem_dp (fun x => ih _) hs
  | .dops (⟨⟨d, .p (.lena a), none⟩, lo, hi⟩ :: l) lv K cs ws .mk i nx pst fr H => exact sem_dp (fun x => ih _) hs
  | .dops (⟨⟨d, .p (.caps a), none⟩, lo, hi⟩ :: l) lv K cs ws .mk i nx pst fr H => exact sem_dp (fun x => ih _) hs
  | .dops (⟨⟨d, .p (.min a), none⟩, lo, hi⟩ :: l) lv K cs ws .mk i nx pst fr H => exact sem_dp (fun x => ih _) hs
  | .dops (⟨⟨d, .p (.max a), none⟩, lo, hi⟩ :: l) lv K cs ws .mk i nx pst fr H => exact sem_dp (fun x => ih _) hs
  | .dops (⟨⟨d, .a o, none⟩, lo, hi⟩ :: l) lv K cs ws .mk i nx pst fr H =>
   have hs : Sem p ext Q (optH (aD fr H false o) fun x H' => runI p.env n (.dops l lv K (dirtyN d cs) ws .mk (i + 1) nx pst (putD fr d x) H')) := hs;intro hK hd hn ψ S h fv st rds P s kf di hP;obtain ⟨x, H', e, hs⟩ := sem_optH hs;obtain ⟨y, mk, z, e1, rfl, kb, kv⟩ := aD_new kf e;refine D.alloc.2 ?_;rw [e1];refine ds_step (ih _ hs) hK hd (Nat.le_succ_of_le hn) s.addExt (s.new kb) kf kv (di.alloc (h' := h.new y) s.addExt (fun x hx => by rw [blk_new, if_neg (by omega)]) (fun b x e hb => ?_) (fun x hx => hx) (Nat.le_succ _)) hP;unfold addE at e;rw [if_neg (by omega)] at e;exact e
  | .dops (⟨⟨d, .load1 x, none⟩, lo, hi⟩ :: l) lv K cs ws .mk i nx pst fr H =>
   have hs : Sem p ext Q (optC (Go.Dv.loadD H (evD fr x)) fun y => cleanC pst.tail (lo, hi) (tmpO x) cs.tail (oldC nx lo hi pst (fun H => Go.Dv.loadD H (evD fr x)) y (evD fr x) (runI p.env n (.dops l lv K (dirtyR d x (isR (evD fr x)) cs) ((lo, hi) :: ws) .mk (i + 1) nx pst (putD fr d y) H)))) := hs;intro hK hd hn ψ S h fv st rds P s kf di hP;obtain ⟨y, e, hs⟩ := sem_optC hs;obtain ⟨hcl, hs⟩ := sem_cleanC hs;have hcl := di.past.tail.clean hcl;obtain ⟨hb, hs⟩ := sem_oldC hs;have kx := evD_ok kf x;obtain ⟨v, e1, kv⟩ := loadD_ok s kx e;obtain ⟨b, o, ev', hst⟩ := di.old kx (fun b o e => (hb b o e).1) (loadD_kind e)
   refine D.load1.2 ?_;rw [ev'] at e1 ⊢;simp only [loadV] at e1;rw [ptrP_ptr, at1_eq, e1];refine ds_step (ih _ hs) hK (drOk_cs.trans hd) hn .refl s kf kv ((di.loadR fun {ψc Sc Hc hc} sc xc hr hvd => load1_past sc xc hr hvd ev' (by rw [← e]; exact loadD_isR hr) e1).read (at1_read e1) hst (still_past (at1_read e1) (y := y) (ld := fun H => Go.Dv.loadD H (evD fr x)) (fun c k ex {ψc Sc Hc hc} sc xc hvd hr hld => ?_) (loadD_kind e) ev' di.past.tail hcl fun a b e => (hb a b e).2)) hP;rw [ex] at hld;obtain ⟨u, e2, ku⟩ := loadD_ok sc hvd hld;have := rigid_eq y hr (VD.mono xc y ku) kv;subst this;exact at1_read e2
  | .dops (⟨⟨d, .loadn m x, none⟩, lo, hi⟩ :: l) lv K cs ws .mk i nx pst fr H =>
   have hs : Sem p ext Q (optC (Go.Dv.loadnD H m (evD fr x)) fun y => cleanC pst.tail (lo, hi) (tmpO x) cs.tail (oldC nx lo hi pst (fun H => Go.Dv.loadnD H m (evD fr x)) y (evD fr x) (runI p.env n (.dops l lv K (dirtyR d x (isR (evD fr x)) cs) ((lo, hi) :: ws) .mk (i + 1) nx pst (putD fr d y) H)))) := hs;intro hK hd hn ψ S h fv st rds P s kf di hP;obtain ⟨y, e, hs⟩ := sem_optC hs;obtain ⟨hcl, hs⟩ := sem_cleanC hs;have hcl := di.past.tail.clean hcl;obtain ⟨hb, hs⟩ := sem_oldC hs;have kx := evD_ok kf x;obtain ⟨v, e1, kv⟩ := loadnD_ok s kx e;obtain ⟨b, o, ev', hst⟩ := di.old kx (fun b o e => (hb b o e).1) (loadnD_kind e)
   refine D.loadn.2 ?_;rw [ev'] at e1 ⊢;have e1' := e1;obtain ⟨l', rfl, e2, e3⟩ := loadnV_read e1;rw [ptrP_ptr, e2];have e2' : h.read b o l'.length = some l' := (by rw [e3]; exact e2);refine ds_step (ih _ hs) hK (drOk_cs.trans hd) hn .refl s kf kv ((di.loadR fun {ψc Sc Hc hc} sc xc hr hvd => loadn_past sc xc hr hvd ev' (by rw [← e]; exact loadnD_isR hr) e1').read e2' hst (still_past e2' (y := y) (ld := fun H => Go.Dv.loadnD H m (evD fr x)) (fun c k ex {ψc Sc Hc hc} sc xc hvd hr hld => ?_) (loadnD_kind e) ev' di.past.tail hcl fun a b e => (hb a b e).2)) hP;rw [ex] at hld;obtain ⟨u, e4, ku⟩ := loadnD_ok sc hvd hld
   have := rigid_eq y hr (VD.mono xc y ku) kv;subst this;obtain ⟨l2, e5, e6, e7⟩ := loadnV_read e4;cases e5;rw [e3]; exact e6
  | .dops (⟨⟨d, .e (.call f a), none⟩, lo, hi⟩ :: l) lv K cs ws .mk i nx pst fr H =>
   have hs : Sem p ext Q (.dcall f (evsD fr a) d l lv K cs ws .mk i pst fr H) := hs;intro hK hd hn ψ S h fv st rds P s kf di hP;simp only [drOk, Bool.and_eq_true] at hd;exact D.call.2 (hs hK hd.1 hd.2 ψ S h fv _ st rds nx P s kf di (evsD_ok kf a) hP)
  | .dops (⟨⟨d, .e (.extern f a), none⟩, lo, hi⟩ :: l) lv K cs ws .mk i nx pst fr H =>
   have hs : Sem p ext Q (.dcall f (evsD fr a) d l lv K cs ws .mk i pst fr H) := hs;intro hK hd hn ψ S h fv st rds P s kf di hP;simp only [drOk, Bool.and_eq_true] at hd;exact D.extern.2 (hs hK hd.1 hd.2 ψ S h fv _ st rds nx P s kf di (evsD_ok kf a) hP)
  | .dops (⟨⟨d, .e (.callv x a), none⟩, lo, hi⟩ :: l) lv K cs ws .mk i nx pst fr H =>
   have hs : Sem p ext Q (funC (evD fr x) fun f fi ca => .dcall f (fi ++ evsD fr a ++ ca) d l lv K cs ws .mk i pst fr H) := hs;intro hK hd hn ψ S h fv st rds P s kf di hP;simp only [drOk, Bool.and_eq_true] at hd;obtain ⟨f, fi, ca, e, hs⟩ := sem_funC hs;have ke := evD_ok kf x;rw [e] at ke;simp only [VD] at ke;obtain ⟨fi', ca', e1, k1, k2⟩ := ke;refine D.callv.2 ?_;rw [e1];exact hs hK hd.1 hd.2 ψ S h fv _ st rds nx P s kf di (VDl.append (VDl.append k1 (evsD_ok kf a)) k2) hP
  | .dops (⟨⟨d, .e (.store sz a x), none⟩, lo, hi⟩ :: l) lv K cs ws .mk i nx pst fr H => exact sem_dop (fun x H' => ih _) hs
  | .dops (⟨⟨d, .e (.append sz b a x), none⟩, lo, hi⟩ :: l) lv K cs ws .mk i nx pst fr H => exact sem_dop (fun x H' => ih _) hs
  | .dops (⟨⟨d, .e (.appendz z sz b a x), none⟩, lo, hi⟩ :: l) lv K cs ws .mk i nx pst fr H => exact sem_dop (fun x H' => ih _) hs
  | .dops (⟨⟨d, .e (.copy sz a x), none⟩, lo, hi⟩ :: l) lv K cs ws .mk i nx pst fr H => exact sem_dop (fun x H' => ih _) hs
  | .dops (⟨⟨d, .e (.clear z x), none⟩, lo, hi⟩ :: l) lv K cs ws .mk i nx pst fr H => exact sem_dop (fun x H' => ih _) hs
  | .dops (⟨⟨d, .e (.text x), none⟩, lo, hi⟩ :: l) lv K cs ws .mk i nx pst fr H => exact sem_dop (fun x H' => ih _) hs
  | .dops (⟨⟨d, .e (.lookup sk z ok m k), none⟩, lo, hi⟩ :: l) lv K cs ws .mk i nx pst fr H => exact sem_dop (fun x H' => ih _) hs
  | .dops (⟨⟨d, .e (.mapput sk m k v), none⟩, lo, hi⟩ :: l) lv K cs ws .mk i nx pst fr H => exact sem_dop (fun x H' => ih _) hs
  | .dops (⟨⟨d, .e (.delete sk m k), none⟩, lo, hi⟩ :: l) lv K cs ws .mk i nx pst fr H => exact sem_dop (fun x H' => ih _) hs
  | .dops (⟨⟨d, .e (.lenm x), none⟩, lo, hi⟩ :: l) lv K cs ws .mk i nx pst fr H => exact sem_dop (fun x H' => ih _) hs
  | .dops (⟨⟨d, .e (.mark x), none⟩, lo, hi⟩ :: l) lv K cs ws .mk i nx pst fr H => exact sem_dop (fun x H' => ih _) hs
  | .dops (⟨⟨d, .e (.stop), none⟩, lo, hi⟩ :: l) lv K cs ws .mk i nx pst fr H => exact sem_dop (fun x H' => ih _) hs
theorem sem_run (n : Nat) (c : Cfg) (hs : Sem p ext Q (run p.env n c)) : Sem p ext Q c := by
 rw [run_eq] at hs;exact sem_runI n c hs
end
end Go.Dv
end

section
namespace Go.Vm
def okR (J : Fr → Hp → Prop) : Res → Prop
 | .ok fr h => J fr h
 | _ => False
theorem okR_ok {J : Fr → Hp → Prop} {fr : Fr} {h : Hp} : okR J (.ok fr h) ↔ J fr h := Iff.rfl
attribute [simp] okR_ok
theorem ws_cut {p : Prog} {ext : Ext} {c : MCode} {K : List KF} {fr : Fr} {h : Hp} {Q : Res → Prop} (J : Fr → Hp → Prop) (h1 : WS p ext c [] fr h (okR J)) (h2 : ∀ fr' h', J fr' h' → RK p ext K (.ok fr' h') Q) : WS p ext c K fr h Q := by
 refine (h1 : WP _ _ _ _ _ _).mono fun r hr => ?_;have hr : okR J r := hr
 cases r with
 | ok fr' h' => exact h2 fr' h' hr
 | _ => exact hr.elim
end Go.Vm
end

section
namespace Go.Dv
open Go.Vm
section
variable {p : Prog} {ext : Ext} {Q : ResD → Prop}
def WcD (p : Prog) (ext : Ext) (f : Nat) (args : List D) (H : HpD) (R : D → HpD → Prop) : Prop :=
 ∀ ψ S h vs, SR p.gl ψ S H h → VDl h ψ S args vs → WPc p ext f vs h fun v h' => ∃ ψ' S' d H', Ex h ψ S h' ψ' S' ∧ SR p.gl ψ' S' H' h' ∧ VD h' ψ' S' d v ∧ R d H'
theorem WcD.mono {f : Nat} {args : List D} {H : HpD} {R R' : D → HpD → Prop} (hw : WcD p ext f args H R) (hr : ∀ d H', R d H' → R' d H') : WcD p ext f args H R' := by
 intro ψ S h vs s k;refine (hw ψ S h vs s k).mono fun v h' ⟨ψ', S', d, H', a, b, c, e⟩ => ⟨ψ', S', d, H', a, b, c, hr d H' e⟩
theorem WcD.args {f : Nat} {args args' : List D} {H : HpD} {R : D → HpD → Prop} (hw : WcD p ext f args' H R) (hl : D.les args args') : WcD p ext f args H R := by
 intro ψ S h vs s k;exact hw ψ S h vs s (VDl.le _ _ hl k)
theorem sem_call {f : Nat} {args : List D} {dst : Option Nat} {l : List MO} {fz lv : List Nat} {K : List KD} {fr : FrD} {H : HpD} {R : D → HpD → Prop} (hw : WcD p ext f args H R)
  (hs : ∀ d H', R d H' → Sem p ext Q (.ops l fz lv K .mk (putD fr dst d) H')) : Sem p ext Q (.call f args dst l fz lv K .mk fr H) := by
 intro hK ψ S h fv vs P s kf kv hP;refine callS_of ((hw ψ S h vs s kv).mono ?_);rintro v h' ⟨ψ', S', d, H', x, s', k, r⟩;exact os_step (hs d H' r) hK x s' kf k hP
theorem sem_dcall {f : Nat} {args : List D} {dst : Option Nat} {l : List DO} {lv : List Nat} {K : List KD} {i : Nat} {cs : List (Nat × List Nat)} {ws : List (Nat × Nat)} {pst : List (Nat × HpD)} {fr : FrD} {H : HpD} {R : D → HpD → Prop} (hw : WcD p ext f args H R)
  (hs : ∀ d H', R d H' → Sem p ext Q (.dops l lv K ((i + 1, []) :: dirtyN dst cs) ws .mk (i + 1) H'.next ((i + 1, H') :: pst) (putD fr dst d) H')) : Sem p ext Q (.dcall f args dst l lv K cs ws .mk i pst fr H) := by
 intro hK hn hd ψ S h fv vs st rds nx P s kf di kv hP;refine (hw ψ S h vs s kv).mono ?_;rintro v h' ⟨ψ', S', d, H', x, s', k, r⟩;exact ds_step (hs d H' r) hK hd (Nat.le_refl _) x s' kf k (di.stage hn x s' ((kf.mono x).put k dst)) hP
def argsD : Nat → List D → FrD
 | _, [] => []
 | n, d :: l => (n, d) :: argsD (n + 1) l
def res1D (fr : FrD) (H : HpD) : RV → Option D
 | .tmp t => some (lk fr t)
 | .cell1 t => loadD H (lk fr t)
 | .celln n t => loadnD H n (lk fr t)
def resLD (fr : FrD) (H : HpD) : List RV → Option (List D)
 | [] => some []
 | r :: l => match res1D fr H r with
  | some d => match resLD fr H l with
   | some x => some (d :: x)
   | none => none
  | none => none
def tupD : List D → D
 | [d] => d
 | l => .tup l
def optQ (o : Option (List D)) (k : List D → Prop) : Prop := match o with
 | some l => k l
 | none => False
def endD (rs : List RV) (R : D → HpD → Prop) : ResD → Prop
 | .ok fr H => optQ (resLD fr H rs) fun l => R (tupD l) H
 | .ret fr H => optQ (resLD fr H rs) fun l => R (tupD l) H
 | .exit _ _ _ => False
theorem argsD_ok {h : Hp} {ψ : Nat → Option Nat} {S : Fz} {args : List D} {vs : List V} (k : VDl h ψ S args vs) : FrR h ψ S (argsD 0 args) (argsFr vs 0 .leaf) := by
 have key : ∀ (args : List D) (n t : Nat), lk (argsD n args) t = if n ≤ t then (args[t - n]?).getD .any else .any := by
  intro args
  induction args with
  | nil => intro n t; simp [argsD, lk]
  | cons d l ih =>
   intro n t;simp only [argsD, lk]
   by_cases e : n = t
   ·subst e; simp
   ·rw [show Nat.beq n t = false from by rw [nbeq_d]; exact decide_eq_false e, cond_false, ih]
    by_cases hle : n ≤ t
    ·rw [if_pos (by omega), if_pos hle, show t - n = (t - (n + 1)) + 1 from by omega, List.getElem?_cons_succ]
    ·rw [if_neg (by omega), if_neg hle]
 intro t;rw [key, ev_argsFr];simp only [Nat.zero_le, if_true, Nat.sub_zero, true_and]
 cases e : args[t]? with
 | none => simp [VD]
 | some d =>
  obtain ⟨v, e1, k1⟩ := VDl.get k e;have hlt := (List.getElem?_eq_some_iff.1 e1).1;rw [if_pos (by omega)];simp only [Option.getD_some, List.getD_eq_getElem?_getD, e1];exact k1
theorem res1D_ok {h : Hp} {ψ : Nat → Option Nat} {S : Fz} {H : HpD} (s : SR p.gl ψ S H h) {fr : FrD} {fv : Fr} (k : FrR h ψ S fr fv) {r : RV} {d : D} (e : res1D fr H r = some d) : ∃ v, res1 fv h r = some v ∧ VD h ψ S d v := by
 cases r with
 | tmp t => cases e; exact ⟨_, rfl, k t⟩
 | cell1 t =>
  obtain ⟨v, e1, kv⟩ := loadD_ok s (k t) e;unfold loadV at e1;split at e1
  case h_2 => cases e1
  rename_i b o hb;refine ⟨v, ?_, kv⟩;simp only [res1, hb];rw [← at1_eq] at e1;rw [Hp.at1_iff.1 e1]
 | celln n t =>
  obtain ⟨v, e1, kv⟩ := loadnD_ok s (k t) e;unfold loadnV at e1;split at e1
  case h_2 => cases e1
  rename_i b o hb;refine ⟨v, ?_, kv⟩;simp only [res1, hb];unfold aggO at e1;split at e1
  ·rename_i l hl; rw [hl]; exact e1
  ·cases e1
theorem resLD_ok {h : Hp} {ψ : Nat → Option Nat} {S : Fz} {H : HpD} (s : SR p.gl ψ S H h) {fr : FrD} {fv : Fr} (k : FrR h ψ S fr fv) : ∀ {rs : List RV} {l : List D}, resLD fr H rs = some l → ∃ vs, resV fv h rs = some vs ∧ VDl h ψ S l vs
 | [], _, e => by cases e; exact ⟨[], rfl, by simp [VDl]⟩
 | r :: rs, _, e => by
  simp only [resLD] at e;split at e
  case h_2 => cases e
  rename_i d hd;split at e
  case h_2 => cases e
  rename_i x hx;cases e;obtain ⟨v, e1, k1⟩ := res1D_ok s k hd;obtain ⟨vs, e2, k2⟩ := resLD_ok s k hx;exact ⟨v :: vs, by simp only [resV, e1, e2], by simp only [VDl]; exact ⟨v, vs, rfl, k1, k2⟩⟩
theorem tupD_ok {h : Hp} {ψ : Nat → Option Nat} {S : Fz} {l : List D} {vs : List V} (k : VDl h ψ S l vs) : VD h ψ S (tupD l) (tupOf vs) := by
 match l, k with
 | [], k => simp only [VDl] at k; subst k; simp [tupD, tupOf, VD, VDl]
 | [d], k =>
  simp only [VDl] at k;obtain ⟨v, r, rfl, k1, rfl⟩ := k;exact k1
 | d :: d' :: l, k =>
  have k0 := k;simp only [VDl] at k;obtain ⟨v, r, rfl, _, v', r', rfl, _, _⟩ := k;simp only [tupD, tupOf, VD];exact ⟨_, rfl, k0⟩
theorem enterD {f : Nat} {m : Fun} {kc : KC} (he : ∀ args h, ext f args h = none) (hf : p.funs.get f = some m) (hb : m.body = kc.erase) (hk : kc.ok = true) {args : List D} {H : HpD} {R : D → HpD → Prop} (hn : args.length = m.nargs)
  (hs : Sem p ext (endD m.results R) (.code kc [] .mk (argsD 0 args) H)) : WcD p ext f args H R := by
 intro ψ S h vs s k;refine enter (he _ _) hf (by rw [k.length, hn]) ?_;rw [hb];refine hs hk rfl ψ S h _ _ s (argsD_ok k) ?_;rintro r ⟨r', k1, k2⟩
 have fin : ∀ fr fv H' h', (∃ ψ' S', Ex h ψ S h' ψ' S' ∧ SR p.gl ψ' S' H' h' ∧ FrR h' ψ' S' fr fv) → optQ (resLD fr H' m.results) (fun l => R (tupD l) H') → ∃ v, resP fv h' m.results = some (v, h') ∧ ∃ ψ' S' d H', Ex h ψ S h' ψ' S' ∧ SR p.gl ψ' S' H' h' ∧ VD h' ψ' S' d v ∧ R d H' := by
  rintro fr fv H' h' ⟨ψ', S', x, s', kf⟩ k;unfold optQ at k;split at k
  case h_2 => exact k.elim
  rename_i l hl;obtain ⟨us, e1, k1⟩ := resLD_ok s' kf hl;exact ⟨tupOf us, by simp only [resP, e1], ψ', S', tupD l, H', x, s', tupD_ok k1, k⟩
 cases r with
 | fail => cases r' <;> exact k1.elim
 | ok fv h' => cases r' with
  | ok fr H' => exact fin fr fv H' h' k1 k2
  | exit => exact k1.elim
  | ret => exact k1.elim
 | ret fv h' => cases r' with
  | ret fr H' => exact fin fr fv H' h' k1 k2
  | exit => exact k1.elim
  | ok => exact k1.elim
 | exit id fv h' => cases r' with
  | exit => exact k2.elim
  | ok => exact k1.elim
  | ret => exact k1.elim
def loopQ (J : FrD → HpD → Prop) (p : Prog) (ext : Ext) (Q : ResD → Prop) (K : List KD) : ResD → Prop
 | .ok fr H => J fr H
 | .exit id fr H => Sem p ext Q (.res (.exit id fr H) K .mk)
 | .ret fr H => Sem p ext Q (.res (.ret fr H) [] .mk)
theorem post_ok {ψ : Nat → Option Nat} {S : Fz} {h : Hp} {H : HpD} {fr : FrD} {fv : Fr} (s : SR p.gl ψ S H h) (k : FrR h ψ S fr fv) {R : ResD → Prop} (hr : R (.ok fr H)) : Post p.gl ψ S h R (.ok fv h) := ⟨.ok fr H, ⟨ψ, S, .refl, s, k⟩, hr⟩
theorem sem_loop {c : KC} {K : List KD} (I : Nat → FrD → HpD → Prop) (hI : ∀ k fr H, I k fr H → Sem p ext (loopQ (fun fr' H' => ∃ k', k' < k ∧ I k' fr' H') p ext Q K) (.code c [] .mk fr H)) {k : Nat} {fr : FrD} {H : HpD} (hi : I k fr H) : Sem p ext Q (.code (.loop c) K .mk fr H) := by
 intro hc hK ψ S h fv P s kf hP;refine ws_loop (fun k fv' h' => ∃ ψ' S' fr' H', Ex h ψ S h' ψ' S' ∧ SR p.gl ψ' S' H' h' ∧ FrR h' ψ' S' fr' fv' ∧ I k fr' H') ?_ (k := k) ⟨ψ, S, fr, H, .refl, s, kf, hi⟩;rintro k1 fv1 h1 ⟨ψ1, S1, fr1, H1, x1, s1, kf1, hi1⟩;refine hI k1 fr1 H1 hi1 hc rfl ψ1 S1 h1 fv1 _ s1 kf1 ?_;rintro r ⟨r', k1', k2⟩
 cases r with
 | fail => cases r' <;> exact k1'.elim
 | ok fv' h' => cases r' with
  | ok fr' H' =>
   obtain ⟨ψ', S', x, s', kf'⟩ := k1';obtain ⟨k', hlt, hi'⟩ := k2;exact ⟨k', hlt, ψ', S', fr', H', x1.trans x, s', kf', hi'⟩
  | exit => exact k1'.elim
  | ret => exact k1'.elim
 | exit id fv' h' => cases r' with
  | exit id' fr' H' =>
   obtain ⟨rfl, ψ', S', x, s', kf'⟩ := k1';exact k2 hK ψ' S' h' fv' P s' kf' fun r hr => hP r (hr.up (x1.trans x))
  | ok => exact k1'.elim
  | ret => exact k1'.elim
 | ret fv' h' => cases r' with
  | ret fr' H' =>
   obtain ⟨ψ', S', x, s', kf'⟩ := k1';exact RK_ret (k2 rfl ψ' S' h' fv' P s' kf' fun r hr => hP r (hr.up (x1.trans x)))
  | ok => exact k1'.elim
  | exit => exact k1'.elim
theorem sem_ok {fr : FrD} {H : HpD} (hq : Q (.ok fr H)) : Sem p ext Q (.res (.ok fr H) [] .mk) := fun _ _ _ _ _ _ s kf hP => hP _ (post_ok s kf hq)
theorem sem_exit {id : Nat} {fr : FrD} {H : HpD} (hq : Q (.exit id fr H)) : Sem p ext Q (.res (.exit id fr H) [] .mk) := fun _ ψ S _ _ _ s kf hP => hP _ ⟨.exit id fr H, ⟨rfl, ψ, S, .refl, s, kf⟩, hq⟩
theorem sem_ret {fr : FrD} {H : HpD} (hq : Q (.ret fr H)) : Sem p ext Q (.res (.ret fr H) [] .mk) := fun _ ψ S _ _ _ s kf hP => hP _ ⟨.ret fr H, ⟨ψ, S, .refl, s, kf⟩, hq⟩
def okQ (J : FrD → HpD → Prop) : ResD → Prop
 | .ok fr H => J fr H
 | _ => False
theorem sem_cut {c : KC} {K : List KD} {fr : FrD} {H : HpD} (J : FrD → HpD → Prop) (h1 : Sem p ext (okQ J) (.code c [] .mk fr H)) (h2 : ∀ fr' H', J fr' H' → Sem p ext Q (.res (.ok fr' H') K .mk)) : Sem p ext Q (.code c K .mk fr H) := by
 intro hc hK ψ S h fv P s kf hP;refine ws_cut (fun fv' h' => ∃ ψ' S' fr' H', Ex h ψ S h' ψ' S' ∧ SR p.gl ψ' S' H' h' ∧ FrR h' ψ' S' fr' fv' ∧ J fr' H') ?_ ?_
 ·refine h1 hc rfl ψ S h fv _ s kf ?_;rintro r ⟨r', k1, k2⟩
  cases r with
  | ok fv' h' => cases r' with
   | ok fr' H' => obtain ⟨ψ', S', x, s', kf'⟩ := k1; exact ⟨ψ', S', fr', H', x, s', kf', k2⟩
   | exit => exact k1.elim
   | ret => exact k1.elim
  | fail => cases r' <;> exact k1.elim
  | exit => cases r' <;> first | exact k1.elim | exact k2.elim
  | ret => cases r' <;> first | exact k1.elim | exact k2.elim
 ·rintro fv' h' ⟨ψ', S', fr', H', x, s', kf', j⟩;exact h2 fr' H' j hK ψ' S' h' fv' P s' kf' fun r hr => hP r (hr.up x)
def Weak (args : List D) (fr : FrD) (H : HpD) (args' : List D) (fr' : FrD) (H' : HpD) : Prop :=
 ∀ (G : Nat → Option (Blk → Prop)) ψ S h fv vs, SR G ψ S H h → FrR h ψ S fr fv → VDl h ψ S args vs → ∃ ψ' S', Ex h ψ S h ψ' S' ∧ SR G ψ' S' H' h ∧ FrR h ψ' S' fr' fv ∧ VDl h ψ' S' args' vs
theorem Weak.refl {a : List D} {fr : FrD} {H : HpD} : Weak a fr H a fr H := fun _ ψ S _ _ _ s k kv => ⟨ψ, S, .refl, s, k, kv⟩
theorem sem_weak {c : KC} {K : List KD} {fr fr' : FrD} {H H' : HpD} (w : Weak [] fr H [] fr' H') (hs : Sem p ext Q (.code c K .mk fr' H')) : Sem p ext Q (.code c K .mk fr H) := by
 intro hc hK ψ S h fv P s kf hP;obtain ⟨ψ', S', x, s', k', _⟩ := w _ ψ S h fv [] s kf (by simp [VDl]);exact hs hc hK ψ' S' h fv P s' k' fun r hr => hP r (hr.up x)
theorem sem_weak_ops {l : List MO} {fz lv : List Nat} {K : List KD} {fr fr' : FrD} {H H' : HpD} (w : Weak [] fr H [] fr' H') (hs : Sem p ext Q (.ops l fz lv K .mk fr' H')) : Sem p ext Q (.ops l fz lv K .mk fr H) := by
 intro hK ψ S h fv P s kf hP;obtain ⟨ψ', S', x, s', k', _⟩ := w _ ψ S h fv [] s kf (by simp [VDl]);exact hs hK ψ' S' h fv P s' k' fun r hr => hP r (hr.up x)
theorem sem_weak_ok {K : List KD} {fr fr' : FrD} {H H' : HpD} (w : Weak [] fr H [] fr' H') (hs : Sem p ext Q (.res (.ok fr' H') K .mk)) : Sem p ext Q (.res (.ok fr H) K .mk) := by
 intro hK ψ S h fv P s kf hP;obtain ⟨ψ', S', x, s', k', _⟩ := w _ ψ S h fv [] s kf (by simp [VDl]);exact hs hK ψ' S' h fv P s' k' fun r hr => hP r (hr.up x)
theorem sem_weak_exit {id : Nat} {K : List KD} {fr fr' : FrD} {H H' : HpD} (w : Weak [] fr H [] fr' H') (hs : Sem p ext Q (.res (.exit id fr' H') K .mk)) : Sem p ext Q (.res (.exit id fr H) K .mk) := by
 intro hK ψ S h fv P s kf hP;obtain ⟨ψ', S', x, s', k', _⟩ := w _ ψ S h fv [] s kf (by simp [VDl]);exact hs hK ψ' S' h fv P s' k' fun r hr => hP r (hr.up x)
theorem sem_weak_ret {K : List KD} {fr fr' : FrD} {H H' : HpD} (w : Weak [] fr H [] fr' H') (hs : Sem p ext Q (.res (.ret fr' H') K .mk)) : Sem p ext Q (.res (.ret fr H) K .mk) := by
 intro hK ψ S h fv P s kf hP;obtain ⟨ψ', S', x, s', k', _⟩ := w _ ψ S h fv [] s kf (by simp [VDl]);exact hs hK ψ' S' h fv P s' k' fun r hr => hP r (hr.up x)
theorem sem_weak_call {f : Nat} {args args' : List D} {dst : Option Nat} {l : List MO} {fz lv : List Nat} {K : List KD} {fr fr' : FrD} {H H' : HpD} (w : Weak args fr H args' fr' H') (hs : Sem p ext Q (.call f args' dst l fz lv K .mk fr' H')) : Sem p ext Q (.call f args dst l fz lv K .mk fr H) := by
 intro hK ψ S h fv vs P s kf kv hP;obtain ⟨ψ', S', x, s', k', kv'⟩ := w _ ψ S h fv vs s kf kv;exact hs hK ψ' S' h fv vs P s' k' kv' fun r hr => hP r (hr.up x)
def WeakV (d : D) (H : HpD) (d' : D) (H' : HpD) : Prop := ∀ (G : Nat → Option (Blk → Prop)) ψ S h v, SR G ψ S H h → VD h ψ S d v → ∃ ψ' S', Ex h ψ S h ψ' S' ∧ SR G ψ' S' H' h ∧ VD h ψ' S' d' v
theorem WeakV.refl {d : D} {H : HpD} : WeakV d H d H := fun _ ψ S _ _ s k => ⟨ψ, S, .refl, s, k⟩
theorem WeakV.trans {d d1 d2 : D} {H H1 H2 : HpD} (x : WeakV d H d1 H1) (y : WeakV d1 H1 d2 H2) : WeakV d H d2 H2 := by
 intro G ψ S h v s k;obtain ⟨ψ1, S1, x1, s1, k1⟩ := x _ ψ S h v s k;obtain ⟨ψ2, S2, x2, s2, k2⟩ := y _ ψ1 S1 h v s1 k1;exact ⟨ψ2, S2, x1.trans x2, s2, k2⟩
theorem WeakV.le {d d' : D} {H : HpD} (l : D.le d d') : WeakV d H d' H := fun _ ψ S _ _ s k => ⟨ψ, S, .refl, s, VD.le _ _ l k⟩
theorem SR.freeze {G : Nat → Option (Blk → Prop)} {ψ : Nat → Option Nat} {S : Fz} {H : HpD} {h : Hp} (s : SR G ψ S H h) {b c : Nat} (hb : ψ b = some c) : Ex h ψ S h ψ (S.add c) ∧ SR G ψ (S.add c) (H.put b .gone) h := by
 have x0 : Ex h ψ S h ψ (S.add c) := ⟨fun _ _ e => e, fun _ k => ⟨.inl k, rfl⟩, rfl⟩;refine ⟨x0, s.inj, s.dom, fun x k => ?_, fun b' hl => ?_, s.glx x0, s.low⟩
 ·rcases k with k | rfl
  ·exact s.frz x k
  ·exact (s.dom b _ hb).2
 ·rw [put_blk] at hl ⊢
  by_cases e : b' = b
  ·subst e; rw [if_pos rfl] at hl; cases hl
  ·rw [if_neg e] at hl ⊢;obtain ⟨c', h1, h2, h3⟩ := s.live b' hl;refine ⟨c', h1, ?_, h3.mono x0⟩;rintro (k | rfl)
   ·exact h2 k
   ·exact e (s.inj _ _ _ h1 hb)
mutual
def frz (b sz n : Nat) (el : List (List D)) : D → D
 | .slice b' o sz' n' cap ex => if b' = b ∧ o = 0 ∧ sz' = sz ∧ n' = n ∧ n ≤ cap then .row sz (if cap = n ∧ ex = true then .c else .p) el else .slice b' o sz' n' cap ex
 | .agg l => .agg (frzs b sz n el l)
 | .tup l => .tup (frzs b sz n el l)
 | .row s m l => .row s m (frzss b sz n el l)
 | d => d
def frzs (b sz n : Nat) (el : List (List D)) : List D → List D
 | [] => []
 | d :: l => frz b sz n el d :: frzs b sz n el l
def frzss (b sz n : Nat) (el : List (List D)) : List (List D) → List (List D)
 | [] => []
 | e :: l => frzs b sz n el e :: frzss b sz n el l
end
theorem frzs_length {b sz n : Nat} {el : List (List D)} : ∀ l : List D, (frzs b sz n el l).length = l.length
 | [] => rfl
 | d :: l => by simp [frzs, frzs_length l]
theorem frzss_length {b sz n : Nat} {el : List (List D)} : ∀ l : List (List D), (frzss b sz n el l).length = l.length
 | [] => rfl
 | d :: l => by simp [frzss, frzss_length l]
section
variable {h : Hp} {ψ : Nat → Option Nat} {S S2 : Fz} {b c sz n : Nat} {el : List (List D)}
mutual
theorem VD.frz (x : Ex h ψ S h ψ S2) (hb : ψ b = some c) (hr : ∀ cap ex, n ≤ cap → VD h ψ S2 (.row sz (if cap = n ∧ ex = true then .c else .p) el) (.slice c 0 sz n cap ex)) : ∀ (d : D) {v : V}, VD h ψ S d v → VD h ψ S2 (frz b sz n el d) v
 | .slice b' o sz' n' cap ex, v, k => by
  simp only [Go.Dv.frz];split
  ·rename_i hh;obtain ⟨rfl, rfl, rfl, rfl, hc⟩ := hh;simp only [VD] at k;obtain ⟨c', e, rfl⟩ := k;rw [hb] at e; cases e;exact hr cap ex hc
  ·exact VD.mono x _ k
 | .agg l, _, k => by
  simp only [Go.Dv.frz, VD] at k ⊢;obtain ⟨v', rfl, k⟩ := k;exact ⟨v', rfl, VDl.frz x hb hr l k⟩
 | .tup l, _, k => by
  simp only [Go.Dv.frz, VD] at k ⊢;obtain ⟨v', rfl, k⟩ := k;exact ⟨v', rfl, VDl.frz x hb hr l k⟩
 | .row s m l, _, k => by
  simp only [Go.Dv.frz, VD] at k ⊢;rcases k with ⟨rfl, rfl⟩ | ⟨b1, o, c1, ex, rfl, h1, h2, k⟩
  ·exact .inl ⟨rfl, rfl⟩
  ·refine .inr ⟨b1, o, c1, ex, by rw [frzss_length], by rw [frzss_length]; exact h1, by rw [frzss_length]; exact h2, ?_⟩;rcases k with ⟨hw, rfl⟩ | ⟨cs, ro, hs, hbk, hp⟩
   ·exact .inl ⟨hw, rfl⟩
   ·exact .inr ⟨cs, ro, (x.at_ hs).1, hbk, VDss.frz x hb hr s l hp⟩
 | .any, _, _ => by simp [Go.Dv.frz, VD]
 | .lit _, _, k => VD.mono x _ k
 | .ptr _ _, _, k => VD.mono x _ k
 | .rptr _ _, _, k => VD.mono x _ k
 | .map _, _, k => VD.mono x _ k
 | .func _ _ _, _, k => VD.mono x _ k
 | .iface _ _, _, k => VD.mono x _ k
theorem VDl.frz (x : Ex h ψ S h ψ S2) (hb : ψ b = some c) (hr : ∀ cap ex, n ≤ cap → VD h ψ S2 (.row sz (if cap = n ∧ ex = true then .c else .p) el) (.slice c 0 sz n cap ex)) : ∀ (l : List D) {vs : List V}, VDl h ψ S l vs → VDl h ψ S2 (frzs b sz n el l) vs
 | [], _, k => by simpa [frzs, VDl] using k
 | d :: l, _, k => by
  simp only [frzs, VDl] at k ⊢;obtain ⟨v, r, rfl, h1, h2⟩ := k;exact ⟨v, r, rfl, VD.frz x hb hr d h1, VDl.frz x hb hr l h2⟩
theorem VDp.frz (x : Ex h ψ S h ψ S2) (hb : ψ b = some c) (hr : ∀ cap ex, n ≤ cap → VD h ψ S2 (.row sz (if cap = n ∧ ex = true then .c else .p) el) (.slice c 0 sz n cap ex)) : ∀ (l : List D) {vs : List V}, VDp h ψ S l vs → VDp h ψ S2 (frzs b sz n el l) vs
 | [], _, _ => by simp [frzs, VDp]
 | d :: l, _, k => by
  simp only [frzs, VDp] at k ⊢;obtain ⟨v, r, rfl, h1, h2⟩ := k;exact ⟨v, r, rfl, VD.frz x hb hr d h1, VDp.frz x hb hr l h2⟩
theorem VDss.frz (x : Ex h ψ S h ψ S2) (hb : ψ b = some c) (hr : ∀ cap ex, n ≤ cap → VD h ψ S2 (.row sz (if cap = n ∧ ex = true then .c else .p) el) (.slice c 0 sz n cap ex)) (s : Nat) : ∀ (l : List (List D)) {vs : List V}, VDss h ψ S s l vs → VDss h ψ S2 s (frzss b sz n el l) vs
 | [], _, _ => by simp [frzss, VDss]
 | e :: l, _, k => by
  simp only [frzss, VDss] at k ⊢;exact ⟨by rw [frzs_length]; exact k.1, VDp.frz x hb hr e k.2.1, VDss.frz x hb hr s l k.2.2⟩
end
end
theorem frz_row {G : Nat → Option (Blk → Prop)} {ψ : Nat → Option Nat} {S : Fz} {H : HpD} {h : Hp} (s : SR G ψ S H h) {b sz : Nat} {el : List (List D)} {ro : Bool} (hb : H.blk b = .cells el.flatten ro) (he : ∀ e, e ∈ el → e.length = sz) :
  ∃ c, ψ b = some c ∧ ∀ cap ex, el.length ≤ cap → VD h ψ (S.add c) (.row sz (if cap = el.length ∧ ex = true then .c else .p) el) (.slice c 0 sz el.length cap ex) := by
 obtain ⟨c, h1, h2, l', h3, h4⟩ : ∃ c, ψ b = some c ∧ ¬ S c ∧ ∃ l', h.blk c = .cells l' ro ∧ VDl h ψ S el.flatten l' := by
  obtain ⟨c, h1, h2, h3⟩ := s.live b (by rw [hb]; rfl);rw [hb] at h3;exact ⟨c, h1, h2, h3⟩
 have x0 := (s.freeze h1).1;refine ⟨c, h1, fun cap ex hc => ?_⟩;simp only [VD];refine .inr ⟨c, 0, cap, ex, rfl, hc, fun e => ?_, .inr ⟨l', ro, by split <;> first | exact Fz.at_c (.inr rfl) | exact Fz.at_p (.inr rfl), h3, ?_⟩⟩
 ·split at e
  ·assumption
  ·cases e
 ·have := VDss.of (us := []) he (VDl.mono x0 _ h4);simpa using this
theorem WeakV.freeze {d : D} {H : HpD} {sz b : Nat} {el : List (List D)} {ro : Bool} (hb : H.blk b = .cells el.flatten ro) (he : ∀ e, e ∈ el → e.length = sz) : WeakV d H (frz b sz el.length el d) (H.put b .gone) := by
 intro G ψ S h v s kv;obtain ⟨c, h1, hr⟩ := frz_row s hb he;obtain ⟨x0, s0⟩ := s.freeze h1;exact ⟨ψ, _, x0, s0, VD.frz x0 h1 hr _ kv⟩
def BD.under (n : Nat) : BD → Prop
 | .cells l _ => D.unders n l
 | .map _ l => ∀ k d, (k, d) ∈ l → d.under n
 | .gone => True
structure Sub (H H' : HpD) : Prop where
 next : H.next ≤ H'.next
 blk : ∀ b, b < H.next → H'.blk b = H.blk b
theorem Sub.refl {H : HpD} : Sub H H := ⟨Nat.le_refl _, fun _ _ => rfl⟩
theorem Sub.trans {H H1 H2 : HpD} (a : Sub H H1) (b : Sub H1 H2) : Sub H H2 := ⟨Nat.le_trans a.next b.next, fun x hx => (b.blk x (Nat.lt_of_lt_of_le hx a.next)).trans (a.blk x hx)⟩
theorem Sub.new {H H1 : HpD} (a : Sub H H1) {x : BD} : Sub H (H1.new x) := ⟨Nat.le_succ_of_le a.next, fun b hb => by rw [new_blk, if_neg, a.blk b hb]; have := a.next; omega⟩
theorem Sub.put {H H1 : HpD} (a : Sub H H1) {b : Nat} {x : BD} (hb : H.next ≤ b) : Sub H (H1.put b x) := ⟨a.next, fun c hc => by rw [put_blk, if_neg (by omega), a.blk c hc]⟩
structure Neat (H : HpD) : Prop where
 gone : ∀ b, H.next ≤ b → H.blk b = .gone
 under : ∀ b, (H.blk b).under H.next
theorem VDm.under {h : Hp} {ψ : Nat → Option Nat} {S : Fz} {n : Nat} (hn : ∀ b c, ψ b = some c → b < n) : ∀ {l : List (V × D)} {vs : List (V × V)}, VDm h ψ S l vs → ∀ k d, (k, d) ∈ l → d.under n
 | [], _, _, _, _, hm => by cases hm
 | (a, w) :: l, _, k, key, d, hm => by
  simp only [VDm] at k;obtain ⟨v, r, rfl, h1, h2⟩ := k;rcases List.mem_cons.1 hm with e | hm
  ·cases e; exact VD.under hn _ h1
  ·exact VDm.under hn h2 key d hm
theorem VDm.cut {h : Hp} {ψ : Nat → Option Nat} {S : Fz} {n : Nat} : ∀ {l : List (V × D)} {vs : List (V × V)}, (∀ k d, (k, d) ∈ l → d.under n) → VDm h ψ S l vs → VDm h (cutE ψ n) S l vs
 | [], _, _, k => k
 | (a, w) :: l, _, hu, k => by
  simp only [VDm] at k ⊢;obtain ⟨v, r, rfl, h1, h2⟩ := k;exact ⟨v, r, rfl, VD.cut _ (hu a w (List.mem_cons_self ..)) h1, VDm.cut (fun k d hm => hu k d (List.mem_cons_of_mem _ hm)) h2⟩
theorem BR.cut {h : Hp} {ψ : Nat → Option Nat} {S : Fz} {n : Nat} : ∀ {x : BD} {y : Blk}, x.under n → BR h ψ S x y → BR h (cutE ψ n) S x y
 | .cells l ro, _, hu, k => by obtain ⟨l', rfl, k⟩ := k; exact ⟨l', rfl, VDl.cut l hu k⟩
 | .map kk l, _, hu, k => by obtain ⟨l', rfl, k⟩ := k; exact ⟨l', rfl, VDm.cut hu k⟩
 | .gone, _, _, _ => trivial
theorem SR.neat {G : Nat → Option (Blk → Prop)} {ψ : Nat → Option Nat} {S : Fz} {H : HpD} {h : Hp} (s : SR G ψ S H h) : Neat H := by
 have hn : ∀ b c, ψ b = some c → b < H.next := fun b c e => (s.dom b c e).1;refine ⟨fun b hb => ?_, fun b => ?_⟩
 ·cases e : (H.blk b).isGone with
  | false => obtain ⟨c, h1, _⟩ := s.live b e; have := hn b c h1; omega
  | true => cases e2 : H.blk b with
   | gone => rfl
   | cells => rw [e2] at e; cases e
   | map => rw [e2] at e; cases e
 ·cases e : H.blk b with
  | gone => trivial
  | cells l ro =>
   obtain ⟨c, h1, h2, h3⟩ := s.live b (by rw [e]; rfl);rw [e] at h3;obtain ⟨l', _, k⟩ := h3;exact VDl.under hn l k
  | map kk l =>
   obtain ⟨c, h1, h2, h3⟩ := s.live b (by rw [e]; rfl);rw [e] at h3;obtain ⟨l', _, k⟩ := h3;exact VDm.under hn k
theorem SR.cut {G : Nat → Option (Blk → Prop)} {ψ : Nat → Option Nat} {S : Fz} {H H1 : HpD} {h : Hp} (s : SR G ψ S H1 h) (hs : Sub H H1) (hn : Neat H) : SR G (cutE ψ H.next) S H h := by
 refine ⟨fun b b' c h1 h2 => ?_, fun b c e => ?_, s.frz, fun b hl => ?_, s.gl, s.low.1, fun b c e => s.low.2 b c (cutE_some.1 e).2⟩
 ·rw [cutE_some] at h1 h2; exact s.inj _ _ _ h1.2 h2.2
 ·rw [cutE_some] at e; exact ⟨e.1, (s.dom _ _ e.2).2⟩
 ·have hb : b < H.next := by
   refine Nat.lt_of_not_le fun hh => ?_;rw [hn.gone b hh] at hl; cases hl
  obtain ⟨c, h1, h2, h3⟩ := s.live b (by rw [hs.blk b hb]; exact hl);rw [hs.blk b hb] at h3;exact ⟨c, cutE_some.2 ⟨hb, h1⟩, h2, h3.cut (hn.under b)⟩
theorem WcD.drop {f : Nat} {args : List D} {H : HpD} {R : D → HpD → Prop} (hw : WcD p ext f args H fun d H' => ∃ d2 H2, WeakV d H' d2 H2 ∧ Sub H H2 ∧ d2.under H.next ∧ R d2 H) : WcD p ext f args H R := by
 intro ψ S h vs s k;refine (hw ψ S h vs s k).mono ?_;rintro v h' ⟨ψ', S', d, H', x, s', kd, d2, H2, w, sub, hu, r⟩;obtain ⟨ψ2, S2, x2, s2, k2⟩ := w _ ψ' S' h' v s' kd;refine ⟨cutE ψ2 H.next, S2, d2, H, ⟨fun b c e => cutE_some.2 ⟨(s.dom b c e).1, (x.trans x2).emb b c e⟩, (x.trans x2).frz, (x.trans x2).thr⟩, s2.cut sub s.neat, VD.cut _ hu k2, r⟩
theorem WcD.cut {f : Nat} {args : List D} {H : HpD} {R : D → HpD → Prop} (hw : WcD p ext f args H fun d H' => ∃ d2 H2 H3, WeakV d H' d2 H2 ∧ Sub H3 H2 ∧ H.next ≤ H3.next ∧ (Neat H → Neat H3) ∧ d2.under H3.next ∧ R d2 H3) : WcD p ext f args H R := by
 intro ψ S h vs s k;refine (hw ψ S h vs s k).mono ?_;rintro v h' ⟨ψ', S', d, H', x, s', kd, d2, H2, H3, w, sub, hle, hn, hu, r⟩;obtain ⟨ψ2, S2, x2, s2, k2⟩ := w _ ψ' S' h' v s' kd;refine ⟨cutE ψ2 H3.next, S2, d2, H3, ⟨fun b c e => cutE_some.2 ⟨Nat.lt_of_lt_of_le (s.dom b c e).1 hle, (x.trans x2).emb b c e⟩, (x.trans x2).frz, (x.trans x2).thr⟩, s2.cut sub (hn s.neat), VD.cut _ hu k2, r⟩
def FnD (p : Prog) (ext : Ext) (f : Nat) (args : List D) (d : D) : Prop := ∀ H, WcD p ext f args H fun d' H' => d' = d ∧ H' = H
theorem sem_fn {f : Nat} {args args' : List D} {d : D} (hf : FnD p ext f args' d) {dst : Option Nat} {l : List MO} {fz lv : List Nat} {K : List KD} {fr : FrD} {H : HpD} (ha : D.les args args') (hs : Sem p ext Q (.ops l fz lv K .mk (putD fr dst d) H)) : Sem p ext Q (.call f args dst l fz lv K .mk fr H) :=
 sem_call ((hf H).args ha) fun _ _ ⟨e1, e2⟩ => by rw [e1, e2]; exact hs
theorem sem_dfn {f : Nat} {args args' : List D} {d : D} (hf : FnD p ext f args' d) {dst : Option Nat} {l : List DO} {lv : List Nat} {K : List KD} {i : Nat} {cs : List (Nat × List Nat)} {ws : List (Nat × Nat)} {pst : List (Nat × HpD)} {fr : FrD} {H : HpD} (ha : D.les args args')
  (hs : Sem p ext Q (.dops l lv K ((i + 1, []) :: dirtyN dst cs) ws .mk (i + 1) H.next ((i + 1, H) :: pst) (putD fr dst d) H)) : Sem p ext Q (.dcall f args dst l lv K cs ws .mk i pst fr H) :=
 sem_dcall ((hf H).args ha) fun _ _ ⟨e1, e2⟩ => by rw [e1, e2]; exact hs
end
end Go.Dv
end

section
namespace Go.Vm
open Go.RowKit
variable {P : Program}
end Go.Vm
end

section
namespace Go.Dv
open Go.Vm Go.RowKit
variable {P : Program}
def argD : Arg → D
 | .int k n => .lit (.int k n)
 | .bool b => .lit (.bool b)
 | .nums k xs => .row 1 .w (xs.map fun x => [.lit (.int k x)])
def argOk : Arg → Prop
 | .int k n => (Lit.int k n).wf = true
 | .bool _ => True
 | .nums k xs => (∀ x, x ∈ xs → (Lit.int k x).wf = true) ∧ xs.length ≤ maxLen
def H00 : HpD := ⟨0, fun _ => .gone⟩
def Fz.all (h : Hp) : Fz := ⟨fun x => x < h.next, 0⟩
theorem SR.start {h : Hp} {G : Nat → Option (Blk → Prop)} (hg : ∀ c y, G c = some y → c < h.next ∧ y (h.blk c)) : SR G (fun _ => none) (Fz.all h) H00 h :=
 ⟨fun _ _ _ e => (by cases e), fun _ _ e => (by cases e), fun _ k => k, fun b hl => (by cases hl), hg, Nat.zero_le _, fun _ _ _ => Nat.zero_le _⟩
theorem nums_ok {h : Hp} {ψ : Nat → Option Nat} {S : Fz} {j : IntKind} : ∀ {xs : List Int} {cs : List V}, (∀ (i : Nat) (x : Int), xs[i]? = some x → cs[i]? = some (V.int j x)) → VDss h ψ S 1 (xs.map fun x => [.lit (.int j x)]) cs
 | [], _, _ => by simp [VDss]
 | x :: xs, cs, hc => by
  have h0 := hc 0 x rfl
  cases cs with
  | nil => simp at h0
  | cons c cs =>
   simp at h0;subst h0;simp only [List.map_cons, VDss, VDp, List.length_singleton, List.drop_succ_cons, List.drop_zero];exact ⟨trivial, ⟨_, _, rfl, by simp [VD, atomV], trivial⟩, nums_ok fun i y hy => by have := hc (i + 1) y (by simpa using hy); simpa using this⟩
theorem argD_ok {h : Hp} {a : Arg} {v : V} (k : ArgV h a v) : VD h (fun _ => none) (Fz.all h) (argD a) v ∧ argOk a := by
 cases a with
 | int k n => obtain ⟨rfl, hw⟩ := k; exact ⟨by simp [argD, VD, atomV], hw⟩
 | bool b => have : v = .bool b := k; subst this; exact ⟨by simp [argD, VD, atomV], trivial⟩
 | nums j xs =>
  obtain ⟨k1, k2, k3, k4⟩ := k;refine ⟨?_, k2, k3⟩;simp only [argD, VD];rcases k1 with ⟨h1, rfl⟩ | ⟨b, o, c, ex, l, ro, rfl, h1, h2, h3⟩
  ·rcases h1 with rfl | ⟨b, o, c, ex, rfl⟩
   ·exact .inl ⟨rfl, rfl⟩
   ·exact .inr ⟨b, o, c, ex, rfl, Nat.zero_le _, fun e => (by cases e), .inl ⟨trivial, rfl⟩⟩
  ·refine .inr ⟨b, o, c, ex, by simp, by simpa using h2, fun e => (by cases e), .inr ⟨l, ro, Fz.at_w (k4 b rfl), h1, ?_⟩⟩
   exact nums_ok fun i x hx => by rw [List.getElem?_drop]; exact h3 i x hx
theorem argsOk {h : Hp} : ∀ {as : List Arg} {vs : List V}, ArgsV h as vs → VDl h (fun _ => none) (Fz.all h) (as.map argD) vs ∧ ∀ a, a ∈ as → argOk a
 | [], _, .nil => ⟨by simp [VDl], fun _ hm => by cases hm⟩
 | a :: as, _, .cons ha has => by
  obtain ⟨k1, k2⟩ := argD_ok ha;obtain ⟨k3, k4⟩ := argsOk has;refine ⟨by simp only [List.map_cons, VDl]; exact ⟨_, _, rfl, k1, k3⟩, fun x hx => ?_⟩;rcases List.mem_cons.1 hx with rfl | hx
  ·exact k2
  ·exact k4 x hx
theorem top_dv (hm : P.follows .mixedOrders = true) {p : Prog} (hp : Valid P p) {ext : Go.Vm.Ext} (hrx : Rises ext) (hx : CallOk P p.env ext) (htab : p.env.tab = []) (hints : IntsOk P p.env.ints) (hgl : p.gl = fun _ => none)
  {f : Nat} (hen : entered P f = true) {ts : List TypeId} {ks : List ArgK} (hks : KindsOk P ts ks)
  (hw : ∀ as : List Arg, as.map Arg.kind = ks → (∀ a, a ∈ as → argOk a) → WcD p ext f (as.map argD) H00 fun d _ => d = .lit (.bool true))
  {H : Type} {enc : TypeId × Value → H} {w : World} {r : Reach} {b0 : Nat} {us : List Value} {ds : List (DataW H)} {ps : List MemPlace}
  (hval : ∀ (j : Nat) t u, ts[j]? = some t → us[j]? = some u → Value.okWide P w r b0 t u) (hd : DataW.TrodAll enc P w 0 (fun _ => true) true ts us ds ps) :
  Calls P f us.toArray w fun e w' => e = .returned (.bool true) ∧ Below w.heap.size w w' := by
 refine top_args hm hp hrx hx htab hints hen hks (fun h as vs e ha _ => ?_) hval hd;obtain ⟨k1, k2⟩ := argsOk ha;refine (hw as e k2 _ _ h vs (SR.start fun c y e => by rw [hgl] at e; cases e) k1).mono ?_;rintro v h' ⟨_, _, d, _, _, _, k, rfl⟩;simp only [VD] at k;exact k.1
end Go.Dv
end

section
namespace Go.Dv
open Go.Vm
def pickO (c : D) (a b : D) : Option D := match c with
 | .lit (.bool t) => some (pickD t a b)
 | _ => none
section
variable {env : Env} {n : Nat} {K : List KD} {fr : FrD} {H : HpD} {fz lv : List Nat} {l : List MO} {d : Option Nat}
theorem run_skip : run env (n + 1) (.code .skip K .mk fr H) = run env n (.res (.ok fr H) K .mk) := by rw [run_eq]; rfl
theorem run_region : run env (n + 1) (.code (.region l fz lv) K .mk fr H) = run env n (.ops l fz lv K .mk fr H) := by rw [run_eq]; rfl
theorem run_dregion {l : List DO} : run env (n + 1) (.code (.dregion l lv) K .mk fr H) = run env n (.dops l lv K [(0, [])] [] .mk 0 H.next [(0, H)] fr H) := by rw [run_eq]; rfl
theorem run_seq {a b : KC} : run env (n + 1) (.code (.seq a b) K .mk fr H) = run env n (.code a (.seq b :: K) .mk fr H) := by rw [run_eq]; rfl
theorem run_cond {c : Opd} {a b : KC} : run env (n + 1) (.code (.cond c a b) K .mk fr H) = boolC (evD fr c) (run env n (.code a K .mk fr H)) (run env n (.code b K .mk fr H)) := by rw [run_eq]; rfl
theorem run_block {id : Nat} {c : KC} : run env (n + 1) (.code (.block id c) K .mk fr H) = run env n (.code c (.block id :: K) .mk fr H) := by rw [run_eq]; rfl
theorem run_loop {c : KC} : run env (n + 1) (.code (.loop c) K .mk fr H) = .code (.loop c) K .mk fr H := by rw [run_eq]; rfl
theorem run_exit {id : Nat} : run env (n + 1) (.code (.exit id) K .mk fr H) = run env n (.res (.exit id fr H) K .mk) := by rw [run_eq]; rfl
theorem run_exit_seq {id : Nat} {b : KC} : run env (n + 1) (.res (.exit id fr H) (.seq b :: K) .mk) = run env n (.res (.exit id fr H) K .mk) := by rw [run_eq]; rfl
theorem run_exit_block {id id' : Nat} : run env (n + 1) (.res (.exit id fr H) (.block id' :: K) .mk) = exitC (decide (id = id')) (run env n (.res (.ok fr H) K .mk)) (run env n (.res (.exit id fr H) K .mk)) := by rw [run_eq, ← nbeq_d]; rfl
theorem exitC_t {a b : Cfg} : exitC true a b = a := rfl
theorem exitC_f {a b : Cfg} : exitC false a b = b := rfl
theorem run_ret : run env (n + 1) (.code .ret K .mk fr H) = .res (.ret fr H) [] .mk := by rw [run_eq]; rfl
theorem run_ok_seq {b : KC} : run env (n + 1) (.res (.ok fr H) (.seq b :: K) .mk) = run env n (.code b K .mk fr H) := by rw [run_eq]; rfl
theorem run_ok_block {id : Nat} : run env (n + 1) (.res (.ok fr H) (.block id :: K) .mk) = run env n (.res (.ok fr H) K .mk) := by rw [run_eq]; rfl
theorem run_ok_nil : run env (n + 1) (.res (.ok fr H) [] .mk) = .res (.ok fr H) [] .mk := by rw [run_eq]; rfl
theorem run_res_exit {id : Nat} : run env (n + 1) (.res (.exit id fr H) [] .mk) = .res (.exit id fr H) [] .mk := by rw [run_eq]; rfl
theorem run_ops_nil : run env (n + 1) (.ops [] fz lv K .mk fr H) = run env n (.res (.ok (keep lv fr) H) K .mk) := by rw [run_eq]; rfl
theorem run_guard {o : MOp} {t : Nat} {w : Bool} : run env (n + 1) (.ops (⟨d, o, some (t, w)⟩ :: l) fz lv K .mk fr H) = gateC (lk fr t) w (run env n (.ops (⟨d, o, none⟩ :: l) fz lv K .mk fr H)) (run env n (.ops l fz lv K .mk (putD fr d (.tup [])) H)) := by rw [run_eq]; rfl
theorem run_mov {x : Opd} : run env (n + 1) (.ops (⟨d, .p (.mov x), none⟩ :: l) fz lv K .mk fr H) = run env n (.ops l fz lv K .mk (putD fr d (evD fr x)) H) := by rw [run_eq]; rfl
theorem run_pick {x y z : Opd} : run env (n + 1) (.ops (⟨d, .p (.pick x y z), none⟩ :: l) fz lv K .mk fr H) = optC (pickO (evD fr x) (evD fr y) (evD fr z)) fun r => run env n (.ops l fz lv K .mk (putD fr d r) H) := by rw [run_eq]; rfl
theorem run_build {c : List V} {ps : List (Nat × Nat × Opd)} : run env (n + 1) (.ops (⟨d, .p (.build c ps), none⟩ :: l) fz lv K .mk fr H) = optC (aggD (fillD (dVs c) (evPartsD fr ps))) fun r => run env n (.ops l fz lv K .mk (putD fr d r) H) := by rw [run_eq]; rfl
theorem run_nilchk {x : Opd} : run env (n + 1) (.ops (⟨d, .p (.nilchk x), none⟩ :: l) fz lv K .mk fr H) = optC (nilchkD (evD fr x)) fun r => run env n (.ops l fz lv K .mk (putD fr d r) H) := by rw [run_eq]; rfl
theorem run_bin {op : BinOp} {x y : Opd} : run env (n + 1) (.ops (⟨d, .p (.bin op x y), none⟩ :: l) fz lv K .mk fr H) = optC (binD env.tab op (evD fr x) (evD fr y)) fun r => run env n (.ops l fz lv K .mk (putD fr d r) H) := by rw [run_eq]; rfl
theorem run_eq_ptr {neg : Bool} {x y : Opd} : run env (n + 1) (.ops (⟨d, .p (.eq .ptr neg x y), none⟩ :: l) fz lv K .mk fr H) = optC (eqD .ptr neg (evD fr x) (evD fr y)) fun r => run env n (.ops l fz lv K .mk (putD fr d r) H) := by rw [run_eq]; rfl
theorem run_eq_struct {fs : List (Nat × Option Nat × ETy)} {neg : Bool} {x y : Opd} : run env (n + 1) (.ops (⟨d, .p (.eq (.struct fs) neg x y), none⟩ :: l) fz lv K .mk fr H) = optC (eqD (.struct fs) neg (evD fr x) (evD fr y)) fun r => run env n (.ops l fz lv K .mk (putD fr d r) H) := by rw [run_eq]; rfl
theorem run_not {x : Opd} : run env (n + 1) (.ops (⟨d, .p (.not x), none⟩ :: l) fz lv K .mk fr H) = optC (lit1 notV (evD fr x)) fun r => run env n (.ops l fz lv K .mk (putD fr d r) H) := by rw [run_eq]; rfl
theorem run_conv {c : CTy} {x : Opd} : run env (n + 1) (.ops (⟨d, .p (.conv c x), none⟩ :: l) fz lv K .mk fr H) = optC (lit1 (convV c) (evD fr x)) fun r => run env n (.ops l fz lv K .mk (putD fr d r) H) := by rw [run_eq]; rfl
theorem run_mkfunc {f : Nat} {a c : List Opd} : run env (n + 1) (.ops (⟨d, .p (.mkfunc f a c), none⟩ :: l) fz lv K .mk fr H) = run env n (.ops l fz lv K .mk (putD fr d (.func f (evsD fr a) (evsD fr c))) H) := by rw [run_eq]; rfl
theorem run_slc {sz : Nat} {x : Opd} {a b c : Option Opd} : run env (n + 1) (.ops (⟨d, .p (.slc sz x a b c), none⟩ :: l) fz lv K .mk fr H) = optC (slcD sz (evD fr x) (evoD fr a) (evoD fr b) (evoD fr c)) fun r => run env n (.ops l fz lv K .mk (putD fr d r) H) := by rw [run_eq]; rfl
theorem run_faddr {off : Nat} {x : Opd} : run env (n + 1) (.ops (⟨d, .p (.faddr off x), none⟩ :: l) fz lv K .mk fr H) = optC (faddrD off (evD fr x)) fun r => run env n (.ops l fz lv K .mk (putD fr d r) H) := by rw [run_eq]; rfl
theorem run_field1 {off : Nat} {x : Opd} : run env (n + 1) (.ops (⟨d, .p (.field1 off x), none⟩ :: l) fz lv K .mk fr H) = optC (field1D off (evD fr x)) fun r => run env n (.ops l fz lv K .mk (putD fr d r) H) := by rw [run_eq]; rfl
theorem run_iaddr {sz : Nat} {x y : Opd} : run env (n + 1) (.ops (⟨d, .p (.iaddr sz x y), none⟩ :: l) fz lv K .mk fr H) = optC (iaddrD sz (evD fr x) (evD fr y)) fun r => run env n (.ops l fz lv K .mk (putD fr d r) H) := by rw [run_eq]; rfl
theorem run_idxs {x y : Opd} : run env (n + 1) (.ops (⟨d, .p (.idxs x y), none⟩ :: l) fz lv K .mk fr H) = optC (idxsD (evD fr x) (evD fr y)) fun r => run env n (.ops l fz lv K .mk (putD fr d r) H) := by rw [run_eq]; rfl
theorem run_ext {x : Opd} {j : Nat} : run env (n + 1) (.ops (⟨d, .p (.ext x j), none⟩ :: l) fz lv K .mk fr H) = optC (extD j (evD fr x)) fun r => run env n (.ops l fz lv K .mk (putD fr d r) H) := by rw [run_eq]; rfl
theorem run_lens {x : Opd} : run env (n + 1) (.ops (⟨d, .p (.lens x), none⟩ :: l) fz lv K .mk fr H) = optC (lit1 lensV (evD fr x)) fun r => run env n (.ops l fz lv K .mk (putD fr d r) H) := by rw [run_eq]; rfl
theorem run_lenb {x : Opd} : run env (n + 1) (.ops (⟨d, .p (.lenb x), none⟩ :: l) fz lv K .mk fr H) = optC (lenbD (evD fr x)) fun r => run env n (.ops l fz lv K .mk (putD fr d r) H) := by rw [run_eq]; rfl
theorem run_caps {x : Opd} : run env (n + 1) (.ops (⟨d, .p (.caps x), none⟩ :: l) fz lv K .mk fr H) = optC (capsD (evD fr x)) fun r => run env n (.ops l fz lv K .mk (putD fr d r) H) := by rw [run_eq]; rfl
theorem run_min {xs : List Opd} : run env (n + 1) (.ops (⟨d, .p (.min xs), none⟩ :: l) fz lv K .mk fr H) = optC (foldD (min2V env.tab) (evsD fr xs)) fun r => run env n (.ops l fz lv K .mk (putD fr d r) H) := by rw [run_eq]; rfl
theorem run_max {xs : List Opd} : run env (n + 1) (.ops (⟨d, .p (.max xs), none⟩ :: l) fz lv K .mk fr H) = optC (foldD (max2V env.tab) (evsD fr xs)) fun r => run env n (.ops l fz lv K .mk (putD fr d r) H) := by rw [run_eq]; rfl
theorem run_eq_slice {neg : Bool} {x y : Opd} : run env (n + 1) (.ops (⟨d, .p (.eq .slice neg x y), none⟩ :: l) fz lv K .mk fr H) = nilC (evD fr x) (evD fr y) fun r => run env n (.ops l fz lv K .mk (putD fr d (.lit (.bool (cond neg (!r) r)))) H) := by rw [run_eq]; rfl
theorem run_a {o : AOp} : run env (n + 1) (.ops (⟨d, .a o, none⟩ :: l) fz lv K .mk fr H) = optH (aD fr H (inL d fz) o) fun x H' => run env n (.ops l fz lv K .mk (putD fr d x) H') := by rw [run_eq]; rfl
theorem run_load1 {x : Opd} : run env (n + 1) (.ops (⟨d, .load1 x, none⟩ :: l) fz lv K .mk fr H) = optC (loadD H (evD fr x)) fun x => run env n (.ops l fz lv K .mk (putD fr d x) H) := by rw [run_eq]; rfl
theorem run_loadn {x : Opd} {m : Nat} : run env (n + 1) (.ops (⟨d, .loadn m x, none⟩ :: l) fz lv K .mk fr H) = optC (loadnD H m (evD fr x)) fun x => run env n (.ops l fz lv K .mk (putD fr d x) H) := by rw [run_eq]; rfl
theorem run_call {f : Nat} {a : List Opd} : run env (n + 1) (.ops (⟨d, .e (.call f a), none⟩ :: l) fz lv K .mk fr H) = .call f (evsD fr a) d l fz lv K .mk fr H := by rw [run_eq]; rfl
theorem run_extern {f : Nat} {a : List Opd} : run env (n + 1) (.ops (⟨d, .e (.extern f a), none⟩ :: l) fz lv K .mk fr H) = .call f (evsD fr a) d l fz lv K .mk fr H := by rw [run_eq]; rfl
theorem run_callv {x : Opd} {a : List Opd} : run env (n + 1) (.ops (⟨d, .e (.callv x a), none⟩ :: l) fz lv K .mk fr H) = funC (evD fr x) fun f fi ca => .call f (fi ++ evsD fr a ++ ca) d l fz lv K .mk fr H := by rw [run_eq]; rfl
theorem run_store {sz : Nat} {a x : Opd} : run env (n + 1) (.ops (⟨d, .e (.store sz a x), none⟩ :: l) fz lv K .mk fr H) = optH (storeD H sz (evD fr a) (evD fr x)) fun x H' => run env n (.ops l fz lv K .mk (putD fr d x) H') := by rw [run_eq]; rfl
theorem run_append {sz b : Nat} {a x : Opd} : run env (n + 1) (.ops (⟨d, .e (.append sz b a x), none⟩ :: l) fz lv K .mk fr H) = optH (appendD sz b H (evD fr a) (evD fr x)) fun x H' => run env n (.ops l fz lv K .mk (putD fr d x) H') := by rw [run_eq]; rfl
theorem run_lookup {sk : Bool} {z : V} {ok : Bool} {m k : Opd} : run env (n + 1) (.ops (⟨d, .e (.lookup sk z ok m k), none⟩ :: l) fz lv K .mk fr H) = optH (lookupD H sk z ok (evD fr m) (evD fr k)) fun x H' => run env n (.ops l fz lv K .mk (putD fr d x) H') := by rw [run_eq]; rfl
theorem run_delete {sk : Bool} {m k : Opd} : run env (n + 1) (.ops (⟨d, .e (.delete sk m k), none⟩ :: l) fz lv K .mk fr H) = optH (mapdelD H sk (evD fr m) (evD fr k)) fun x H' => run env n (.ops l fz lv K .mk (putD fr d x) H') := by rw [run_eq]; rfl
variable {l : List DO} {i lo hi nx : Nat} {cs : List (Nat × List Nat)} {ws : List (Nat × Nat)} {pst : List (Nat × HpD)}
theorem run_d_nil : run env (n + 1) (.dops [] lv K cs ws .mk i nx pst fr H) = run env n (.res (.ok (keep lv fr) H) K .mk) := by rw [run_eq]; rfl
theorem run_d_guard {o : MOp} {t : Nat} {w : Bool} : run env (n + 1) (.dops (⟨⟨d, o, some (t, w)⟩, lo, hi⟩ :: l) lv K cs ws .mk i nx pst fr H) = gateC (lk fr t) w (run env n (.dops (⟨⟨d, o, none⟩, lo, hi⟩ :: l) lv K cs ws .mk i nx pst fr H))
   (run env n (.dops l lv K (dirtyO d o i cs) (addWin o lo hi ws) .mk (i + 1) (bif isE o then H.next else nx) (bif isE o then (i + 1, H) :: pst else pst) (putD fr d (.tup [])) H)) := by rw [run_eq]; rfl
theorem run_d_mov {x : Opd} : run env (n + 1) (.dops (⟨⟨d, .p (.mov x), none⟩, lo, hi⟩ :: l) lv K cs ws .mk i nx pst fr H) = run env n (.dops l lv K (dirtyP d (.mov x) cs) ws .mk (i + 1) nx pst (putD fr d (evD fr x)) H) := by rw [run_eq]; rfl
theorem run_d_pick {x y z : Opd} : run env (n + 1) (.dops (⟨⟨d, .p (.pick x y z), none⟩, lo, hi⟩ :: l) lv K cs ws .mk i nx pst fr H) = optC (pickO (evD fr x) (evD fr y) (evD fr z)) fun r => run env n (.dops l lv K (dirtyP d (.pick x y z) cs) ws .mk (i + 1) nx pst (putD fr d r) H) := by rw [run_eq]; rfl
theorem run_d_build {c : List V} {ps : List (Nat × Nat × Opd)} : run env (n + 1) (.dops (⟨⟨d, .p (.build c ps), none⟩, lo, hi⟩ :: l) lv K cs ws .mk i nx pst fr H) = optC (aggD (fillD (dVs c) (evPartsD fr ps))) fun r => run env n (.dops l lv K (dirtyP d (.build c ps) cs) ws .mk (i + 1) nx pst (putD fr d r) H) := by rw [run_eq]; rfl
theorem run_d_nilchk {x : Opd} : run env (n + 1) (.dops (⟨⟨d, .p (.nilchk x), none⟩, lo, hi⟩ :: l) lv K cs ws .mk i nx pst fr H) = optC (nilchkD (evD fr x)) fun r => run env n (.dops l lv K (dirtyP d (.nilchk x) cs) ws .mk (i + 1) nx pst (putD fr d r) H) := by rw [run_eq]; rfl
theorem run_d_bin {op : BinOp} {x y : Opd} : run env (n + 1) (.dops (⟨⟨d, .p (.bin op x y), none⟩, lo, hi⟩ :: l) lv K cs ws .mk i nx pst fr H) = optC (binD env.tab op (evD fr x) (evD fr y)) fun r => run env n (.dops l lv K (dirtyP d (.bin op x y) cs) ws .mk (i + 1) nx pst (putD fr d r) H) := by rw [run_eq]; rfl
theorem run_d_not {x : Opd} : run env (n + 1) (.dops (⟨⟨d, .p (.not x), none⟩, lo, hi⟩ :: l) lv K cs ws .mk i nx pst fr H) = optC (lit1 notV (evD fr x)) fun r => run env n (.dops l lv K (dirtyP d (.not x) cs) ws .mk (i + 1) nx pst (putD fr d r) H) := by rw [run_eq]; rfl
theorem run_d_conv {c : CTy} {x : Opd} : run env (n + 1) (.dops (⟨⟨d, .p (.conv c x), none⟩, lo, hi⟩ :: l) lv K cs ws .mk i nx pst fr H) = optC (lit1 (convV c) (evD fr x)) fun r => run env n (.dops l lv K (dirtyP d (.conv c x) cs) ws .mk (i + 1) nx pst (putD fr d r) H) := by rw [run_eq]; rfl
theorem run_d_faddr {off : Nat} {x : Opd} : run env (n + 1) (.dops (⟨⟨d, .p (.faddr off x), none⟩, lo, hi⟩ :: l) lv K cs ws .mk i nx pst fr H) = optC (faddrD off (evD fr x)) fun r => run env n (.dops l lv K (dirtyP d (.faddr off x) cs) ws .mk (i + 1) nx pst (putD fr d r) H) := by rw [run_eq]; rfl
theorem run_d_field1 {off : Nat} {x : Opd} : run env (n + 1) (.dops (⟨⟨d, .p (.field1 off x), none⟩, lo, hi⟩ :: l) lv K cs ws .mk i nx pst fr H) = optC (field1D off (evD fr x)) fun r => run env n (.dops l lv K (dirtyP d (.field1 off x) cs) ws .mk (i + 1) nx pst (putD fr d r) H) := by rw [run_eq]; rfl
theorem run_d_iaddr {sz : Nat} {x y : Opd} : run env (n + 1) (.dops (⟨⟨d, .p (.iaddr sz x y), none⟩, lo, hi⟩ :: l) lv K cs ws .mk i nx pst fr H) = optC (iaddrD sz (evD fr x) (evD fr y)) fun r => run env n (.dops l lv K (dirtyP d (.iaddr sz x y) cs) ws .mk (i + 1) nx pst (putD fr d r) H) := by rw [run_eq]; rfl
theorem run_d_ext {x : Opd} {j : Nat} : run env (n + 1) (.dops (⟨⟨d, .p (.ext x j), none⟩, lo, hi⟩ :: l) lv K cs ws .mk i nx pst fr H) = optC (extD j (evD fr x)) fun r => run env n (.dops l lv K (dirtyP d (.ext x j) cs) ws .mk (i + 1) nx pst (putD fr d r) H) := by rw [run_eq]; rfl
theorem run_d_lenb {x : Opd} : run env (n + 1) (.dops (⟨⟨d, .p (.lenb x), none⟩, lo, hi⟩ :: l) lv K cs ws .mk i nx pst fr H) = optC (lenbD (evD fr x)) fun r => run env n (.dops l lv K (dirtyP d (.lenb x) cs) ws .mk (i + 1) nx pst (putD fr d r) H) := by rw [run_eq]; rfl
theorem run_d_min {xs : List Opd} : run env (n + 1) (.dops (⟨⟨d, .p (.min xs), none⟩, lo, hi⟩ :: l) lv K cs ws .mk i nx pst fr H) = optC (foldD (min2V env.tab) (evsD fr xs)) fun r => run env n (.dops l lv K (dirtyP d (.min xs) cs) ws .mk (i + 1) nx pst (putD fr d r) H) := by rw [run_eq]; rfl
theorem run_d_max {xs : List Opd} : run env (n + 1) (.dops (⟨⟨d, .p (.max xs), none⟩, lo, hi⟩ :: l) lv K cs ws .mk i nx pst fr H) = optC (foldD (max2V env.tab) (evsD fr xs)) fun r => run env n (.dops l lv K (dirtyP d (.max xs) cs) ws .mk (i + 1) nx pst (putD fr d r) H) := by rw [run_eq]; rfl
theorem run_d_a {o : AOp} : run env (n + 1) (.dops (⟨⟨d, .a o, none⟩, lo, hi⟩ :: l) lv K cs ws .mk i nx pst fr H) = optH (aD fr H false o) fun x H' => run env n (.dops l lv K (dirtyN d cs) ws .mk (i + 1) nx pst (putD fr d x) H') := by rw [run_eq]; rfl
theorem run_d_load1 {x : Opd} : run env (n + 1) (.dops (⟨⟨d, .load1 x, none⟩, lo, hi⟩ :: l) lv K cs ws .mk i nx pst fr H) = optC (loadD H (evD fr x)) fun y => cleanC pst.tail (lo, hi) (tmpO x) cs.tail (oldC nx lo hi pst (fun H => loadD H (evD fr x)) y (evD fr x) (run env n (.dops l lv K (dirtyR d x (isR (evD fr x)) cs) ((lo, hi) :: ws) .mk (i + 1) nx pst (putD fr d y) H))) := by rw [run_eq]; rfl
theorem run_d_loadn {x : Opd} {m : Nat} : run env (n + 1) (.dops (⟨⟨d, .loadn m x, none⟩, lo, hi⟩ :: l) lv K cs ws .mk i nx pst fr H) = optC (loadnD H m (evD fr x)) fun y => cleanC pst.tail (lo, hi) (tmpO x) cs.tail (oldC nx lo hi pst (fun H => loadnD H m (evD fr x)) y (evD fr x) (run env n (.dops l lv K (dirtyR d x (isR (evD fr x)) cs) ((lo, hi) :: ws) .mk (i + 1) nx pst (putD fr d y) H))) := by rw [run_eq]; rfl
theorem run_d_call {f : Nat} {a : List Opd} : run env (n + 1) (.dops (⟨⟨d, .e (.call f a), none⟩, lo, hi⟩ :: l) lv K cs ws .mk i nx pst fr H) = .dcall f (evsD fr a) d l lv K cs ws .mk i pst fr H := by rw [run_eq]; rfl
theorem run_d_callv {x : Opd} {a : List Opd} : run env (n + 1) (.dops (⟨⟨d, .e (.callv x a), none⟩, lo, hi⟩ :: l) lv K cs ws .mk i nx pst fr H) = funC (evD fr x) fun f fi ca => .dcall f (fi ++ evsD fr a ++ ca) d l lv K cs ws .mk i pst fr H := by rw [run_eq]; rfl
theorem run_d_store {sz : Nat} {a x : Opd} : run env (n + 1) (.dops (⟨⟨d, .e (.store sz a x), none⟩, lo, hi⟩ :: l) lv K cs ws .mk i nx pst fr H) = optH (storeD H sz (evD fr a) (evD fr x)) fun x H' => run env n (.dops l lv K ((i + 1, []) :: dirtyN d cs) ws .mk (i + 1) H'.next ((i + 1, H') :: pst) (putD fr d x) H') := by rw [run_eq]; rfl
theorem run_d_append {sz b : Nat} {a x : Opd} : run env (n + 1) (.dops (⟨⟨d, .e (.append sz b a x), none⟩, lo, hi⟩ :: l) lv K cs ws .mk i nx pst fr H) = optH (appendD sz b H (evD fr a) (evD fr x)) fun x H' => run env n (.dops l lv K ((i + 1, []) :: dirtyN d cs) ws .mk (i + 1) H'.next ((i + 1, H') :: pst) (putD fr d x) H') := by rw [run_eq]; rfl
theorem run_d_lookup {sk : Bool} {z : V} {ok : Bool} {m k : Opd} : run env (n + 1) (.dops (⟨⟨d, .e (.lookup sk z ok m k), none⟩, lo, hi⟩ :: l) lv K cs ws .mk i nx pst fr H) = optH (lookupD H sk z ok (evD fr m) (evD fr k)) fun x H' => run env n (.dops l lv K ((i + 1, []) :: dirtyN d cs) ws .mk (i + 1) H'.next ((i + 1, H') :: pst) (putD fr d x) H') := by rw [run_eq]; rfl
theorem run_d_mapput {sk : Bool} {m k x : Opd} : run env (n + 1) (.dops (⟨⟨d, .e (.mapput sk m k x), none⟩, lo, hi⟩ :: l) lv K cs ws .mk i nx pst fr H) = optH (mapputD H sk (evD fr m) (evD fr k) (evD fr x)) fun x H' => run env n (.dops l lv K ((i + 1, []) :: dirtyN d cs) ws .mk (i + 1) H'.next ((i + 1, H') :: pst) (putD fr d x) H') := by rw [run_eq]; rfl
theorem run_d_lenm {m : Opd} : run env (n + 1) (.dops (⟨⟨d, .e (.lenm m), none⟩, lo, hi⟩ :: l) lv K cs ws .mk i nx pst fr H) = optH (lenmD H (evD fr m)) fun x H' => run env n (.dops l lv K ((i + 1, []) :: dirtyN d cs) ws .mk (i + 1) H'.next ((i + 1, H') :: pst) (putD fr d x) H') := by rw [run_eq]; rfl
theorem run_zero {c : Cfg} : run env 0 c = c := by rw [run_eq]; rfl
end
section
variable {p : Prog} {ext : Ext} {Q : ResD → Prop}
theorem optC_some {d : D} {k : D → Cfg} : optC (some d) k = k d := rfl
theorem optH_some {d : D} {H : HpD} {k : D → HpD → Cfg} : optH (some (d, H)) k = k d H := rfl
theorem brC_t {a b : Cfg} : brC true a b = a := rfl
theorem brC_f {a b : Cfg} : brC false a b = b := rfl
theorem boolC_bool {t : Bool} {a b : Cfg} : boolC (.lit (.bool t)) a b = brC t a b := rfl
theorem gateC_bool {t w : Bool} {a b : Cfg} : gateC (.lit (.bool t)) w a b = brC (beqB t w) a b := rfl
theorem gateC_tup {l : List D} {w : Bool} {a b : Cfg} : gateC (.tup l) w a b = b := rfl
theorem beqB_t {t : Bool} : beqB t true = t := by cases t <;> rfl
theorem beqB_f {t : Bool} : beqB t false = !t := by cases t <;> rfl
theorem funC_func {f : Nat} {a c : List D} {k : Nat → List D → List D → Cfg} : funC (.func f a c) k = k f a c := rfl
theorem oldC_ptr {nx lo hi : Nat} {pst : List (Nat × HpD)} {ld : HpD → Option D} {x : D} {b o : Nat} {a : Cfg} : oldC nx lo hi pst ld x (.ptr b o) a = .need (b < nx ∧ stillP lo hi ld x pst.tail) a := rfl
theorem oldC_rptr {nx lo hi : Nat} {pst : List (Nat × HpD)} {ld : HpD → Option D} {x : D} {l : List D} {o : Nat} {a : Cfg} : oldC nx lo hi pst ld x (.rptr l o) a = a := rfl
theorem sem_need {P : Prop} {c : Cfg} : Sem p ext Q (.need P c) ↔ P ∧ Sem p ext Q c := Iff.rfl
theorem sem_both {P : Prop} {a b : Cfg} : Sem p ext Q (.both P a b) ↔ (P → Sem p ext Q a) ∧ Sem p ext Q b := Iff.rfl
theorem nilC_row {sz : Nat} {m : Md} {l : List (List D)} {k : Bool → Cfg} : nilC (.row sz m l) (.lit .nilslice) k = .both (l = []) (k true) (k false) := rfl
theorem nilC_nil {k : Bool → Cfg} : nilC (.lit .nilslice) (.lit .nilslice) k = k true := rfl
attribute [simp] sem_both nilC_row nilC_nil
theorem stillP_nil {lo hi : Nat} {ld : HpD → Option D} {x : D} : stillP lo hi ld x [] = True := rfl
theorem stillP_cons {lo hi c : Nat} {H : HpD} {ld : HpD → Option D} {x : D} {l : List (Nat × HpD)} : stillP lo hi ld x ((c, H) :: l) = ((inWin c (lo, hi) = true → rigid x = true ∧ ld H = some x) ∧ stillP lo hi ld x l) := rfl
theorem inWin_d {c lo hi : Nat} : inWin c (lo, hi) = (decide (lo ≤ c) && decide (c ≤ hi)) := by simp only [inWin, nble_d]
theorem cleanC_nil {w : Nat × Nat} {l : List Nat} {cs : List (Nat × List Nat)} {a : Cfg} : cleanC [] w l cs a = a := rfl
theorem cleanC_cons {q : Nat × HpD} {pst : List (Nat × HpD)} {w : Nat × Nat} {l : List Nat} {cs : List (Nat × List Nat)} {a : Cfg} : cleanC (q :: pst) w l cs a = .need (cleanAll w l cs = true) a := rfl
theorem dirtyN_cons {d : Option Nat} {c : Nat} {dl : List Nat} {cs : List (Nat × List Nat)} : dirtyN d ((c, dl) :: cs) = (c, match d with | none => dl | some t => t :: dl) :: dirtyN d cs := rfl
theorem dirtyP_cons {d : Option Nat} {o : POp} {c : Nat} {dl : List Nat} {cs : List (Nat × List Nat)} : dirtyP d o ((c, dl) :: cs) = (c, match d with | none => dl | some t => dirtyL t o dl) :: dirtyP d o cs := rfl
theorem dirtyN_nil {d : Option Nat} : dirtyN d [] = [] := rfl
theorem dirtyP_nil {d : Option Nat} {o : POp} : dirtyP d o [] = [] := rfl
theorem isR_rptr {l : List D} {k : Nat} : isR (.rptr l k) = true := rfl
theorem isR_ptr {b o : Nat} : isR (.ptr b o) = false := rfl
attribute [simp] cleanC_nil cleanC_cons dirtyN_cons dirtyN_nil dirtyP_cons dirtyP_nil isR_rptr isR_ptr dirtyR dirtyO dirtyL cleanAll POp.tmps tmpO tmpOo tmpsP tmpsL
attribute [simp] run_zero run_exit_seq run_exit_block exitC_t exitC_f run_skip run_region run_dregion run_seq run_cond run_block run_loop run_exit run_ret run_ok_seq run_ok_block run_ok_nil run_res_exit run_ops_nil run_guard run_a run_load1 run_loadn run_call run_extern run_callv run_store run_append run_lookup run_delete
attribute [simp] run_d_nil run_d_guard run_d_a run_d_load1 run_d_loadn run_d_call run_d_callv run_d_store run_d_append run_d_lookup run_d_mapput run_d_lenm
attribute [simp] run_mov run_pick run_build run_nilchk run_bin run_eq_ptr run_eq_struct run_not run_conv run_mkfunc run_slc run_faddr run_field1 run_iaddr run_idxs run_ext run_lens run_lenb run_caps run_min run_max run_eq_slice run_d_mov run_d_pick run_d_build run_d_nilchk run_d_bin run_d_not run_d_conv run_d_faddr run_d_field1 run_d_iaddr run_d_ext run_d_lenb run_d_min run_d_max
attribute [simp] optC_some optH_some brC_t brC_f boolC_bool gateC_bool gateC_tup beqB_t beqB_f funC_func oldC_ptr oldC_rptr sem_need stillP_nil stillP_cons inWin_d
theorem sem_br {t : Bool} {a b : Cfg} (h1 : t = true → Sem p ext Q a) (h2 : t = false → Sem p ext Q b) : Sem p ext Q (brC t a b) := by
 cases t
 ·exact h2 rfl
 ·exact h1 rfl
theorem sem_if {P : Prop} [Decidable P] {a b : Cfg} (h1 : P → Sem p ext Q a) (h2 : ¬ P → Sem p ext Q b) : Sem p ext Q (brC (decide P) a b) :=
 sem_br (fun e => h1 (of_decide_eq_true e)) fun e => h2 (of_decide_eq_false e)
theorem loopQ_ok {J : FrD → HpD → Prop} {K : List KD} {fr : FrD} {H : HpD} : loopQ J p ext Q K (.ok fr H) = J fr H := rfl
theorem loopQ_exit {J : FrD → HpD → Prop} {K : List KD} {id : Nat} {fr : FrD} {H : HpD} : loopQ J p ext Q K (.exit id fr H) = Sem p ext Q (.res (.exit id fr H) K .mk) := rfl
theorem loopQ_ret {J : FrD → HpD → Prop} {K : List KD} {fr : FrD} {H : HpD} : loopQ J p ext Q K (.ret fr H) = Sem p ext Q (.res (.ret fr H) [] .mk) := rfl
theorem okQ_ok {J : FrD → HpD → Prop} {fr : FrD} {H : HpD} : okQ J (.ok fr H) = J fr H := rfl
attribute [simp] loopQ_ok loopQ_exit loopQ_ret okQ_ok
theorem lk_nil {t : Nat} : lk [] t = .any := rfl
theorem lk_cons {k t : Nat} {d : D} {l : FrD} : lk ((k, d) :: l) t = if k = t then d else lk l t := by
 simp only [lk, beq_d]; by_cases h : k = t <;> simp [h]
theorem putD_some {fr : FrD} {t : Nat} {d : D} : putD fr (some t) d = (t, d) :: fr := rfl
theorem putD_none {fr : FrD} {d : D} : putD fr none d = fr := rfl
theorem keep_nil {fr : FrD} : keep [] fr = [] := rfl
theorem keep_cons {t : Nat} {l : List Nat} {fr : FrD} : keep (t :: l) fr = (t, lk fr t) :: keep l fr := rfl
theorem evD_tmp {fr : FrD} {t : Nat} : evD fr (.tmp t) = lk fr t := rfl
theorem evD_val {fr : FrD} {v : V} : evD fr (.val v) = dV v := rfl
attribute [simp] lk_nil lk_cons putD_some putD_none keep_nil keep_cons evD_tmp evD_val evsD dV dVs inL argsD
section
variable {env : Env} {fr : FrD} {x y z : Opd}
theorem pickO_bool {t : Bool} {a b : D} : pickO (.lit (.bool t)) a b = some (pickD t a b) := rfl
end
theorem pickD_t {a b : D} : pickD true a b = a := rfl
theorem pickD_f {a b : D} : pickD false a b = b := rfl
theorem litO_bool {b : Bool} : litO (some (.bool b)) = some (.lit (.bool b)) := rfl
theorem litO_int {k : IntKind} {n : Int} : litO (some (.int k n)) = some (.lit (.int k n)) := rfl
theorem litO_str {l : List Nat} : litO (some (.str l)) = some (.lit (.str l)) := rfl
theorem lit1_lit {f : V → Option V} {v : V} : lit1 f (.lit v) = litO (f v) := rfl
theorem binD_lit {tab : Tab} {op : BinOp} {v w : V} : binD tab op (.lit v) (.lit w) = litO (binV tab op v w) := rfl
theorem aggD_some {l : List D} : aggD (some l) = some (.agg l) := rfl
theorem nilchkD_ptr {b o : Nat} : nilchkD (.ptr b o) = some (.ptr b o) := rfl
theorem nilchkD_rptr {l : List D} {o : Nat} : nilchkD (.rptr l o) = some (.rptr l o) := rfl
theorem nilchkD_func {f : Nat} {a c : List D} : nilchkD (.func f a c) = some (.func f a c) := rfl
theorem faddrD_ptr {off b o : Nat} : faddrD off (.ptr b o) = some (.ptr b (o + off)) := rfl
theorem faddrD_rptr {off o : Nat} {l : List D} : faddrD off (.rptr l o) = some (.rptr l (o + off)) := rfl
theorem field1D_agg {off : Nat} {l : List D} : field1D off (.agg l) = l[off]? := rfl
theorem extD_tup {i : Nat} {l : List D} : extD i (.tup l) = l[i]? := rfl
theorem lenbD_nil : lenbD (.lit .nilslice) = some (.lit (.int .i64 0)) := rfl
theorem lenbD_slice {b o sz len c : Nat} {ex : Bool} : lenbD (.slice b o sz len c ex) = some (.lit (.int .i64 (len : Int))) := rfl
theorem lenbD_row {sz : Nat} {m : Md} {l : List (List D)} : lenbD (.row sz m l) = some (.lit (.int .i64 (l.length : Int))) := rfl
theorem idxsD_lit {v w : V} : idxsD (.lit v) (.lit w) = litO (idxsV v w) := rfl
theorem elemD_some {e : List D} : elemD (some e) = some (.rptr e 0) := rfl
theorem natD_cast {k : IntKind} {n : Nat} : natD (.lit (.int k (n : Int))) = some n := rfl
theorem natD_lit {k : IntKind} {n : Nat} : natD (.lit (.int k (@OfNat.ofNat Int n _))) = some n := rfl
theorem natD_zero {k : IntKind} : natD (.lit (.int k 0)) = some 0 := rfl
theorem natD_one {k : IntKind} : natD (.lit (.int k 1)) = some 1 := rfl
def atO (sz : Nat) (x : D) (n : Option Nat) : Option D := match n with
 | some n => match x with
  | .slice b o sz' len _ _ => if n < len ∧ sz = sz' then some (.ptr b (o + n * sz)) else none
  | .row sz' _ l => if sz = sz' then elemD l[n]? else none
  | _ => none
 | none => none
theorem iaddrD_at {sz : Nat} {x i : D} : iaddrD sz x i = atO sz x (natD i) := by
 unfold iaddrD atO
 cases natD i with
 | none => rfl
 | some n =>
  cases x <;> simp only []
  ·simp only [blt_d, beq_d];rename_i b o sz' len cap ex
   by_cases h1 : n < len <;> by_cases h2 : sz = sz' <;> simp [h1, h2]
  ·simp only [beq_d];rename_i sz' m l
   by_cases h2 : sz = sz' <;> simp [h2]
theorem atO_row {sz n : Nat} {m : Md} {l : List (List D)} : atO sz (.row sz m l) (some n) = elemD l[n]? := by simp [atO]
theorem atO_slice {sz n b o len cap : Nat} {ex : Bool} : atO sz (.slice b o sz len cap ex) (some n) = if n < len then some (.ptr b (o + n * sz)) else none := by simp [atO]
theorem loadD_ptr {H : HpD} {b o : Nat} : loadD H (.ptr b o) = cellD (H.blk b) o := rfl
theorem loadD_rptr {H : HpD} {l : List D} {o : Nat} : loadD H (.rptr l o) = l[o]? := rfl
theorem loadnD_ptr {H : HpD} {n b o : Nat} : loadnD H n (.ptr b o) = aggD (readD H b o n) := rfl
theorem loadnD_rptr {H : HpD} {n o : Nat} {l : List D} : loadnD H n (.rptr l o) = if o + n ≤ l.length then some (.agg ((l.drop o).take n)) else none := by
 simp only [loadnD, ble_d]; by_cases h : o + n ≤ l.length <;> simp [h]
theorem cellD_cells {l : List D} {ro : Bool} {o : Nat} : cellD (.cells l ro) o = l[o]? := rfl
theorem readD_eq {H : HpD} {b o n : Nat} : readD H b o n = match H.blk b with
 | .cells l _ => if o + n ≤ l.length then some ((l.drop o).take n) else none
 | _ => none := by
 unfold readD;cases H.blk b <;> simp only [ble_d];rename_i l ro
 by_cases h : o + n ≤ l.length <;> simp [h]
theorem storeD_ptr {H : HpD} {sz b o : Nat} {x : D} : storeD H sz (.ptr b o) x = storeC H sz b o (cellsD x) := rfl
theorem storeC_some {H : HpD} {sz b o : Nat} {cs : List D} : storeC H sz b o (some cs) = if cs.length = sz then tupO (writeD H b o cs) else none := by
 simp only [storeC, beq_d]; by_cases h : cs.length = sz <;> simp [h]
theorem tupO_some {H : HpD} : tupO (some H) = some (.tup [], H) := rfl
theorem writeD_eq {H : HpD} {b o : Nat} {vs : List D} : writeD H b o vs = putO' H b (writeBD (H.blk b) o vs) := rfl
theorem putO'_some {H : HpD} {b : Nat} {x : BD} : putO' H b (some x) = some (H.put b x) := rfl
theorem writeBD_cells {l : List D} {o : Nat} {vs : List D} : writeBD (.cells l false) o vs = if o + vs.length ≤ l.length ∧ flatsD vs = true then some (.cells (spliceD l o vs) false) else none := by
 simp only [writeBD, ble_d]
 by_cases h : o + vs.length ≤ l.length <;> cases h2 : flatsD vs <;> simp [h]
theorem cellsD_agg {l : List D} : cellsD (.agg l) = some l := rfl
theorem cellsD_lit {v : V} : cellsD (.lit v) = some [.lit v] := rfl
theorem cellsD_ptr {b o : Nat} : cellsD (.ptr b o) = some [.ptr b o] := rfl
theorem cellsD_rptr {l : List D} {o : Nat} : cellsD (.rptr l o) = some [.rptr l o] := rfl
theorem cellsD_slice {b o sz len c : Nat} {ex : Bool} : cellsD (.slice b o sz len c ex) = some [.slice b o sz len c ex] := rfl
theorem cellsD_row {sz : Nat} {m : Md} {l : List (List D)} : cellsD (.row sz m l) = some [.row sz m l] := rfl
theorem cellsD_map {b : Nat} : cellsD (.map b) = some [.map b] := rfl
theorem cellsD_func {f : Nat} {a c : List D} : cellsD (.func f a c) = some [.func f a c] := rfl
theorem cellsD_iface {t : Nat} {d : D} : cellsD (.iface t d) = some [.iface t d] := rfl
theorem fillD_nil {c : List D} : fillD c [] = some c := rfl
theorem fillD_cons {c : List D} {o n : Nat} {d : D} {l : List (Nat × Nat × D)} : fillD c ((o, n, d) :: l) = (cellsD d).bind fun cs => if cs.length = n ∧ o + n ≤ c.length then fillD (spliceD c o cs) l else none := by
 simp only [fillD]
 cases cellsD d with
 | none => rfl
 | some cs =>
  simp only [Option.bind_some, beq_d, ble_d]
  by_cases h1 : cs.length = n <;> by_cases h2 : o + n ≤ c.length <;> simp [h1, h2]
theorem spliceD_zero {l vs : List D} : spliceD l 0 vs = vs ++ l.drop vs.length := by cases l <;> rfl
theorem spliceD_succ {x : D} {l vs : List D} {o : Nat} : spliceD (x :: l) (o + 1) vs = x :: spliceD l o vs := rfl
theorem boxD_some {H : HpD} {fz : Bool} {cs : List D} : boxD H fz (some cs) = if flatsD cs = true then some (match fz with | true => (.rptr cs 0, H) | false => (.ptr H.next 0, H.new (.cells cs false))) else none := by
 simp only [boxD]; cases flatsD cs <;> rfl
theorem bsliceD_some {H : HpD} {fz : Bool} {sz len : Nat} {c : List D} : bsliceD H fz sz len (some c) = if flatsD c = true ∧ c.length = len * sz then some (match fz with
   | true => (.row sz .c (chunkD sz len c), H)
   | false => (.slice H.next 0 sz len len true, H.new (.cells c false))) else none := by
 simp only [bsliceD, beq_d]
 by_cases h : c.length = len * sz <;> cases h2 : flatsD c <;> simp [h]
 all_goals cases fz <;> rfl
section
variable {fr : FrD} {H : HpD} {fz : Bool}
theorem aD_new' {zero : List V} : aD fr H fz (.new zero) = if allFlat zero = true then some (.ptr H.next 0, H.new (.cells (dVs zero) false)) else none := by
 simp only [aD]; cases allFlat zero <;> rfl
theorem aD_box {x : Opd} : aD fr H fz (.box x) = boxD H fz (cellsD (evD fr x)) := rfl
theorem aD_bslice {zero : List V} {sz len : Nat} {ps : List (Nat × Nat × Opd)} : aD fr H fz (.bslice zero sz len ps) = bsliceD H fz sz len (fillD (dVs zero) (evPartsD fr ps)) := rfl
theorem aD_mkslice {zero : List V} {sz by_ : Nat} {l c : Opd} : aD fr H fz (.mkslice zero sz by_ l c) = mksliceD H zero sz by_ (natD (evD fr l)) (natD (evD fr c)) := rfl
theorem aD_mkmap {kk : Option IntKind} : aD fr H fz (.mkmap kk) = some (.map H.next, H.new (.map kk [])) := rfl
theorem aD_bytes {x : Opd} : aD fr H fz (.bytes x) = toBytesD H fz (evD fr x) := rfl
end
theorem flatD_lit {v : V} : flatD (.lit v) = true := rfl
theorem flatD_ptr {b o : Nat} : flatD (.ptr b o) = true := rfl
theorem flatD_rptr {l : List D} {o : Nat} : flatD (.rptr l o) = true := rfl
theorem flatD_slice {b o sz len c : Nat} {ex : Bool} : flatD (.slice b o sz len c ex) = true := rfl
theorem flatD_row {sz : Nat} {m : Md} {l : List (List D)} : flatD (.row sz m l) = true := rfl
theorem flatD_map {b : Nat} : flatD (.map b) = true := rfl
theorem flatD_func {f : Nat} {a c : List D} : flatD (.func f a c) = true := rfl
theorem flatD_iface {t : Nat} {d : D} : flatD (.iface t d) = true := rfl
theorem evoD_none {fr : FrD} : evoD fr none = none := rfl
theorem evoD_some {fr : FrD} {x : Opd} : evoD fr (some x) = some (evD fr x) := rfl
theorem bndD_none : bndD none = some none := rfl
theorem bndD_lit {v : V} : bndD (some (.lit v)) = some (some v) := rfl
theorem isEq_lit {ty : ETy} {v w : V} : isEq ty (.lit v) (.lit w) = eqV ty v w := by simp only [isEq, toV]
theorem eqD_eq {ty : ETy} {neg : Bool} {x y : D} : eqD ty neg x y = (isEq ty x y).map fun r => .lit (.bool (cond neg (!r) r)) := by
 simp only [eqD]; cases isEq ty x y <;> rfl
theorem eqV_nilptr : eqV .ptr .nilptr .nilptr = some true := rfl
theorem isEq_rptr_nil {l : List D} {o : Nat} : isEq .ptr (.rptr l o) (.lit .nilptr) = some false := rfl
attribute [simp] eqV_nilptr isEq_rptr_nil Option.map
theorem bin_shr_nn {tab : Tab} {k j : IntKind} {a b : Int} (h : 0 ≤ b) : binV tab .shr (.int k a) (.int j b) = some (.int k (shrI k a b.toNat)) := by
 obtain ⟨n, rfl⟩ : ∃ n : Nat, b = n := ⟨b.toNat, by omega⟩;rfl
theorem natD_nn {k : IntKind} {b : Int} (h : 0 ≤ b) : natD (.lit (.int k b)) = some b.toNat := by
 obtain ⟨n, rfl⟩ : ∃ n : Nat, b = n := ⟨b.toNat, by omega⟩;rfl
theorem natOf_nn {k : IntKind} {b : Int} (h : 0 ≤ b) : natOf (.int k b) = some b.toNat := by
 obtain ⟨n, rfl⟩ : ∃ n : Nat, b = n := ⟨b.toNat, by omega⟩;rfl
attribute [simp] bin_shr_nn natD_nn natOf_nn
theorem nx2 {a : Nat} : (a = a + 1 + 1) = False := eq_false (by omega)
theorem ny2 {a : Nat} : (a + 1 + 1 = a) = False := eq_false (by omega)
theorem nx3 {a : Nat} : (a = a + 1 + 1 + 1) = False := eq_false (by omega)
theorem ny3 {a : Nat} : (a + 1 + 1 + 1 = a) = False := eq_false (by omega)
theorem nx4 {a : Nat} : (a = a + 1 + 1 + 1 + 1) = False := eq_false (by omega)
theorem ny4 {a : Nat} : (a + 1 + 1 + 1 + 1 = a) = False := eq_false (by omega)
theorem nx5 {a : Nat} : (a = a + 1 + 1 + 1 + 1 + 1) = False := eq_false (by omega)
theorem ny5 {a : Nat} : (a + 1 + 1 + 1 + 1 + 1 = a) = False := eq_false (by omega)
theorem nx6 {a : Nat} : (a = a + 1 + 1 + 1 + 1 + 1 + 1) = False := eq_false (by omega)
theorem ny6 {a : Nat} : (a + 1 + 1 + 1 + 1 + 1 + 1 = a) = False := eq_false (by omega)
theorem nx7 {a : Nat} : (a = a + 1 + 1 + 1 + 1 + 1 + 1 + 1) = False := eq_false (by omega)
theorem ny7 {a : Nat} : (a + 1 + 1 + 1 + 1 + 1 + 1 + 1 = a) = False := eq_false (by omega)
theorem nx8 {a : Nat} : (a = a + 1 + 1 + 1 + 1 + 1 + 1 + 1 + 1) = False := eq_false (by omega)
theorem ny8 {a : Nat} : (a + 1 + 1 + 1 + 1 + 1 + 1 + 1 + 1 = a) = False := eq_false (by omega)
theorem nx9 {a : Nat} : (a = a + 1 + 1 + 1 + 1 + 1 + 1 + 1 + 1 + 1) = False := eq_false (by omega)
theorem ny9 {a : Nat} : (a + 1 + 1 + 1 + 1 + 1 + 1 + 1 + 1 + 1 = a) = False := eq_false (by omega)
attribute [simp] nx2 ny2 nx3 ny3 nx4 ny4 nx5 ny5 nx6 ny6 nx7 ny7 nx8 ny8 nx9 ny9
theorem isEq_nil_ptr {b o : Nat} : isEq .ptr (.ptr b o) (.lit .nilptr) = some false := rfl
attribute [simp] pickO_bool pickD_t pickD_f
attribute [simp] litO_bool litO_int litO_str lit1_lit binD_lit aggD_some nilchkD_ptr nilchkD_rptr nilchkD_func faddrD_ptr faddrD_rptr field1D_agg extD_tup lenbD_nil lenbD_slice lenbD_row idxsD_lit elemD_some natD_cast natD_lit natD_zero natD_one iaddrD_at atO_row atO_slice
attribute [simp] loadD_ptr loadD_rptr loadnD_ptr loadnD_rptr cellD_cells readD_eq storeD_ptr storeC_some tupO_some writeD_eq putO'_some writeBD_cells cellsD_agg cellsD_lit cellsD_ptr cellsD_rptr cellsD_slice cellsD_row cellsD_map cellsD_func cellsD_iface fillD_nil fillD_cons spliceD_zero spliceD_succ evPartsD boxD_some bsliceD_some aD_new' aD_box aD_bslice aD_mkslice aD_mkmap aD_bytes
attribute [simp] flatsD flatD_lit flatD_ptr flatD_rptr flatD_slice flatD_row flatD_map flatD_func flatD_iface evoD_none evoD_some bndD_none bndD_lit isEq_lit eqD_eq isEq_nil_ptr chunkD put_blk new_blk put_next new_next
attribute [simp] D.le_refl D.les_refl D.less_refl D.les D.under D.unders D.underss tupD res1D resLD endD optQ allFlat
end
end Go.Dv
end

section
namespace Go.Lib
open Go.Vm Go.Dv
abbrev mv (d s : Nat) : MO := ⟨some d, .p (.mov (.tmp s)), none⟩
abbrev mi (d n : Nat) : MO := ⟨some d, .p (.mov (.val (.int .i64 (.ofNat n)))), none⟩
abbrev l1 (d s : Nat) : MO := ⟨some d, .load1 (.tmp s), none⟩
abbrev ln (d k s : Nat) : MO := ⟨some d, .loadn k (.tmp s), none⟩
abbrev lb (d s : Nat) : MO := ⟨some d, .p (.lenb (.tmp s)), none⟩
abbrev fa (d k s : Nat) : MO := ⟨some d, .p (.faddr k (.tmp s)), none⟩
abbrev ix (d k s t : Nat) : MO := ⟨some d, .p (.iaddr k (.tmp s) (.tmp t)), none⟩
abbrev et (d s k : Nat) : MO := ⟨some d, .p (.ext (.tmp s) k), none⟩
abbrev bt (d : Nat) (o : BinOp) (s t : Nat) : MO := ⟨some d, .p (.bin o (.tmp s) (.tmp t)), none⟩
abbrev bi (d : Nat) (o : BinOp) (s n : Nat) : MO := ⟨some d, .p (.bin o (.tmp s) (.val (.int .i64 (.ofNat n)))), none⟩
end Go.Lib
end

section
namespace Go.Lib
open Go.Vm Go.Dv
set_option maxRecDepth 100000
abbrev K337 (F : Nat → Nat) : KC := .seq (.region [⟨some 4,.a (.box (.tmp 0)),none⟩,⟨some 8,.p (.mov (.val (.bool false))),none⟩,⟨some 9,.p (.mov (.val (.nilslice))),none⟩] [4] [1,2,3,4])
 (.seq (.region [ln 10 4 4,mv 11 1,mv 12 2,mv 13 3,⟨some 14,.e (.call (F 348) [(.tmp 10),(.tmp 11),(.tmp 12),(.tmp 13),(.val (.bool true))]),none⟩,et 15 14 0,et 16 14 1,mv 8 15,mv 9 16] [] [8,9])
 (.ret))
def M337 (F : Nat → Nat) : Fun := ⟨17,4,(K337 F).erase,[.tmp 8,.tmp 9]⟩
theorem ok337 {F : Nat → Nat} : (K337 F).ok = true := by kernel_rfl
abbrev K338 (F : Nat → Nat) : KC := .seq (.region [⟨some 4,.a (.box (.tmp 0)),none⟩,⟨some 8,.p (.mov (.val (.bool false))),none⟩,⟨some 9,.p (.mov (.val (.nilslice))),none⟩] [4] [1,2,3,4])
 (.seq (.region [ln 10 4 4,mv 11 1,mv 12 2,mv 13 3,⟨some 14,.e (.call (F 348) [(.tmp 10),(.tmp 11),(.tmp 12),(.tmp 13),(.val (.bool false))]),none⟩,et 15 14 0,et 16 14 1,mv 8 15,mv 9 16] [] [8,9])
 (.ret))
def M338 (F : Nat → Nat) : Fun := ⟨17,4,(K338 F).erase,[.tmp 8,.tmp 9]⟩
theorem ok338 {F : Nat → Nat} : (K338 F).ok = true := by kernel_rfl
abbrev K340 (F : Nat → Nat) : KC := .seq (.region [⟨some 2,.a (.box (.tmp 0)),none⟩,⟨some 4,.a (.new [.int .i64 (.ofNat 0),.int .i64 (.ofNat 0),.int .i64 (.ofNat 0),.int .i64 (.ofNat 0)]),none⟩] [2] [1,2,4])
 (.seq (.region [mv 6 1,⟨some 7,.p (.mkfunc (F 350) [] [(.tmp 2)]),none⟩,⟨some 8,.e (.call (F 351) [(.tmp 6),(.tmp 7)]),none⟩,mv 5 8] [] [1,4,5])
 (.seq (.seq (.region [mv 9 5,bi 10 .lss 9 0] [] [1,4,5,10])
 (.cond (.tmp 10) (.seq (.region [⟨some 11,.p (.build [.int .i64 (.ofNat 0),.int .i64 (.ofNat 0),.int .i64 (.ofNat 0),.int .i64 (.ofNat 0)] []),none⟩,⟨none,.e (.store 4 (.tmp 4) (.tmp 11)),none⟩] [] [4])
 (.ret))
 (.skip)))
 (.seq (.region [mv 12 1,mv 13 5,ix 14 4 12 13,ln 15 4 14,⟨none,.e (.store 4 (.tmp 4) (.tmp 15)),none⟩] [] [4])
 (.ret))))
def M340 (F : Nat → Nat) : Fun := ⟨16,2,(K340 F).erase,[.celln 4 4]⟩
theorem ok340 {F : Nat → Nat} : (K340 F).ok = true := by kernel_rfl
abbrev K341 (F : Nat → Nat) : KC := .seq (.region [mi 2 0] [] [0])
 (.seq (.region [mv 4 0,⟨some 5,.p (.nilchk (.tmp 4)),none⟩,fa 6 1 5,l1 7 6,lb 8 7,bi 9 .add 8 1,mv 3 9] [] [0,3])
 (.seq (.dregion [⟨mv 16 0,0,3⟩,⟨⟨some 17,.p (.nilchk (.tmp 16)),none⟩,0,3⟩,⟨fa 18 0 17,0,3⟩,⟨⟨some 19,.e (.call (F 347) [(.tmp 18)]),none⟩,0,11⟩,⟨mv 11 0,0,11⟩,⟨⟨some 12,.p (.nilchk (.tmp 11)),none⟩,0,11⟩,⟨fa 13 1 12,0,11⟩,⟨l1 14 13,0,11⟩,⟨mv 15 3,0,11⟩,⟨⟨some 20,.p (.build [.int .i64 (.ofNat 0),.int .i64 (.ofNat 0),.int .i64 (.ofNat 0),.int .i64 (.ofNat 0)] [(0,1,(.tmp 15)),(1,1,(.val (.int .i64 (.ofNat 1)))),(2,1,(.tmp 19))]),none⟩,4,11⟩,⟨⟨some 21,.a (.bslice [.int .i64 (.ofNat 0),.int .i64 (.ofNat 0),.int .i64 (.ofNat 0),.int .i64 (.ofNat 0)] 4 1 [(0,4,(.tmp 20))]),none⟩,4,11⟩,⟨⟨some 22,.e (.append 4 32 (.tmp 14) (.tmp 21)),none⟩,4,15⟩,⟨mv 10 0,0,15⟩,⟨⟨some 23,.p (.nilchk (.tmp 10)),none⟩,12,15⟩,⟨fa 24 1 23,12,15⟩,⟨⟨none,.e (.store 1 (.tmp 24) (.tmp 22)),none⟩,12,16⟩] [3])
 (.seq (.region [mv 25 3,mv 2 25] [] [2])
 (.ret))))
def M341 (F : Nat → Nat) : Fun := ⟨26,1,(K341 F).erase,[.tmp 2]⟩
theorem ok341 {F : Nat → Nat} : (K341 F).ok = true := by kernel_rfl
abbrev K342 (F : Nat → Nat) : KC := .seq (.region [mi 4 0,⟨some 5,.p (.mov (.val (.bool false))),none⟩] [] [0,1])
 (.seq (.region [mv 7 0,mv 8 1,⟨some 9,.a (.bslice [.int .i64 (.ofNat 0)] 1 1 [(0,1,(.val (.int .i64 (.ofNat 1))))]),none⟩,⟨some 10,.e (.call (F 352) [(.tmp 7),(.tmp 8),(.tmp 9)]),none⟩,mv 6 10] [9] [0,6])
 (.seq (.seq (.region [mv 11 6,⟨some 12,.p (.eq .ptr false (.tmp 11) (.val (.nilptr))),none⟩] [] [0,6,12])
 (.cond (.tmp 12) (.seq (.region [mi 4 0,⟨some 5,.p (.mov (.val (.bool false))),none⟩] [] [4,5])
 (.ret))
 (.skip)))
 (.seq (.region [mv 13 0,⟨some 14,.p (.nilchk (.tmp 13)),none⟩,fa 15 0 14,fa 16 0 15,l1 17 16,bi 18 .add 17 1,⟨some 19,.p (.nilchk (.tmp 13)),none⟩,fa 20 0 19,fa 21 0 20,⟨none,.e (.store 1 (.tmp 21) (.tmp 18)),none⟩] [] [0,6])
 (.seq (.region [mv 22 6,mv 23 6,mv 24 0,⟨some 25,.p (.nilchk (.tmp 24)),none⟩,fa 26 0 25,⟨some 27,.e (.call (F 347) [(.tmp 26)]),none⟩,⟨some 28,.p (.nilchk (.tmp 22)),none⟩,fa 29 1 28,⟨none,.e (.store 1 (.tmp 29) (.val (.int .i64 (.ofNat 2)))),none⟩,⟨some 30,.p (.nilchk (.tmp 23)),none⟩,fa 31 3 30,⟨none,.e (.store 1 (.tmp 31) (.tmp 27)),none⟩] [] [6])
 (.seq (.region [mv 32 6,⟨some 33,.p (.nilchk (.tmp 32)),none⟩,fa 34 3 33,l1 35 34,mv 4 35,⟨some 5,.p (.mov (.val (.bool true))),none⟩] [] [4,5])
 (.ret))))))
def M342 (F : Nat → Nat) : Fun := ⟨36,2,(K342 F).erase,[.tmp 4,.tmp 5]⟩
theorem ok342 {F : Nat → Nat} : (K342 F).ok = true := by kernel_rfl
abbrev K343 (F : Nat → Nat) : KC := .seq (.region [⟨some 4,.p (.mov (.val (.bool false))),none⟩] [] [0,1])
 (.seq (.region [mv 6 0,mv 7 1,⟨some 8,.a (.bslice [.int .i64 (.ofNat 0)] 1 1 [(0,1,(.val (.int .i64 (.ofNat 2))))]),none⟩,⟨some 9,.e (.call (F 352) [(.tmp 6),(.tmp 7),(.tmp 8)]),none⟩,mv 5 9] [8] [5])
 (.seq (.seq (.region [mv 10 5,⟨some 11,.p (.eq .ptr false (.tmp 10) (.val (.nilptr))),none⟩] [] [5,11])
 (.cond (.tmp 11) (.seq (.region [⟨some 4,.p (.mov (.val (.bool false))),none⟩] [] [4])
 (.ret))
 (.skip)))
 (.seq (.region [mv 12 5,⟨some 13,.p (.nilchk (.tmp 12)),none⟩,fa 14 1 13,⟨none,.e (.store 1 (.tmp 14) (.val (.int .i64 (.ofNat 3)))),none⟩] [] [])
 (.seq (.region [⟨some 4,.p (.mov (.val (.bool true))),none⟩] [] [4])
 (.ret)))))
def M343 (F : Nat → Nat) : Fun := ⟨15,2,(K343 F).erase,[.tmp 4]⟩
theorem ok343 {F : Nat → Nat} : (K343 F).ok = true := by kernel_rfl
abbrev K344 (F : Nat → Nat) : KC := .seq (.region [⟨some 4,.p (.mov (.val (.bool false))),none⟩] [] [0,1])
 (.seq (.region [mv 6 0,mv 7 1,⟨some 8,.a (.bslice [.int .i64 (.ofNat 0),.int .i64 (.ofNat 0)] 1 2 [(0,1,(.val (.int .i64 (.ofNat 1)))),(1,1,(.val (.int .i64 (.ofNat 2))))]),none⟩,⟨some 9,.e (.call (F 352) [(.tmp 6),(.tmp 7),(.tmp 8)]),none⟩,mv 5 9] [8] [5])
 (.seq (.seq (.region [mv 10 5,⟨some 11,.p (.eq .ptr false (.tmp 10) (.val (.nilptr))),none⟩] [] [5,11])
 (.cond (.tmp 11) (.seq (.region [⟨some 4,.p (.mov (.val (.bool false))),none⟩] [] [4])
 (.ret))
 (.skip)))
 (.seq (.region [mv 12 5,⟨some 13,.p (.nilchk (.tmp 12)),none⟩,fa 14 1 13,⟨none,.e (.store 1 (.tmp 14) (.val (.int .i64 (.ofNat 4)))),none⟩] [] [])
 (.seq (.region [⟨some 4,.p (.mov (.val (.bool true))),none⟩] [] [4])
 (.ret)))))
def M344 (F : Nat → Nat) : Fun := ⟨15,2,(K344 F).erase,[.tmp 4]⟩
theorem ok344 {F : Nat → Nat} : (K344 F).ok = true := by kernel_rfl
abbrev K345 (_F : Nat → Nat) : KC := .seq (.region [⟨some 0,.p (.mov (.val (.nilptr))),none⟩] [] [])
 (.seq (.region [⟨some 1,.p (.build [.int .i64 (.ofNat 0),.nilslice] []),none⟩,⟨some 2,.a (.box (.tmp 1)),none⟩,mv 0 2] [] [0])
 (.ret))
def M345 (F : Nat → Nat) : Fun := ⟨3,0,(K345 F).erase,[.tmp 0]⟩
theorem ok345 {F : Nat → Nat} : (K345 F).ok = true := by kernel_rfl
abbrev K346 (F : Nat → Nat) : KC := .seq (.region [⟨some 2,.p (.mov (.val (.nilslice))),none⟩] [] [0])
 (.seq (.region [mv 3 0,⟨some 4,.p (.nilchk (.tmp 3)),none⟩,fa 5 1 4,l1 6 5,⟨some 7,.e (.call (F 353) [(.tmp 6)]),none⟩,⟨some 8,.e (.call (F 354) [(.tmp 7)]),none⟩,mv 2 8] [] [2])
 (.ret))
def M346 (F : Nat → Nat) : Fun := ⟨9,1,(K346 F).erase,[.tmp 2]⟩
theorem ok346 {F : Nat → Nat} : (K346 F).ok = true := by kernel_rfl
abbrev K347 (_F : Nat → Nat) : KC := .seq (.region [mi 2 0] [] [0])
 (.seq (.region [mv 3 0,⟨some 4,.p (.nilchk (.tmp 3)),none⟩,fa 5 0 4,l1 6 5,bi 7 .add 6 1,mv 2 7] [] [2])
 (.ret))
def M347 (F : Nat → Nat) : Fun := ⟨8,1,(K347 F).erase,[.tmp 2]⟩
theorem ok347 {F : Nat → Nat} : (K347 F).ok = true := by kernel_rfl
abbrev K348 (F : Nat → Nat) : KC := .seq (.region [⟨some 5,.a (.box (.tmp 0)),none⟩,⟨some 10,.p (.mov (.val (.bool false))),none⟩,⟨some 11,.p (.mov (.val (.nilslice))),none⟩] [5] [1,2,3,4,5])
 (.seq (.region [⟨some 12,.p (.mov (.val (.nilslice))),none⟩] [] [1,2,3,4,5,12])
 (.seq (.region [fa 17 0 5,ln 18 2 17,mv 19 2,mv 20 3,⟨some 21,.e (.call (F 355) [(.tmp 18),(.tmp 19),(.tmp 20)]),none⟩,mv 16 21,et 22 16 0,et 23 16 1,mv 13 22,mv 14 23] [] [1,2,3,4,5,12,13,14])
 (.seq (.seq (.region [fa 24 0 5,fa 25 0 24,l1 26 25,mv 27 1,bt 28 .eql 26 27,mv 29 28,⟨some 30,.p (.mov (.tmp 1)),(some (29,true))⟩,⟨some 31,.p (.bin .neq (.tmp 30) (.val (.int .i64 (.ofNat 0)))),(some (29,true))⟩,⟨some 32,.p (.pick (.tmp 29) (.tmp 31) (.val (.bool false))),none⟩] [] [1,2,3,4,5,12,13,14,32])
 (.cond (.tmp 32) (.region [mv 33 4,mv 13 33,⟨some 14,.p (.mov (.val (.bool false))),none⟩] [] [1,2,3,4,5,12,13,14])
 (.skip)))
 (.seq (.seq (.region [mv 34 13,⟨some 35,.p (.not (.tmp 34)),none⟩] [] [1,2,3,4,5,12,14,35])
 (.cond (.tmp 35) (.seq (.region [⟨some 10,.p (.mov (.val (.bool false))),none⟩,⟨some 11,.p (.mov (.val (.nilslice))),none⟩] [] [10,11])
 (.ret))
 (.skip)))
 (.seq (.seq (.region [mv 36 14] [] [1,2,3,4,5,12,36])
 (.cond (.tmp 36) (.region [mv 37 12,fa 38 0 5,fa 39 0 38,l1 40 39,⟨some 41,.a (.bslice [.int .i64 (.ofNat 0)] 1 1 [(0,1,(.tmp 40))]),none⟩,⟨some 42,.e (.append 1 8 (.tmp 37) (.tmp 41)),none⟩,mv 12 42] [41] [1,2,3,4,5,12])
 (.skip)))
 (.seq (.region [fa 44 2 5,ln 45 2 44,mv 46 2,mv 47 3,⟨some 48,.e (.call (F 355) [(.tmp 45),(.tmp 46),(.tmp 47)]),none⟩,mv 43 48,et 49 43 0,et 50 43 1,mv 15 49,mv 14 50] [] [1,4,5,12,14,15])
 (.seq (.block 0 (.seq (.region [fa 52 2 5,ln 53 2 52,⟨some 54,.e (.call (F 349) [(.tmp 53)]),none⟩,mv 51 54] [] [1,4,5,12,14,15,51])
 (.cond (.tmp 51) (.region [⟨some 15,.p (.mov (.val (.bool false))),none⟩,⟨some 14,.p (.mov (.val (.bool false))),none⟩] [] [5,12,14,15])
 (.seq (.region [fa 56 2 5,fa 57 0 56,l1 58 57,mv 59 1,bt 60 .eql 58 59,mv 61 60,⟨some 62,.p (.mov (.tmp 1)),(some (61,true))⟩,⟨some 63,.p (.bin .neq (.tmp 62) (.val (.int .i64 (.ofNat 0)))),(some (61,true))⟩,⟨some 64,.p (.pick (.tmp 61) (.tmp 63) (.val (.bool false))),none⟩,mv 55 64] [] [4,5,12,14,15,55])
 (.cond (.tmp 55) (.region [mv 65 4,mv 15 65,⟨some 14,.p (.mov (.val (.bool false))),none⟩] [] [5,12,14,15])
 (.skip))))))
 (.seq (.seq (.region [mv 66 14] [] [5,12,15,66])
 (.cond (.tmp 66) (.region [mv 67 12,fa 68 2 5,fa 69 0 68,l1 70 69,⟨some 71,.a (.bslice [.int .i64 (.ofNat 0)] 1 1 [(0,1,(.tmp 70))]),none⟩,⟨some 72,.e (.append 1 8 (.tmp 67) (.tmp 71)),none⟩,mv 12 72] [71] [12,15])
 (.skip)))
 (.seq (.region [mv 73 12,⟨some 74,.e (.call (F 331) [(.tmp 73)]),none⟩] [] [12,15])
 (.seq (.region [mv 75 15,⟨some 76,.p (.not (.tmp 75)),none⟩,mv 77 12,⟨some 78,.e (.call (F 356) [(.tmp 77)]),none⟩,mv 10 76,mv 11 78] [] [10,11])
 (.ret)))))))))))
def M348 (F : Nat → Nat) : Fun := ⟨79,5,(K348 F).erase,[.tmp 10,.tmp 11]⟩
theorem ok348 {F : Nat → Nat} : (K348 F).ok = true := by kernel_rfl
abbrev K349 (_F : Nat → Nat) : KC := .seq (.region [⟨some 1,.a (.box (.tmp 0)),none⟩,⟨some 2,.p (.mov (.val (.bool false))),none⟩] [1] [1])
 (.seq (.region [ln 3 2 1,⟨some 4,.p (.build [.int .i64 (.ofNat 0),.int .i64 (.ofNat 0)] []),none⟩,⟨some 5,.p (.eq (.struct [(0,none,.int),(1,none,.int)]) false (.tmp 3) (.tmp 4)),none⟩,mv 2 5] [] [2])
 (.ret))
def M349 (F : Nat → Nat) : Fun := ⟨6,1,(K349 F).erase,[.tmp 2]⟩
theorem ok349 {F : Nat → Nat} : (K349 F).ok = true := by kernel_rfl
abbrev K350 (_F : Nat → Nat) : KC := .seq (.region [⟨some 2,.a (.box (.tmp 0)),none⟩,⟨some 3,.p (.mov (.val (.bool false))),none⟩] [2] [1,2])
 (.seq (.region [fa 4 0 2,l1 5 4,l1 6 1,bt 7 .eql 5 6,mv 3 7] [] [3])
 (.ret))
def M350 (F : Nat → Nat) : Fun := ⟨8,2,(K350 F).erase,[.tmp 3]⟩
theorem ok350 {F : Nat → Nat} : (K350 F).ok = true := by kernel_rfl
abbrev K351 (_F : Nat → Nat) : KC := .seq (.region [mi 4 0] [] [0,1])
 (.seq (.seq (.region [mv 6 0,lb 7 6,mi 8 0] [] [0,1,7,8])
 (.block 0 (.loop (.seq (.region [bt 9 .lss 8 7] [] [0,1,7,8,9])
 (.seq (.cond (.tmp 9) (.skip)
 (.exit 0))
 (.seq (.block 1 (.seq (.region [mv 10 8,mv 5 10] [] [0,1,5,7,8])
 (.seq (.region [mv 11 1,mv 12 0,mv 13 5,ix 14 4 12 13,ln 15 4 14,⟨some 16,.e (.callv (.tmp 11) [(.tmp 15)]),none⟩] [] [0,1,5,7,8,16])
 (.cond (.tmp 16) (.seq (.region [mv 17 5,mv 4 17] [] [4])
 (.ret))
 (.skip)))))
 (.region [bi 18 .add 8 1,mv 8 18] [] [0,1,7,8])))))))
 (.seq (.region [⟨some 4,.p (.mov (.val (.int .i64 (.negSucc 0)))),none⟩] [] [4])
 (.ret)))
def M351 (F : Nat → Nat) : Fun := ⟨19,2,(K351 F).erase,[.tmp 4]⟩
theorem ok351 {F : Nat → Nat} : (K351 F).ok = true := by kernel_rfl
abbrev K352 (F : Nat → Nat) : KC := .seq (.region [⟨some 6,.p (.mov (.val (.nilptr))),none⟩] [] [0,1,2])
 (.seq (.seq (.region [mv 7 1,bi 8 .lss 7 1,mv 9 8,⟨some 10,.p (.mov (.tmp 1)),(some (9,false))⟩,⟨some 11,.p (.mov (.tmp 0)),(some (9,false))⟩,⟨some 12,.p (.nilchk (.tmp 11)),(some (9,false))⟩,⟨some 13,.p (.faddr 1 (.tmp 12)),(some (9,false))⟩,⟨some 14,.load1 (.tmp 13),(some (9,false))⟩,⟨some 15,.p (.lenb (.tmp 14)),(some (9,false))⟩,⟨some 16,.p (.bin .gtr (.tmp 10) (.tmp 15)),(some (9,false))⟩,⟨some 17,.p (.pick (.tmp 9) (.val (.bool true)) (.tmp 16)),none⟩,mv 18 17,⟨some 19,.p (.mov (.tmp 2)),(some (18,false))⟩,⟨some 20,.p (.mov (.tmp 0)),(some (18,false))⟩,⟨some 21,.p (.nilchk (.tmp 20)),(some (18,false))⟩,⟨some 22,.p (.faddr 1 (.tmp 21)),(some (18,false))⟩,⟨some 23,.load1 (.tmp 22),(some (18,false))⟩,⟨some 24,.p (.mov (.tmp 1)),(some (18,false))⟩,⟨some 25,.p (.bin .sub (.tmp 24) (.val (.int .i64 (.ofNat 1)))),(some (18,false))⟩,⟨some 26,.p (.iaddr 4 (.tmp 23) (.tmp 25)),(some (18,false))⟩,⟨some 27,.p (.faddr 1 (.tmp 26)),(some (18,false))⟩,⟨some 28,.load1 (.tmp 27),(some (18,false))⟩,⟨some 29,.e (.call (F 357) [(.tmp 19),(.tmp 28)]),(some (18,false))⟩,⟨some 30,.p (.not (.tmp 29)),(some (18,false))⟩,⟨some 31,.p (.pick (.tmp 18) (.val (.bool true)) (.tmp 30)),none⟩] [] [0,1,31])
 (.cond (.tmp 31) (.seq (.region [⟨some 6,.p (.mov (.val (.nilptr))),none⟩] [] [6])
 (.ret))
 (.skip)))
 (.seq (.region [mv 32 0,⟨some 33,.p (.nilchk (.tmp 32)),none⟩,fa 34 1 33,l1 35 34,mv 36 1,bi 37 .sub 36 1,ix 38 4 35 37,mv 6 38] [] [6])
 (.ret)))
def M352 (F : Nat → Nat) : Fun := ⟨39,3,(K352 F).erase,[.tmp 6]⟩
theorem ok352 {F : Nat → Nat} : (K352 F).ok = true := by kernel_rfl
abbrev K353 (_F : Nat → Nat) : KC := .seq (.region [⟨some 2,.p (.mov (.val (.nilslice))),none⟩] [] [0])
 (.seq (.seq (.region [mv 3 0,⟨some 4,.p (.eq .slice false (.tmp 3) (.val (.nilslice))),none⟩] [] [0,4])
 (.cond (.tmp 4) (.seq (.region [⟨some 2,.p (.mov (.val (.nilslice))),none⟩] [] [2])
 (.ret))
 (.skip)))
 (.seq (.region [⟨some 5,.a (.bslice [] 4 0 []),none⟩,mv 6 0,⟨some 7,.e (.append 4 32 (.tmp 5) (.tmp 6)),none⟩,mv 2 7] [] [2])
 (.ret)))
def M353 (F : Nat → Nat) : Fun := ⟨8,1,(K353 F).erase,[.tmp 2]⟩
theorem ok353 {F : Nat → Nat} : (K353 F).ok = true := by kernel_rfl
abbrev K354 (_F : Nat → Nat) : KC := .seq (.region [⟨some 2,.p (.mov (.val (.nilslice))),none⟩] [] [0])
 (.seq (.region [mv 3 0,mv 4 0,lb 5 4,mv 6 0,lb 7 6,⟨some 8,.p (.slc 4 (.tmp 3) none (some (.tmp 5)) (some (.tmp 7))),none⟩,mv 2 8] [] [2])
 (.ret))
def M354 (F : Nat → Nat) : Fun := ⟨9,1,(K354 F).erase,[.tmp 2]⟩
theorem ok354 {F : Nat → Nat} : (K354 F).ok = true := by kernel_rfl
abbrev K355 (F : Nat → Nat) : KC := .seq (.region [⟨some 3,.a (.box (.tmp 0)),none⟩,⟨some 6,.p (.mov (.val (.bool false))),none⟩,⟨some 7,.p (.mov (.val (.bool false))),none⟩] [3] [1,2,3])
 (.seq (.seq (.region [fa 9 0 3,l1 10 9,bi 11 .eql 10 0] [] [1,2,3,11])
 (.cond (.tmp 11) (.seq (.region [fa 12 1 3,l1 13 12,mv 14 1,bt 15 .leq 13 14,mv 6 15,⟨some 7,.p (.mov (.val (.bool false))),none⟩] [] [6,7])
 (.ret))
 (.skip)))
 (.seq (.region [fa 16 0 3,l1 17 16,mv 18 2,⟨some 19,.e (.call (F 340) [(.tmp 17),(.tmp 18)]),none⟩,⟨some 8,.a (.new [.int .i64 (.ofNat 0),.int .i64 (.ofNat 0),.int .i64 (.ofNat 0),.int .i64 (.ofNat 0)]),none⟩,⟨none,.e (.store 4 (.tmp 8) (.tmp 19)),none⟩] [] [1,8])
 (.seq (.region [fa 20 1 8,l1 21 20,bi 22 .eql 21 2,mv 23 22,⟨some 24,.p (.faddr 1 (.tmp 8)),(some (23,false))⟩,⟨some 25,.load1 (.tmp 24),(some (23,false))⟩,⟨some 26,.p (.bin .eql (.tmp 25) (.val (.int .i64 (.ofNat 3)))),(some (23,false))⟩,⟨some 27,.p (.pick (.tmp 23) (.val (.bool true)) (.tmp 26)),none⟩,mv 28 27,⟨some 29,.p (.faddr 3 (.tmp 8)),(some (28,true))⟩,⟨some 30,.load1 (.tmp 29),(some (28,true))⟩,⟨some 31,.p (.mov (.tmp 1)),(some (28,true))⟩,⟨some 32,.p (.bin .leq (.tmp 30) (.tmp 31)),(some (28,true))⟩,⟨some 33,.p (.pick (.tmp 28) (.tmp 32) (.val (.bool false))),none⟩,mv 6 33] [] [6,8])
 (.seq (.dregion [⟨mv 34 6,0,9⟩,⟨mv 35 6,0,9⟩,⟨mv 36 35,0,9⟩,⟨⟨some 37,.p (.faddr 1 (.tmp 8)),(some (36,true))⟩,0,9⟩,⟨⟨some 38,.load1 (.tmp 37),(some (36,true))⟩,0,9⟩,⟨⟨some 39,.p (.bin .eql (.tmp 38) (.val (.int .i64 (.ofNat 2)))),(some (36,true))⟩,0,9⟩,⟨⟨some 40,.p (.pick (.tmp 36) (.tmp 39) (.val (.bool false))),none⟩,0,9⟩,⟨mv 6 34,0,9⟩,⟨mv 7 40,0,9⟩] [6,7])
 (.ret)))))
def M355 (F : Nat → Nat) : Fun := ⟨41,3,(K355 F).erase,[.tmp 6,.tmp 7]⟩
theorem ok355 {F : Nat → Nat} : (K355 F).ok = true := by kernel_rfl
abbrev K356 (_F : Nat → Nat) : KC := .seq (.region [⟨some 2,.p (.mov (.val (.nilslice))),none⟩] [] [0])
 (.seq (.seq (.region [mv 6 0,lb 7 6,bi 8 .lss 7 2] [] [0,8])
 (.cond (.tmp 8) (.seq (.region [mv 9 0,mv 2 9] [] [2])
 (.ret))
 (.skip)))
 (.seq (.seq (.region [mi 3 1] [] [0,3])
 (.block 0 (.loop (.seq (.seq (.region [mv 10 3,mv 11 0,lb 12 11,bt 13 .lss 10 12] [] [0,3,13])
 (.cond (.tmp 13) (.skip)
 (.exit 0)))
 (.seq (.block 1 (.seq (.dregion [⟨mv 16 0,0,10⟩,⟨mv 17 3,0,10⟩,⟨ix 18 1 16 17,0,10⟩,⟨l1 19 18,0,10⟩,⟨mv 20 0,0,10⟩,⟨mv 21 3,0,10⟩,⟨bi 22 .sub 21 1,0,10⟩,⟨ix 23 1 20 22,0,10⟩,⟨l1 24 23,0,10⟩,⟨bt 25 .eql 19 24,0,10⟩] [0,3,25])
 (.cond (.tmp 25) (.seq (.region [mv 26 0,mv 27 3,⟨some 28,.p (.slc 1 (.tmp 26) (some (.tmp 27)) none none),none⟩,mv 4 28] [] [0,3,4])
 (.seq (.seq (.region [mi 5 1] [] [0,3,4,5])
 (.block 2 (.loop (.seq (.seq (.region [mv 29 5,mv 30 4,lb 31 30,bt 32 .lss 29 31] [] [0,3,4,5,32])
 (.cond (.tmp 32) (.skip)
 (.exit 2)))
 (.seq (.block 3 (.seq (.dregion [⟨mv 35 4,0,10⟩,⟨mv 36 5,0,10⟩,⟨ix 37 1 35 36,0,10⟩,⟨l1 38 37,0,10⟩,⟨mv 39 4,0,10⟩,⟨mv 40 5,0,10⟩,⟨bi 41 .sub 40 1,0,10⟩,⟨ix 42 1 39 41,0,10⟩,⟨l1 43 42,0,10⟩,⟨bt 44 .neq 38 43,0,10⟩] [0,3,4,5,44])
 (.cond (.tmp 44) (.seq (.region [mv 45 0,mv 46 3,mv 47 4,mv 48 5,ix 49 1 47 48,l1 50 49,ix 51 1 45 46,⟨none,.e (.store 1 (.tmp 51) (.tmp 50)),none⟩] [] [0,3,4,5])
 (.region [mv 52 3,bi 53 .add 52 1,mv 3 53] [] [0,3,4,5]))
 (.skip))))
 (.region [mv 33 5,bi 34 .add 33 1,mv 5 34] [] [0,3,4,5]))))))
 (.seq (.region [mv 54 0,mv 55 3,⟨some 56,.p (.slc 1 (.tmp 54) (some (.tmp 55)) none none),none⟩,⟨none,.e (.clear [.int .i64 (.ofNat 0)] (.tmp 56)),none⟩] [] [0,3])
 (.seq (.region [mv 57 0,mv 58 3,⟨some 59,.p (.slc 1 (.tmp 57) none (some (.tmp 58)) none),none⟩,mv 2 59] [] [2])
 (.ret)))))
 (.skip))))
 (.region [mv 14 3,bi 15 .add 14 1,mv 3 15] [] [0,3]))))))
 (.seq (.region [mv 60 0,mv 2 60] [] [2])
 (.ret))))
def M356 (F : Nat → Nat) : Fun := ⟨61,1,(K356 F).erase,[.tmp 2]⟩
theorem ok356 {F : Nat → Nat} : (K356 F).ok = true := by kernel_rfl
abbrev K357 (F : Nat → Nat) : KC := .seq (.region [⟨some 4,.p (.mov (.val (.bool false))),none⟩] [] [0,1])
 (.seq (.region [mv 5 0,mv 6 1,⟨some 7,.e (.call (F 358) [(.tmp 5),(.tmp 6)]),none⟩,bi 8 .geq 7 0,mv 4 8] [] [4])
 (.ret))
def M357 (F : Nat → Nat) : Fun := ⟨9,2,(K357 F).erase,[.tmp 4]⟩
theorem ok357 {F : Nat → Nat} : (K357 F).ok = true := by kernel_rfl
abbrev K358 (_F : Nat → Nat) : KC := .seq (.region [mi 4 0] [] [0,1])
 (.seq (.seq (.region [mv 6 0,lb 7 6,mi 8 0] [] [0,1,7,8])
 (.block 0 (.loop (.seq (.region [bt 9 .lss 8 7] [] [0,1,7,8,9])
 (.seq (.cond (.tmp 9) (.skip)
 (.exit 0))
 (.seq (.block 1 (.seq (.region [mv 10 8,mv 5 10] [] [0,1,5,7,8])
 (.seq (.region [mv 11 1,mv 12 0,mv 13 5,ix 14 1 12 13,l1 15 14,bt 16 .eql 11 15] [] [0,1,5,7,8,16])
 (.cond (.tmp 16) (.seq (.region [mv 17 5,mv 4 17] [] [4])
 (.ret))
 (.skip)))))
 (.region [bi 18 .add 8 1,mv 8 18] [] [0,1,7,8])))))))
 (.seq (.region [⟨some 4,.p (.mov (.val (.int .i64 (.negSucc 0)))),none⟩] [] [4])
 (.ret)))
def M358 (F : Nat → Nat) : Fun := ⟨19,2,(K358 F).erase,[.tmp 4]⟩
theorem ok358 {F : Nat → Nat} : (K358 F).ok = true := by kernel_rfl
end Go.Lib
end
