/-
  Texts that the claim's last one rests on, joined.
-/
import Derived.Test.YtnbmmnjihipahaaBModlBackh
import Derived.Test.YtnbmmnjihipahaaBModlBackg
import Derived.Test.YtnbmmnjihipahaaBModlBackf

section
set_option maxRecDepth 10000
namespace Go.Lib
open Go.Vm Go.Dv Go.Srt
variable {p : Prog} {ext : Ext} {F : Nat → Nat} {α : Type}
theorem dvd_step {d c a : Nat} (h1 : d ∣ c) (h2 : d ∣ a) (h : c < a) : c + d ≤ a := by
  have := Nat.le_of_dvd (show 0 < a - c by omega) (Nat.dvd_sub h2 h1)
  omega
def Blk (cmp : α → α → Int) (Y : List α) (z lo n : Nat) : Prop := ∀ a, lo ≤ a → z ∣ a → Srt cmp Y a (min (a + z) n)
def Blb (cmp : α → α → Int) (Y : List α) (z hi : Nat) : Prop := ∀ a, a < hi → z ∣ a → Srt cmp Y a (a + z)
def StI1 (E : Enc α) (H : HpD) (bs c : Nat) (ex : Bool) (n : Nat) (cv : D) (cmp : α → α → Int) (X : List α) (k : Nat) (fr : FrD) (H' : HpD) : Prop :=
  ∃ (a : Nat) (Y : List α), k = n - a ∧ a ≤ n ∧ 20 ∣ a ∧ fr = [(0, sl bs n c ex), (1, iD n), (2, cv), (6, iD 20), (7, iD a), (8, iD (a + 20))] ∧ H' = hp E H bs Y ∧ Y.Perm X ∧ Blb cmp Y 20 a
def StI2 (E : Enc α) (H : HpD) (bs c : Nat) (ex : Bool) (n : Nat) (cv : D) (cmp : α → α → Int) (X : List α) (k : Nat) (fr : FrD) (H' : HpD) : Prop :=
  ∃ (z : Nat) (Y : List α), k = 2 * n + 40 - z ∧ 20 ≤ z ∧ z ≤ 2 * n + 20 ∧ fr = [(0, sl bs n c ex), (1, iD n), (2, cv), (6, iD z)] ∧ H' = hp E H bs Y ∧ Y.Perm X ∧ Blk cmp Y z 0 n
def StI3 (E : Enc α) (H : HpD) (bs c : Nat) (ex : Bool) (n : Nat) (cv : D) (cmp : α → α → Int) (X : List α) (z k : Nat) (fr : FrD) (H' : HpD) : Prop :=
  ∃ (a : Nat) (Y : List α), k = n - a ∧ a ≤ n ∧ 2 * z ∣ a ∧ fr = [(0, sl bs n c ex), (1, iD n), (2, cv), (6, iD z), (7, iD a), (8, iD (a + 2 * z))] ∧ H' = hp E H bs Y ∧ Y.Perm X ∧ Blb cmp Y (2 * z) a ∧ Blk cmp Y z a n
set_option maxHeartbeats 2000000 in
theorem stable (L : HSrt p ext F) {E : Enc α} {H : HpD} {bs c : Nat} {ex : Bool} {X : List α} {cv : D} {n : Nat} {G : α → Prop} {cmp : α → α → Int} (hc : Cmp p ext E G cv cmp) (hbs : bs < H.next) (hX : X.length = n) (hn : n < 1000000) (hG : ∀ x, x ∈ X → G x) : WcD p ext (F 27) [sl bs n c ex, iD n, cv] (hp E H bs X) (fun d H' => d = .tup [] ∧ ∃ X', H' = hp E H bs X' ∧ X'.Perm X ∧ Srt cmp X' 0 n) := by
  refine wc_of L.h27 (M := M27) rfl ok27 rfl (sem_run 9000 _ ?_)
  simp
  refine sem_loop (StI1 E H bs c ex n cv cmp X) ?_ (k := n) ⟨0, X, by simp, by omega, ⟨0, rfl⟩, by simp, rfl, .refl _, fun a h => by omega⟩
  rintro k fr H' ⟨a, Y, rfl, ha, hda, rfl, rfl, hp1, hb1⟩
  refine sem_run 9000 _ ?_
  simp
  have hlY : Y.length = n := hp1.length_eq.trans hX
  have hGY : ∀ x, x ∈ Y → G x := fun x h => hG x (hp1.mem_iff.1 h)
  by_cases c1 : a + 20 ≤ n
  · have c1' : (a : Int) + 20 ≤ n := by omega
    have w1 : wr .i64 ((a : Int) + 20 + 20) = ((a + 20 + 20 : Nat) : Int) := by rw [wr_of] <;> omega
    simp [c1']
    have sp := insertion L (X := Y) (c := c) (ex := ex) hc hbs (by omega) hGY (a := a) (b := a + 20) (by omega) (by omega)
    rw [hlY] at sp
    refine sem_call (by simpa [iD] using sp) ?_
    rintro _ _ ⟨rfl, Z, rfl, hm, hz⟩
    refine sem_run 9000 _ ?_
    simp [w1]
    refine sem_ok ?_
    refine ⟨n - (a + 20), by omega, a + 20, Z, rfl, c1, (Nat.dvd_add_right hda).2 ⟨1, rfl⟩, by simp, rfl, hm.perm.trans hp1, fun q h1 h2 => ?_⟩
    by_cases e : q < a
    · exact Srt.of_out (hb1 q e h2) hm (.inl (dvd_step h2 hda e))
    · by_cases e2 : q = a
      · subst e2; exact hz
      · have := dvd_step hda h2 (by omega); omega
  · have c1' : ¬ (a : Int) + 20 ≤ n := by omega
    simp [c1']
    refine sem_exit (sem_run 9000 _ ?_)
    simp
    have sp := insertion L (X := Y) (c := c) (ex := ex) hc hbs (by omega) hGY (a := a) (b := n) (by omega) (by omega)
    rw [hlY] at sp
    refine sem_call sp ?_
    rintro _ _ ⟨rfl, Z, rfl, hm, hz⟩
    refine sem_run 9000 _ ?_
    simp
    have hb2 : Blk cmp Z 20 0 n := fun q _ h2 => by
      by_cases e : q < a
      · exact (Srt.of_out (hb1 q e h2) hm (.inl (dvd_step h2 hda e))).mono (Nat.le_refl _) (by omega)
      · by_cases e2 : q = a
        · subst e2; exact hz.mono (Nat.le_refl _) (by omega)
        · intro p' q' x y k1 k2 k3
          have := dvd_step hda h2 (by omega); omega
    refine sem_loop (StI2 E H bs c ex n cv cmp X) ?_ (k := 2 * n + 40 - 20) ⟨20, Z, rfl, by omega, by omega, rfl, rfl, hm.perm.trans hp1, hb2⟩
    rintro k fr H' ⟨z, Y, rfl, hz1, hz2, rfl, rfl, hp2, hb3⟩
    refine sem_run 9000 _ ?_
    simp
    by_cases c2 : z < n
    · have w2 : wr .i64 (2 * (z : Int)) = ((2 * z : Nat) : Int) := by rw [wr_of] <;> omega
      have w3 : wr .i64 ((z : Int) * 2) = ((2 * z : Nat) : Int) := by rw [wr_of] <;> omega
      simp [c2, w2, -Int.natCast_mul]
      refine sem_loop (StI3 E H bs c ex n cv cmp X z) ?_ (k := n) ⟨0, Y, by simp, by omega, ⟨0, by simp⟩, by simp, rfl, hp2, fun a h => by omega, hb3⟩
      rintro k fr H' ⟨a, Y, rfl, ha, hda, rfl, rfl, hp1, hb1, hb2⟩
      refine sem_run 9000 _ ?_
      simp
      have hlY : Y.length = n := hp1.length_eq.trans hX
      have hGY : ∀ x, x ∈ Y → G x := fun x h => hG x (hp1.mem_iff.1 h)
      have hdz : z ∣ a := Nat.dvd_trans ⟨2, by omega⟩ hda
      have w4 : wr .i64 ((a : Int) + z) = ((a + z : Nat) : Int) := by rw [wr_of] <;> omega
      by_cases c3 : a + 2 * z ≤ n
      · have c3' : (a : Int) + 2 * (z : Int) ≤ n := by omega
        have w1 : wr .i64 ((a : Int) + 2 * (z : Int) + 2 * (z : Int)) = ((a + 2 * z + 2 * z : Nat) : Int) := by rw [wr_of] <;> omega
        have w1' : wr .i64 (((a + 2 * z : Nat) : Int) + ((2 * z : Nat) : Int)) = ((a + 2 * z + 2 * z : Nat) : Int) := by rw [wr_of] <;> omega
        have w5 : wr .i64 (2 * (z : Int)) = 2 * (z : Int) := by rw [wr_of] <;> omega
        simp [c3', w4]
        have sp := symMerge L (X := Y) (c := c) (ex := ex) hc hbs hn n (a := a) (m := a + z) (b := a + 2 * z) (by omega) hlY hGY (by omega) (by omega) c3 ((hb2 a (Nat.le_refl _) hdz).mono (Nat.le_refl _) (by omega)) ((hb2 (a + z) (by omega) ((Nat.dvd_add_right hdz).2 ⟨1, by omega⟩)).mono (Nat.le_refl _) (by omega))
        refine sem_call (by simpa [iD] using sp) ?_
        rintro _ _ ⟨rfl, Z, rfl, hm, hz⟩
        refine sem_run 9000 _ ?_
        simp [w1, w5]
        refine sem_ok ?_
        refine ⟨n - (a + 2 * z), by omega, a + 2 * z, Z, rfl, c3, (Nat.dvd_add_right hda).2 ⟨1, by omega⟩, by simp, rfl, hm.perm.trans hp1, fun q h1 h2 => ?_, fun q h1 h2 => ?_⟩
        · by_cases e : q < a
          · exact Srt.of_out (hb1 q e h2) hm (.inl (dvd_step h2 hda e))
          · by_cases e2 : q = a
            · subst e2; exact hz
            · have := dvd_step hda h2 (by omega); omega
        · exact Srt.of_out (hb2 q (by omega) h2) hm (.inr h1)
      · have c3' : ¬ (a : Int) + 2 * (z : Int) ≤ n := by omega
        simp [c3']
        refine sem_exit (sem_run 9000 _ ?_)
        simp [w4]
        have fin : ∀ Z : List α, Mix Y Z a n → Srt cmp Z a n → Blk cmp Z (2 * z) 0 n := fun Z hm hz q _ h2 => by
          by_cases e : q < a
          · exact (Srt.of_out (hb1 q e h2) hm (.inl (dvd_step h2 hda e))).mono (Nat.le_refl _) (by omega)
          · by_cases e2 : q = a
            · subst e2; exact hz.mono (Nat.le_refl _) (by omega)
            · intro p' q' x y k1 k2 k3
              have := dvd_step hda h2 (by omega); omega
        by_cases c4 : a + z < n
        · have c4' : (a : Int) + (z : Int) < n := by omega
          simp [c4']
          have sp := symMerge L (X := Y) (c := c) (ex := ex) hc hbs hn n (a := a) (m := a + z) (b := n) (by omega) hlY hGY (by omega) (by omega) (Nat.le_refl _) ((hb2 a (Nat.le_refl _) hdz).mono (Nat.le_refl _) (by omega)) ((hb2 (a + z) (by omega) ((Nat.dvd_add_right hdz).2 ⟨1, by omega⟩)).mono (Nat.le_refl _) (by omega))
          refine sem_call (by simpa [iD] using sp) ?_
          rintro _ _ ⟨rfl, Z, rfl, hm, hz⟩
          refine sem_run 9000 _ ?_
          simp [w3]
          refine sem_ok ?_
          exact ⟨2 * n + 40 - 2 * z, by omega, 2 * z, Z, rfl, by omega, by omega, by simp, rfl, hm.perm.trans hp1, fin Z hm hz⟩
        · have c4' : ¬ (a : Int) + (z : Int) < n := by omega
          simp [c4', w3]
          refine sem_ok ?_
          exact ⟨2 * n + 40 - 2 * z, by omega, 2 * z, Y, rfl, by omega, by omega, by simp, rfl, hp1, fin Y .refl ((hb2 a (Nat.le_refl _) hdz).mono (Nat.le_refl _) (by omega))⟩
    · simp [c2]
      refine sem_exit (sem_run 9000 _ ?_)
      simp
      refine sem_ok ?_
      simp [M27]
      refine ⟨Y, rfl, hp2, ?_⟩
      have := hb3 0 (Nat.le_refl _) ⟨0, by simp⟩
      rwa [Nat.min_eq_right (by omega)] at this
theorem sortStable (L : HSrt p ext F) {E : Enc α} {H : HpD} {bs c : Nat} {ex : Bool} {X : List α} {cv : D} {n : Nat} {G : α → Prop} {cmp : α → α → Int} (hc : Cmp p ext E G cv cmp) (hbs : bs < H.next) (hX : X.length = n) (hn : n < 1000000) (hG : ∀ x, x ∈ X → G x) : WcD p ext (F 26) [sl bs n c ex, cv] (hp E H bs X) (fun d H' => d = .tup [] ∧ ∃ X', H' = hp E H bs X' ∧ X'.Perm X ∧ Srt cmp X' 0 n) := by
  refine wc_of L.h26 (M := M26) rfl ok26 rfl (sem_run 9000 _ ?_)
  simp
  refine sem_call (stable L hc hbs hX hn hG) ?_
  rintro _ _ ⟨rfl, Z, rfl, h1, h2⟩
  refine sem_run 9000 _ ?_
  simp
  refine sem_ok ?_
  simp [M26]
  exact ⟨Z, rfl, h1, h2⟩
end Go.Lib
end

section
set_option maxRecDepth 10000
namespace Go.Lib
open Go.Vm Go.Dv Go.Srt
variable {p : Prog} {ext : Ext} {F : Nat → Nat}
structure HAggr (p : Prog) (ext : Ext) (F : Nat → Nat) : Prop where
  srt : HSrt p ext F
  schm : HSchm p ext F
  h32 : Has p ext F 32 M32
  h33 : Has p ext F 33 M33
  h34 : Has p ext F 34 M34
  h35 : Has p ext F 35 M35
  h36 : Has p ext F 36 M36
  h37 : Has p ext F 37 M37
  h38 : Has p ext F 38 M38
  h39 : Has p ext F 39 M39
  h40 : Has p ext F 40 M40
  h41 : Has p ext F 41 M41
  h42 : Has p ext F 42 M42
  h43 : Has p ext F 43 M43
  h44 : Has p ext F 44 M44
theorem slc_own {sz b n : Nat} {ex : Bool} : slcD sz (.slice b 0 sz n n ex) none (some (.lit (.int .i64 (n : Int)))) (some (.lit (.int .i64 (n : Int)))) = some (.slice b 0 sz n n true) := by
  simp [slcD, bndD, slcV, sliceO, needH, boundM, boundH, boundL, ble_d]
theorem slc_nil {sz : Nat} : slcD sz (.lit .nilslice) none (some (.lit (.int .i64 0))) (some (.lit (.int .i64 0))) = some (.lit .nilslice) := rfl
theorem clip_own (L : HAggr p ext F) {H0 H : HpD} {s : D} {el : List (List D)} (g : Gr H0 H 1 s el) : WcD p ext (F 39) [s] H (fun d H' => Gr H0 H' 1 d el) := by
  refine wc_of L.h39 (M := M39) rfl ok39 rfl (sem_run 9000 _ ?_)
  rcases g.at_ with ⟨rfl, rfl⟩ | ⟨b, ex, el0, rfl, h1, h2, h3, h4⟩
  · simp [slc_nil]
    refine sem_ret ?_
    simp [M39]
    exact g
  · simp [slc_own]
    refine sem_ret ?_
    simp [M39]
    exact ⟨g.sub, g.len, .inr ⟨b, true, el0, rfl, h1, h2, h3, h4⟩⟩
def StillI (H0 : HpD) (l : List Row) (k : Nat) (fr : FrD) (H : HpD) : Prop :=
  ∃ (i : Nat) (s : D), k = l.length - i ∧ i ≤ l.length ∧ fr = [(3, s), (6, rowsD l), (7, .lit (.int .i64 (l.length : Int))), (8, .lit (.int .i64 (i : Int)))] ∧ Gr H0 H 1 s (rowsE (l.take i))
def Fine (l : List Row) : Prop := l.length < 1000000 ∧ ∀ r, r ∈ l → r.length < 1000000
theorem still_own (L : HAggr p ext F) {l : List Row} {H : HpD} (hl : Fine l) : WcD p ext (F 37) [rowsD l] H (fun d H' => Gr H H' 1 d (rowsE l)) := by
  refine wc_of L.h37 (M := M37) rfl ok37 rfl (sem_run 9000 _ ?_)
  simp
  refine sem_loop (StillI H l) ?_ (k := l.length) ⟨0, .lit .nilslice, by simp, by simp, rfl, by simpa [rowsE] using Gr.start⟩
  rintro k fr H' ⟨i, s, rfl, hi, rfl, g⟩
  refine sem_run 9000 _ ?_
  simp
  have hl1 := hl.1
  by_cases c : i < l.length
  · have hx : l[i]? = some l[i] := by simp
    have hr := hl.2 l[i] (by simp)
    simp [c]
    refine sem_fn (schm_row L.schm hr) (by first | exact D.les_refl _ | simp) (sem_run 9000 _ ?_)
    simp
    refine sem_push (g.mono (by repeat (first | exact Sub.refl | apply Sub.new | refine Sub.put ?_ (by first | omega | (simp only [put_next, new_next]; omega))))) rfl rfl (roomyD (by simp; omega) (by simp; omega)) fun s' H1 g1 _ _ => ?_
    simp
    refine sem_ok ?_
    have hw : wr .i64 ((i : Int) + 1) = ((i + 1 : Nat) : Int) := by rw [wr_of] <;> omega
    rw [rowsE_snoc hx] at g1
    exact ⟨_, by omega, i + 1, s', rfl, by omega, by rw [hw], g1⟩
  · simp [c]
    refine sem_exit (sem_run 9000 _ ?_)
    have : i = l.length := by omega
    subst this
    rw [List.take_length] at g
    simp
    refine sem_call (clip_own L g) fun d H2 g2 => ?_
    refine sem_run 9000 _ ?_
    simp
    refine sem_ret ?_
    simp [M37]
    exact g2
def rowEnc : Enc Row := ⟨rowD, fun _ => rfl, fun _ => rfl⟩
theorem rowsE_flat {l : List Row} : (rowsE l).flatten = l.map rowEnc.d := by
  induction l with
  | nil => rfl
  | cons r l ih => simp only [rowsE, List.map_cons, List.flatten_cons] at ih ⊢; rw [ih]; rfl
def NilI (fr0 : FrD) (H0 : HpD) (k : Nat) (fr : FrD) (H : HpD) : Prop := k = 0 ∧ fr = fr0 ∧ H = H0
theorem insertion_nil (L : HSrt p ext F) {H : HpD} {cv : D} : WcD p ext (F 28) [.lit .nilslice, .lit (.int .i64 0), .lit (.int .i64 0), cv] H (fun d H' => d = .tup [] ∧ H' = H) := by
  refine wc_of L.h28 (M := M28) rfl ok28 rfl (sem_run 9000 _ ?_)
  simp
  refine sem_loop (NilI [(0, .lit .nilslice), (1, .lit (.int .i64 0)), (2, .lit (.int .i64 0)), (3, cv), (8, .lit (.int .i64 1))] H) ?_ (k := 0) ⟨rfl, rfl, rfl⟩
  rintro k fr H' ⟨rfl, rfl, rfl⟩
  refine sem_run 9000 _ ?_
  simp
  refine sem_exit (sem_run 9000 _ ?_)
  simp
  refine sem_ok ?_
  simp [M28]
theorem stable_nil (L : HSrt p ext F) {H : HpD} {cv : D} : WcD p ext (F 27) [.lit .nilslice, .lit (.int .i64 0), cv] H (fun d H' => d = .tup [] ∧ H' = H) := by
  refine wc_of L.h27 (M := M27) rfl ok27 rfl (sem_run 9000 _ ?_)
  simp
  refine sem_loop (NilI [(0, .lit .nilslice), (1, .lit (.int .i64 0)), (2, cv), (6, .lit (.int .i64 20)), (7, .lit (.int .i64 0)), (8, .lit (.int .i64 20))] H) ?_ (k := 0) ⟨rfl, rfl, rfl⟩
  rintro k fr H' ⟨rfl, rfl, rfl⟩
  refine sem_run 9000 _ ?_
  simp
  refine sem_exit (sem_run 9000 _ ?_)
  simp
  refine sem_call (insertion_nil L) ?_
  rintro _ _ ⟨rfl, rfl⟩
  refine sem_run 9000 _ ?_
  simp
  refine sem_loop (NilI [(0, .lit .nilslice), (1, .lit (.int .i64 0)), (2, cv), (6, .lit (.int .i64 20))] _) ?_ (k := 0) ⟨rfl, rfl, rfl⟩
  rintro k fr H' ⟨rfl, rfl, rfl⟩
  refine sem_run 9000 _ ?_
  simp
  refine sem_exit (sem_run 9000 _ ?_)
  simp
  refine sem_ok ?_
  simp [M27]
theorem sortStable_nil (L : HSrt p ext F) {H : HpD} {cv : D} : WcD p ext (F 26) [.lit .nilslice, cv] H (fun d H' => d = .tup [] ∧ H' = H) := by
  refine wc_of L.h26 (M := M26) rfl ok26 rfl (sem_run 9000 _ ?_)
  simp
  refine sem_call (stable_nil L) ?_
  rintro _ _ ⟨rfl, rfl⟩
  refine sem_run 9000 _ ?_
  simp
  refine sem_ok ?_
  simp [M26]
theorem sort_own (L : HAggr p ext F) {H0 H : HpD} {s : D} {l : List Row} {cv : D} {G : Row → Prop} {cmp : Row → Row → Int} (hc : Cmp p ext rowEnc G cv cmp) (hl : l.length < 1000000) (hG : ∀ r, r ∈ l → G r) (g : GrX H0 H 1 s (rowsE l)) :
    WcD p ext (F 26) [s, cv] H (fun d H' => d = .tup [] ∧ ∃ l', Gr H0 H' 1 s (rowsE l') ∧ l'.Perm l ∧ Srt cmp l' 0 l.length) := by
  rcases g.at_ with ⟨rfl, h⟩ | ⟨b, ex, rfl, h1, h2, h3⟩
  · have : l = [] := by simpa [rowsE] using h
    subst this
    refine (sortStable_nil L.srt).mono ?_
    rintro d H' ⟨rfl, rfl⟩
    exact ⟨rfl, [], g.gr, .refl _, fun p q x y h1 h2 h3 => by simp at h3⟩
  · rw [rowsE_flat] at h3
    have sp := sortStable L.srt (E := rowEnc) (H := H) (bs := b) (c := l.length) (ex := ex) (X := l) (n := l.length) hc h2 rfl hl hG
    rw [hp_self h3] at sp
    rw [rows_len]
    refine sp.mono ?_
    rintro d H' ⟨rfl, l', rfl, hp1, hs⟩
    refine ⟨rfl, l', ⟨g.gr.sub.put h1, by simpa using rows_one, .inr ⟨b, ex, rowsE l', ?_, h1, h2, ?_, D.less_refl _⟩⟩, hp1, hs⟩
    · rw [rows_len, hp1.length_eq]
    · rw [rowsE_flat]; simp
def cmpR (a b : Row) : Int := cmpRow cmpV a b
theorem cmpR_ok (L : HAggr p ext F) {ks : List Int} : Cmp p ext rowEnc (fun r => Kin ks r ∧ r.length < 1000000) (.func (F 2) [] []) cmpR :=
  ⟨⟨F 2, [], [], rfl, fun x y hx _ => by simpa [rowEnc, cmpR] using schm_rows L.schm hx.2⟩, fun x y hx hy => cmpRow_ord.anti x y hx.1 hy.1, fun x y z hx hy hz => cmpRow_ord.trans x y z hx.1 hy.1 hz.1⟩
theorem aggr_sort_own (L : HAggr p ext F) {l : List Row} {ks : List Int} {H : HpD} (hl : Fine l) (hks : ∀ r, r ∈ l → Kin ks r) : WcD p ext (F 33) [rowsD l] H (fun d H' => ∃ l', Gr H H' 1 d (rowsE l') ∧ l'.Perm l ∧ Srt cmpR l' 0 l.length) := by
  refine wc_of L.h33 (M := M33) rfl ok33 rfl (sem_run 9000 _ ?_)
  simp
  refine sem_call (still_own L hl) fun d H1 g1 => ?_
  refine sem_run 9000 _ ?_
  simp
  refine sem_exact_call g1 fun H2 g2 _ _ => ?_
  refine sem_call (sort_own L (cmpR_ok L) hl.1 (fun r hr => ⟨hks r hr, hl.2 r hr⟩) g2) ?_
  rintro _ H3 ⟨rfl, l', g3, hp1, hs⟩
  refine sem_run 9000 _ ?_
  simp
  refine sem_ret ?_
  simp [M33]
  exact ⟨l', g3, hp1, hs⟩
end Go.Lib
end

section
set_option maxRecDepth 10000
namespace Go.Lib
open Go.Vm Go.Dv
variable {p : Prog} {ext : Ext} {F : Nat → Nat}
theorem max2_int {tab : Tab} {a b : Int} : foldD (max2V tab) [.lit (.int .i64 a), .lit (.int .i64 b)] = some (.lit (.int .i64 (max a b))) := by
  show litO (some (V.int .i64 (cond (ilt a b) b a))) = _
  rw [ilt_d]
  by_cases h : a < b
  · simp only [h, decide_true, cond_true, litO_int]; rw [Int.max_def, if_pos (by omega)]
  · simp only [h, decide_false, cond_false, litO_int]
    rw [Int.max_def]; split
    · rw [show a = b by omega]
    · rfl
theorem min2_int {tab : Tab} {a b : Int} : foldD (min2V tab) [.lit (.int .i64 a), .lit (.int .i64 b)] = some (.lit (.int .i64 (min a b))) := by
  show litO (some (V.int .i64 (cond (ilt b a) b a))) = _
  rw [ilt_d]
  by_cases h : b < a
  · simp only [h, decide_true, cond_true, litO_int]
    rw [Int.min_def, if_neg (by omega)]
  · simp only [h, decide_false, cond_false, litO_int]
    rw [Int.min_def, if_pos (by omega)]
attribute [simp] max2_int min2_int
theorem ref6_sameVal (L : HRef6 p ext F) {a b : Vl} : FnD p ext (F 50) [.agg a.c, .agg b.c] (.lit (.bool (decide (a = b)))) := by
  refine fn_of L.h50 (M := M50) rfl ok50 rfl fun H => sem_run 9000 _ ?_
  simp
  by_cases h1 : a.null = b.null
  · by_cases h2 : a.kind = b.kind
    · by_cases h3 : a.n = b.n
      · by_cases h4 : a.bytes = b.bytes
        · simp [h1, h2, h3, h4]
          refine sem_ret ?_
          simp [M50, vl_ext, h1, h2, h3, h4]
          exact .same (by simp)
        · simp [h1, h2, h3, h4]
          refine sem_ret ?_
          simp [M50, vl_ext, h4]
          exact .same (by simp)
      · simp [h1, h2, h3]
        refine sem_ret ?_
        simp [M50, vl_ext, h3]
        exact .same (by simp)
    · simp [h1, h2]
      refine sem_ret ?_
      simp [M50, vl_ext, h2]
      exact .same (by simp)
  · simp [h1]
    refine sem_ret ?_
    simp [M50, vl_ext, h1]
    exact .same (by simp)
def Same6I {α : Type} [DecidableEq α] (f : List α → D) (x y : List α) (H0 : HpD) (k : Nat) (fr : FrD) (H : HpD) : Prop :=
  ∃ i : Nat, k = x.length - i ∧ i ≤ x.length ∧ decide (x = y) = decide (x.drop i = y.drop i) ∧ fr = [(0, f x), (1, f y), (5, .lit (.int .i64 (i : Int)))] ∧ Sub H0 H
theorem ref6_sameRow (L : HRef6 p ext F) {x y : Row} (hx : x.length < 1000000) : FnD p ext (F 49) [rowD x, rowD y] (.lit (.bool (decide (x = y)))) := by
  refine fn_of L.h49 (M := M49) rfl ok49 rfl fun H => sem_run 9000 _ ?_
  simp
  by_cases hl : x.length = y.length
  · simp [hl]
    refine sem_loop (Same6I rowD x y H) ?_ (k := x.length) ⟨0, by simp, by simp, by simp, rfl, .refl⟩
    rintro k fr H' ⟨i, rfl, hi, hc, rfl, hs⟩
    refine sem_run 9000 _ ?_
    simp
    by_cases c : i < x.length
    · have c3 : i < y.length := by omega
      simp [c, c3]
      refine sem_dfn (ref6_sameVal L (a := x[i]) (b := y[i])) (by first | exact D.les_refl _ | simp) (sem_run 9000 _ ?_)
      simp
      rw [List.drop_eq_getElem_cons c, List.drop_eq_getElem_cons c3] at hc
      by_cases c4 : x[i] = y[i]
      · simp [c4]
        refine sem_ok ?_
        have hw : wr .i64 ((i : Int) + 1) = ((i + 1 : Nat) : Int) := by rw [wr_of] <;> omega
        exact ⟨_, by omega, i + 1, rfl, by omega, by rw [hc]; simp only [c4, List.cons.injEq, true_and], by rw [hw], (by have := hs.next; repeat (first | exact hs | apply Sub.new | refine Sub.put ?_ (by first | omega | (simp only [put_next, new_next]; omega))))⟩
      · simp [c4]
        refine sem_ret ?_
        simp
        refine sem_ret ?_
        simp [M49]
        exact .le (by have := hs.next; repeat (first | exact hs | apply Sub.new | refine Sub.put ?_ (by first | omega | (simp only [put_next, new_next]; omega)))) (by rw [hc]; simp only [c4, List.cons.injEq, false_and, decide_false, D.le_refl]) trivial
    · simp [c]
      refine sem_exit (sem_run 9000 _ ?_)
      simp
      refine sem_ret ?_
      simp [M49]
      rw [hc, List.drop_eq_nil_of_le (by omega : x.length ≤ i), List.drop_eq_nil_of_le (by omega : y.length ≤ i)]
      exact .le (by have := hs.next; repeat (first | exact hs | apply Sub.new | refine Sub.put ?_ (by first | omega | (simp only [put_next, new_next]; omega)))) (by simp) trivial
  · have hl' : ¬ (x.length : Int) = y.length := by omega
    have hne : ¬ x = y := fun e => hl (by rw [e])
    simp [hl']
    refine sem_ret ?_
    simp [M49]
    exact .le .refl (by simp [hne]) trivial
theorem ref6_same (L : HRef6 p ext F) {x y : List Row} (hx : Fine x) : FnD p ext (F 48) [rowsD x, rowsD y] (.lit (.bool (decide (x = y)))) := by
  refine fn_of L.h48 (M := M48) rfl ok48 rfl fun H => sem_run 9000 _ ?_
  simp
  have hx1 := hx.1
  by_cases hl : x.length = y.length
  · simp [hl]
    refine sem_loop (Same6I rowsD x y H) ?_ (k := x.length) ⟨0, by simp, by simp, by simp, rfl, .refl⟩
    rintro k fr H' ⟨i, rfl, hi, hc, rfl, hs⟩
    refine sem_run 9000 _ ?_
    simp
    by_cases c : i < x.length
    · have c3 : i < y.length := by omega
      simp [c, c3]
      refine sem_dfn (ref6_sameRow L (x := x[i]) (y := y[i]) (hx.2 _ (by simp))) (by first | exact D.les_refl _ | simp) (sem_run 9000 _ ?_)
      simp
      rw [List.drop_eq_getElem_cons c, List.drop_eq_getElem_cons c3] at hc
      by_cases c4 : x[i] = y[i]
      · simp [c4]
        refine sem_ok ?_
        have hw : wr .i64 ((i : Int) + 1) = ((i + 1 : Nat) : Int) := by rw [wr_of] <;> omega
        exact ⟨_, by omega, i + 1, rfl, by omega, by rw [hc]; simp only [c4, List.cons.injEq, true_and], by rw [hw], (by have := hs.next; repeat (first | exact hs | apply Sub.new | refine Sub.put ?_ (by first | omega | (simp only [put_next, new_next]; omega))))⟩
      · simp [c4]
        refine sem_ret ?_
        simp
        refine sem_ret ?_
        simp [M48]
        exact .le (by have := hs.next; repeat (first | exact hs | apply Sub.new | refine Sub.put ?_ (by first | omega | (simp only [put_next, new_next]; omega)))) (by rw [hc]; simp only [c4, List.cons.injEq, false_and, decide_false, D.le_refl]) trivial
    · simp [c]
      refine sem_exit (sem_run 9000 _ ?_)
      simp
      refine sem_ret ?_
      simp [M48]
      rw [hc, List.drop_eq_nil_of_le (by omega : x.length ≤ i), List.drop_eq_nil_of_le (by omega : y.length ≤ i)]
      exact .le (by have := hs.next; repeat (first | exact hs | apply Sub.new | refine Sub.put ?_ (by first | omega | (simp only [put_next, new_next]; omega)))) (by simp) trivial
  · have hl' : ¬ (x.length : Int) = y.length := by omega
    have hne : ¬ x = y := fun e => hl (by rw [e])
    simp [hl']
    refine sem_ret ?_
    simp [M48]
    exact .le .refl (by simp [hne]) trivial
end Go.Lib
end

section
set_option maxRecDepth 10000
namespace Go.Lib
open Go.Vm Go.Dv Go.Srt
variable {p : Prog} {ext : Ext} {F : Nat → Nat}
theorem add64_ext (hx : ∀ args h, ext (F 45) args h = extV .add64 args h) {x y : Nat} : FnD p ext (F 45) [.lit (.int .u64 (x : Int)), .lit (.int .u64 (y : Int)), .lit (.int .u64 0)] (.tup [.lit (.int .u64 (((x + y) % 18446744073709551616 : Nat) : Int)), .lit (.int .u64 (((x + y) / 18446744073709551616 : Nat) : Int))]) := by
  intro H ψ S h vs s k
  simp only [VDl, VD, atomV] at k
  obtain ⟨v, r, rfl, ⟨rfl, -⟩, w, r2, rfl, ⟨rfl, -⟩, u, r3, rfl, ⟨rfl, -⟩, rfl⟩ := k
  refine wpc_ext (v := .tup [.int .u64 (((x + y) % 18446744073709551616 : Nat) : Int), .int .u64 (((x + y) / 18446744073709551616 : Nat) : Int)]) (h' := h) ?_ ⟨ψ, S, _, H, .refl, s, ?_, rfl, rfl⟩
  · rw [hx]; rfl
  · simp [VD, VDl, atomV]
theorem wr_u64m {n : Int} : wr .u64 n = n % 18446744073709551616 := by
  rw [wr_eq]; rfl
theorem wr_i64m {n : Int} (h1 : 0 ≤ n) (h2 : n < 18446744073709551616) : wr .i64 n = if n < 9223372036854775808 then n else n - 18446744073709551616 := by
  rw [wr_eq]
  have e : n % 18446744073709551616 = n := by omega
  have : IntKind.wrap .i64 n = if (decide (n % 18446744073709551616 ≥ 9223372036854775808)) = true then n % 18446744073709551616 - 18446744073709551616 else n % 18446744073709551616 := rfl
  rw [this, e]
  by_cases h : n < 9223372036854775808
  · rw [if_neg (by simp; omega), if_pos h]
  · rw [if_pos (by simp; omega), if_neg h]
theorem shr63 {n : Int} : shrI .i64 n 63 = n / 9223372036854775808 := by
  rw [shr_eq, Int.fdiv_eq_ediv_of_nonneg _ (by decide)]
  rfl
def hiT (t : Int) : D := .lit (.int .i64 (t / 18446744073709551616))
def loT (t : Int) : D := .lit (.int .u64 (t % 18446744073709551616))
def In64 (n : Int) : Prop := -9223372036854775808 ≤ n ∧ n < 9223372036854775808
theorem wide_sum {t n : Int} (hn : In64 n) : ∃ x y z q : Nat, t % 18446744073709551616 = x ∧ n % 18446744073709551616 = y ∧ (t + n) % 18446744073709551616 = z ∧ (x + y) % 18446744073709551616 = z ∧ (x + y) / 18446744073709551616 = q ∧ q ≤ 1 ∧
    t / 18446744073709551616 + (n / 9223372036854775808 + (q : Int)) = (t + n) / 18446744073709551616 := by
  unfold In64 at hn
  exact ⟨(t % 18446744073709551616).toNat, (n % 18446744073709551616).toNat, ((t + n) % 18446744073709551616).toNat, _, by omega, by omega, by omega, by omega, rfl, by omega, by omega⟩
theorem wide_add (L : HAggr p ext F) (hx : ∀ args h, ext (F 45) args h = extV .add64 args h) {H : HpD} {b : Nat} {t n : Int} (hb : H.blk b = .cells [hiT t, loT t] false) (_hlt : b < H.next) (ht : -1000000000000000000000000000000000000 < t ∧ t < 1000000000000000000000000000000000000) (hn : In64 n) : WcD p ext (F 42) [.ptr b 0, .lit (.int .i64 n)] H (fun d H' => d = .tup [] ∧ H' = H.put b (.cells [hiT (t + n), loT (t + n)] false)) := by
  refine wc_of L.h42 (M := M42) rfl ok42 rfl (sem_run 9000 _ ?_)
  simp [hb, hiT, loT, wr_u64m]
  obtain ⟨x, y, z, q, e1, e2, e3, s1, s2, s3, s4⟩ := wide_sum (t := t) hn
  rw [e1, e2, e3]
  refine sem_fn (add64_ext hx) (by first | exact D.les_refl _ | simp) (sem_run 9000 _ ?_)
  rw [s1, s2]
  have hn' := hn
  unfold In64 at hn'
  have w1 : wr .i64 (q : Int) = q := by rw [wr_of] <;> omega
  have w2 : wr .i64 (n / 9223372036854775808 + (q : Int)) = n / 9223372036854775808 + (q : Int) := by rw [wr_of] <;> omega
  have w3 : wr .i64 (t / 18446744073709551616 + (n / 9223372036854775808 + (q : Int))) = (t + n) / 18446744073709551616 := by rw [s4, wr_of] <;> omega
  simp [hb, shr63, w1, w2, w3, hiT, loT]
  refine sem_ok ?_
  simp [M42]
def term (c : Int) (r : Row) : Int := if (atV r c).null = true then 0 else (atV r c).n
def sumT (c : Int) (l : List Row) : Int := (l.map (term c)).sum
def Nums (c : Int) (l : List Row) : Prop := ∀ r, r ∈ l → In64 (atV r c).n
theorem sumT_snoc {c : Int} {l : List Row} {i : Nat} {r : Row} (h : l[i]? = some r) : sumT c (l.take (i + 1)) = sumT c (l.take i) + term c r := by
  rw [List.take_add_one, h]; simp [sumT]
theorem sumT_le {c : Int} : ∀ {l : List Row}, Nums c l → -(9223372036854775808 * (l.length : Int)) ≤ sumT c l ∧ sumT c l ≤ 9223372036854775808 * (l.length : Int)
  | [], _ => by simp [sumT]
  | r :: l, h => by
    have ih := sumT_le (c := c) (l := l) fun r hr => h r (by simp [hr])
    have h0 := h r (by simp)
    unfold In64 at h0
    have : sumT c (r :: l) = term c r + sumT c l := by simp [sumT]
    rw [this, List.length_cons]
    unfold term
    split <;> omega
theorem Nums.take {c : Int} {l : List Row} (h : Nums c l) (i : Nat) : Nums c (l.take i) := fun r hr => h r (List.mem_of_mem_take hr)
instance {n : Int} : Decidable (In64 n) := by unfold In64; exact inferInstance
def numV (n : Int) : Vl := ⟨false, 1, n, [], by simp⟩
def sumV (c : Int) (l : List Row) : Vl × Bool := if In64 (sumT c l) then (numV (sumT c l), true) else (zv, false)
theorem wide_end {t : Int} (ht : -1000000000000000000000000000000000000 < t ∧ t < 1000000000000000000000000000000000000) : (¬ t / 18446744073709551616 = (wr .i64 (t % 18446744073709551616)) / 9223372036854775808) ↔ ¬ In64 t := by
  rw [wr_i64m (by omega) (by omega)]
  unfold In64
  split <;> omega
theorem wide_low {t : Int} (h : In64 t) : wr .i64 (t % 18446744073709551616) = t := by
  rw [wr_i64m (by omega) (by omega)]
  unfold In64 at h
  split <;> omega
def zeroC : List D := [.lit (.bool false), .lit (.int .i64 0), .lit (.int .i64 0), .lit .nilslice]
def SumI (H0 : HpD) (c : Int) (l : List Row) (k : Nat) (fr : FrD) (H : HpD) : Prop :=
  ∃ (i : Nat) (t : Int), k = l.length - i ∧ i ≤ l.length ∧ t = sumT c (l.take i) ∧ fr = [(1, .lit (.int .i64 c)), (4, .ptr H0.next 0), (6, .ptr (H0.next + 1) 0), (10, rowsD l), (11, .lit (.int .i64 (l.length : Int))), (12, .lit (.int .i64 (i : Int)))] ∧
    Sub H0 H ∧ H.blk (H0.next + 1) = .cells [hiT t, loT t] false ∧ H.blk H0.next = .cells zeroC false ∧ H0.next + 1 < H.next
theorem aggr_sum (L : HAggr p ext F) (hx : ∀ args h, ext (F 45) args h = extV .add64 args h) {l : List Row} {c : Int} (hl : Fine l) (hn : Nums c l) : FnD p ext (F 43) [rowsD l, .lit (.int .i64 c)] (.tup [.agg (sumV c l).1.c, .lit (.bool (sumV c l).2)]) := by
  refine fn_of L.h43 (M := M43) rfl ok43 rfl fun H => sem_run 9000 _ ?_
  simp
  refine sem_loop (SumI H c l) ?_ (k := l.length) ⟨0, 0, by simp, by simp, by simp [sumT], rfl, (by repeat (first | exact Sub.refl | apply Sub.new | refine Sub.put ?_ (by first | omega | (simp only [put_next, new_next]; omega)))), by simp [hiT, loT], by simp [zeroC], by simp⟩
  rintro k fr H' ⟨i, t, rfl, hi, ht, rfl, hs, h1, h0, hlt⟩
  refine sem_run 9000 _ ?_
  simp
  have hl1 := hl.1
  by_cases c1 : i < l.length
  · have hx' : l[i]? = some l[i] := by simp
    simp [c1]
    refine sem_fn (schm_at L.schm) (by first | exact D.les_refl _ | simp) (sem_run 9000 _ ?_)
    simp
    have hb := sumT_le (hn.take i)
    rw [← ht, List.length_take, Nat.min_eq_left hi] at hb
    have hw : wr .i64 ((i : Int) + 1) = ((i + 1 : Nat) : Int) := by rw [wr_of] <;> omega
    have hterm := sumT_snoc (c := c) hx'
    rw [← ht] at hterm
    have hne : H.next + 1 ≠ H'.next := by omega
    have hne0 : H.next ≠ H'.next := by omega
    cases hnul : (atV l[i] c).null with
    | false =>
      simp
      refine sem_call (wide_add L hx (t := t) (n := (atV l[i] c).n) (by simp [hne, h1]) (by simp; omega) (by omega) (hn _ (by simp))) ?_
      rintro _ H2 ⟨rfl, rfl⟩
      refine sem_run 9000 _ ?_
      simp
      refine sem_ok ?_
      refine ⟨_, by omega, i + 1, t + (atV l[i] c).n, rfl, by omega, ?_, by simp [hw], (by have := hs.next; repeat (first | exact hs | apply Sub.new | refine Sub.put ?_ (by first | omega | (simp only [put_next, new_next]; omega)))), by simp, ?_, by simp; omega⟩
      · rw [hterm, term, hnul]; simp
      · simp [hne0, h0]
    | true =>
      simp
      refine sem_ok ?_
      refine ⟨_, by omega, i + 1, t, rfl, by omega, ?_, by simp [hw], (by have := hs.next; repeat (first | exact hs | apply Sub.new | refine Sub.put ?_ (by first | omega | (simp only [put_next, new_next]; omega)))), ?_, ?_, by simp; omega⟩
      · rw [hterm, term, hnul]; simp
      · simp [hne, h1]
      · simp [hne0, h0]
  · have : i = l.length := by omega
    subst this
    simp
    refine sem_exit (sem_run 9000 _ ?_)
    have hb := sumT_le hn
    rw [List.take_length] at ht
    rw [← ht] at hb
    have he := wide_end (t := t) (by omega)
    by_cases c2 : In64 t
    · have hq : t / 18446744073709551616 = (wr .i64 (t % 18446744073709551616)) / 9223372036854775808 := Decidable.byContradiction fun h => he.1 h c2
      rw [wide_low c2] at hq
      simp [h1, hiT, loT, shr63, hq, wide_low c2, h0, zeroC]
      refine sem_ret ?_
      simp [M43]
      have e : sumV c l = (numV t, true) := by rw [sumV, ← ht, if_pos c2]
      rw [e]
      exact .le (by have := hs.next; repeat (first | exact hs | apply Sub.new | refine Sub.put ?_ (by first | omega | (simp only [put_next, new_next]; omega)))) (by simp [Vl.c, numV, byD, byE, D.le]) (by simp)
    · have hq := he.2 c2
      simp [h1, hiT, loT, shr63, hq, h0, zeroC]
      refine sem_ret ?_
      simp [M43]
      have e : sumV c l = (zv, false) := by rw [sumV, ← ht, if_neg c2]
      rw [e]
      exact .le (by have := hs.next; repeat (first | exact hs | apply Sub.new | refine Sub.put ?_ (by first | omega | (simp only [put_next, new_next]; omega)))) (by simp [Vl.c, zv, byD, byE, D.le]) (by simp)
end Go.Lib
end

section
set_option maxRecDepth 10000
namespace Go.Lib
open Go.Vm Go.Dv Go.Srt
variable {p : Prog} {ext : Ext} {F : Nat → Nat}
def setKind (v : Vl) (k : Int) : Vl := ⟨v.null, k, v.n, v.bytes, v.small⟩
theorem vl_setk {v : Vl} {k : Int} : spliceD v.c 1 [.lit (.int .i64 k)] = (setKind v k).c := rfl
def endS (sg : Int) (out v : Vl) : Vl := if v.null = true then setKind out v.kind else if out.null = true ∨ 0 < cmpV v out * sg then v else out
def nullV : Vl := ⟨true, 0, 0, [], by simp⟩
def endF (c sg : Int) (l : List Row) : Vl := (l.map fun r => atV r c).foldl (endS sg) nullV
theorem endF_snoc {c sg : Int} {l : List Row} {i : Nat} {r : Row} (h : l[i]? = some r) : endF c sg (l.take (i + 1)) = endS sg (endF c sg (l.take i)) (atV r c) := by
  rw [List.take_add_one, h]; simp [endF]
def EndI (H0 : HpD) (c sg : Int) (l : List Row) (k : Nat) (fr : FrD) (H : HpD) : Prop :=
  ∃ (i : Nat) (o : Vl), k = l.length - i ∧ i ≤ l.length ∧ o = endF c sg (l.take i) ∧ fr = [(1, .lit (.int .i64 c)), (2, .lit (.int .i64 sg)), (6, .ptr H0.next 0), (7, .ptr (H0.next + 1) 0), (12, rowsD l), (13, .lit (.int .i64 (l.length : Int))), (14, .lit (.int .i64 (i : Int)))] ∧
    Sub H0 H ∧ H.blk (H0.next + 1) = .cells o.c false ∧ H.blk H0.next = .cells zeroC false ∧ H0.next + 1 < H.next
theorem aggr_end (L : HAggr p ext F) {l : List Row} {c sg : Int} (hl : Fine l) (hsg : sg = 1 ∨ sg = -1) : FnD p ext (F 44) [rowsD l, .lit (.int .i64 c), .lit (.int .i64 sg)] (.agg (endF c sg l).c) := by
  refine fn_of L.h44 (M := M44) rfl ok44 rfl fun H => sem_run 9000 _ ?_
  simp
  refine sem_weak (Weak.tell (b := H.next + 1) (ro := false) (cs := [.lit (.bool true), .lit (.int .i64 0), .lit (.int .i64 0), .lit .nilslice]) (cs' := nullV.c) (by simp) (by simp [Vl.c, nullV, byD, byE, D.le, D.les])) ?_
  refine sem_loop (EndI H c sg l) ?_ (k := l.length) ⟨0, nullV, by simp, by simp, by simp [endF], rfl, (by repeat (first | exact Sub.refl | apply Sub.new | refine Sub.put ?_ (by first | omega | (simp only [put_next, new_next]; omega)))), by simp, by simp [zeroC], by simp⟩
  rintro k fr H' ⟨i, o, rfl, hi, ho, rfl, hs, h1, h0, hlt⟩
  refine sem_run 9000 _ ?_
  simp
  have hl1 := hl.1
  by_cases c1 : i < l.length
  · have hx' : l[i]? = some l[i] := by simp
    simp [c1]
    refine sem_fn (schm_at L.schm) (by first | exact D.les_refl _ | simp) (sem_run 9000 _ ?_)
    simp
    have hw : wr .i64 ((i : Int) + 1) = ((i + 1 : Nat) : Int) := by rw [wr_of] <;> omega
    have hterm := endF_snoc (c := c) (sg := sg) hx'
    rw [← ho] at hterm
    have hne : H.next + 1 ≠ H'.next := by omega
    have hne0 : H.next ≠ H'.next := by omega
    have hlt2 : H.next + 1 < H'.next + 1 := by omega
    cases hnul : (atV l[i] c).null with
    | true =>
      simp [hne, h1, vl_setk]
      refine sem_ok ?_
      refine ⟨_, by omega, i + 1, setKind o (atV l[i] c).kind, rfl, by omega, ?_, by simp [hw], (by have := hs.next; repeat (first | exact hs | apply Sub.new | refine Sub.put ?_ (by first | omega | (simp only [put_next, new_next]; omega)))), by simp, ?_, by simp; omega⟩
      · rw [hterm, endS, if_pos hnul]
      · simp [hne0, h0]
    | false =>
      cases honul : o.null with
      | true =>
        simp [hne, h1, honul]
        refine sem_ok ?_
        refine ⟨_, by omega, i + 1, atV l[i] c, rfl, by omega, ?_, by simp [hw], (by have := hs.next; repeat (first | exact hs | apply Sub.new | refine Sub.put ?_ (by first | omega | (simp only [put_next, new_next]; omega)))), by simp, ?_, by simp; omega⟩
        · rw [hterm, endS, if_neg (by simp [hnul]), if_pos (.inl honul)]
        · simp [hne0, h0]
      | false =>
        simp [hne, h1, honul]
        refine sem_fn (schm_compare L.schm) (by first | exact D.les_refl _ | simp) (sem_run 9000 _ ?_)
        simp
        have hab := cmpV_abs (a := atV l[i] c) (b := o)
        have hm : -1 ≤ cmpV (atV l[i] c) o * sg ∧ cmpV (atV l[i] c) o * sg ≤ 1 := by
          rcases hsg with rfl | rfl <;> omega
        rw [wr_of (by omega) (by omega)]
        by_cases c3 : 0 < cmpV (atV l[i] c) o * sg
        · simp [c3, hne, h1]
          refine sem_ok ?_
          refine ⟨_, by omega, i + 1, atV l[i] c, rfl, by omega, ?_, by simp [hw], (by have := hs.next; repeat (first | exact hs | apply Sub.new | refine Sub.put ?_ (by first | omega | (simp only [put_next, new_next]; omega)))), by simp, ?_, by simp; omega⟩
          · rw [hterm, endS, if_neg (by simp [hnul]), if_pos (.inr c3)]
          · simp [hne0, h0]
        · simp [c3]
          refine sem_ok ?_
          refine ⟨_, by omega, i + 1, o, rfl, by omega, ?_, by simp [hw], (by have := hs.next; repeat (first | exact hs | apply Sub.new | refine Sub.put ?_ (by first | omega | (simp only [put_next, new_next]; omega)))), by simp [hne, h1], ?_, by simp; omega⟩
          · rw [hterm, endS, if_neg (by simp [hnul]), if_neg (by simp [honul, c3])]
          · simp [hne0, h0]
  · have : i = l.length := by omega
    subst this
    simp
    refine sem_exit (sem_run 9000 _ ?_)
    have hlt0 : H.next < H'.next := by omega
    simp [h1, h0, zeroC]
    refine sem_ret ?_
    simp [M44]
    rw [List.take_length] at ho
    rw [← ho]
    exact .le (by have := hs.next; repeat (first | exact hs | apply Sub.new | refine Sub.put ?_ (by first | omega | (simp only [put_next, new_next]; omega)))) (by simp) (by simp)
end Go.Lib
end

section
set_option maxRecDepth 10000
namespace Go.Lib
open Go.Vm Go.Dv Go.Srt
variable {p : Prog} {ext : Ext} {F : Nat → Nat}
structure Ag where
  kind : Int
  col : Int
def Ag.c (a : Ag) : List D := [.lit (.int .i64 a.kind), .lit (.int .i64 a.col)]
def agsE (l : List Ag) : List (List D) := l.map Ag.c
def agsD (l : List Ag) : D := .row 2 .p (agsE l)
theorem ags_len {l : List Ag} : (agsE l).length = l.length := by simp [agsE]
theorem lenb_ags {l : List Ag} : lenbD (agsD l) = some (.lit (.int .i64 (l.length : Int))) := by simp [agsD, ags_len]
theorem at_ags {l : List Ag} {n : Nat} : atO 2 (agsD l) (some n) = elemD (l[n]?.map Ag.c) := by simp [agsD, agsE]
theorem ag_len {a : Ag} : a.c.length = 2 := rfl
theorem ag_flats {a : Ag} : flatsD a.c = true := rfl
theorem ag_take {a : Ag} : a.c.take 2 = a.c := rfl
theorem ag_drop {a : Ag} : a.c.drop 2 = [] := rfl
attribute [simp] ags_len lenb_ags at_ags ag_len ag_flats ag_take ag_drop
def oneF (l : List Row) (a : Ag) : Vl × Bool :=
  if a.kind = 1 then (numV l.length, true) else if a.kind = 2 then sumV a.col l else if a.kind = 3 then (endF a.col (-1) l, true) else (endF a.col 1 l, true)
def AgOk (l : List Row) (a : Ag) : Prop := a.kind = 2 → Nums a.col l
theorem aggr_one (L : HAggr p ext F) (hx : ∀ args h, ext (F 45) args h = extV .add64 args h) {l : List Row} {a : Ag} (hl : Fine l) (ha : AgOk l a) : FnD p ext (F 41) [rowsD l, .agg a.c] (.tup [.agg (oneF l a).1.c, .lit (.bool (oneF l a).2)]) := by
  refine fn_of L.h41 (M := M41) rfl ok41 rfl fun H => sem_run 9000 _ ?_
  simp [Ag.c]
  have e : ∀ {x y : Vl × Bool} {c : Prop} [Decidable c], c → (if c then x else y) = x := fun h => if_pos h
  refine sem_if (fun c1 => ?_) fun c1 => ?_
  · simp
    refine sem_ret ?_
    simp [M41]
    rw [oneF, if_pos c1]
    exact .le (by repeat (first | exact Sub.refl | apply Sub.new | refine Sub.put ?_ (by first | omega | (simp only [put_next, new_next]; omega)))) (by simp [Vl.c, numV, byD, byE, D.le]) (by simp)
  simp
  refine sem_if (fun c2 => ?_) fun c2 => ?_
  · simp
    refine sem_fn (aggr_sum L hx hl (ha c2)) (by first | exact D.les_refl _ | simp) (sem_run 9000 _ ?_)
    simp
    refine sem_ret ?_
    simp [M41]
    rw [oneF, if_neg c1, if_pos c2]
    exact .le (by repeat (first | exact Sub.refl | apply Sub.new | refine Sub.put ?_ (by first | omega | (simp only [put_next, new_next]; omega)))) (by simp) (by simp)
  simp
  refine sem_if (fun c3 => ?_) fun c3 => ?_
  · simp
    refine sem_fn (aggr_end L hl (.inr rfl)) (by first | exact D.les_refl _ | simp) (sem_run 9000 _ ?_)
    simp
    refine sem_ret ?_
    simp [M41]
    rw [oneF, if_neg c1, if_neg c2, if_pos c3]
    exact .le (by repeat (first | exact Sub.refl | apply Sub.new | refine Sub.put ?_ (by first | omega | (simp only [put_next, new_next]; omega)))) (by simp) (by simp)
  simp
  refine sem_fn (aggr_end L hl (.inl rfl)) (by first | exact D.les_refl _ | simp) (sem_run 9000 _ ?_)
  simp
  refine sem_ret ?_
  simp [M41]
  rw [oneF, if_neg c1, if_neg c2, if_neg c3]
  exact .le (by repeat (first | exact Sub.refl | apply Sub.new | refine Sub.put ?_ (by first | omega | (simp only [put_next, new_next]; omega)))) (by simp) (by simp)
theorem clip4_own (L : HSchm p ext F) {H0 H : HpD} {s : D} {el : List (List D)} (g : Gr H0 H 4 s el) : WcD p ext (F 13) [s] H (fun d H' => Gr H0 H' 4 d el) := by
  refine wc_of L.h13 (M := M13) rfl ok13 rfl (sem_run 9000 _ ?_)
  rcases g.at_ with ⟨rfl, rfl⟩ | ⟨b, ex, el0, rfl, h1, h2, h3, h4⟩
  · simp [slc_nil]
    refine sem_ret ?_
    simp [M13]
    exact g
  · simp [slc_own]
    refine sem_ret ?_
    simp [M13]
    exact ⟨g.sub, g.len, .inr ⟨b, true, el0, rfl, h1, h2, h3, h4⟩⟩
def oks (l : List Row) (ags : List Ag) : Bool := ags.all fun a => (oneF l a).2
def vals (l : List Row) (ags : List Ag) : Row := ags.map fun a => (oneF l a).1
theorem oks_snoc {l : List Row} {ags : List Ag} {i : Nat} {a : Ag} (h : ags[i]? = some a) : oks l (ags.take (i + 1)) = (oks l (ags.take i) && (oneF l a).2) := by
  rw [List.take_add_one, h]; simp [oks]
theorem vals_snoc {l : List Row} {ags : List Ag} {i : Nat} {a : Ag} (h : ags[i]? = some a) : vals l (ags.take (i + 1)) = vals l (ags.take i) ++ [(oneF l a).1] := by
  rw [List.take_add_one, h]; simp [vals]
def AllI (H0 : HpD) (r : Row) (l : List Row) (ags : List Ag) (k : Nat) (fr : FrD) (H : HpD) : Prop :=
  ∃ (i : Nat) (s : D), k = ags.length - i ∧ i ≤ ags.length ∧ fr = [(1, rowsD l), (8, s), (14, agsD ags), (15, .lit (.int .i64 (ags.length : Int))), (16, .lit (.int .i64 (i : Int)))] ∧ Gr H0 H 4 s (rowE (r ++ vals l (ags.take i))) ∧ oks l (ags.take i) = true
def AllR (H0 : HpD) (r : Row) (l : List Row) (ags : List Ag) (d : D) (H' : HpD) : Prop :=
  (oks l ags = true ∧ ∃ s', d = .tup [s', .lit (.bool true)] ∧ Gr H0 H' 4 s' (rowE (r ++ vals l ags))) ∨ (oks l ags = false ∧ d = .tup [.lit .nilslice, .lit (.bool false)] ∧ Sub H0 H')
theorem oks_take {l : List Row} {ags : List Ag} {i : Nat} (h : oks l (ags.take i) = false) : oks l ags = false := by
  rw [oks, ← Bool.not_eq_true, List.all_eq_true] at h ⊢
  exact fun hh => h fun a ha => hh a (List.mem_of_mem_take ha)
theorem all_own (L : HAggr p ext F) (hx : ∀ args h, ext (F 45) args h = extV .add64 args h) {H0 H : HpD} {s : D} {r : Row} {l : List Row} {ags : List Ag} (hl : Fine l) (ha : ∀ a, a ∈ ags → AgOk l a) (hb : r.length + ags.length < 1000) (g : Gr H0 H 4 s (rowE r)) : WcD p ext (F 36) [s, rowsD l, agsD ags] H (fun d H' => AllR H0 r l ags d H') := by
  refine wc_of L.h36 (M := M36) rfl ok36 rfl (sem_run 9000 _ ?_)
  simp
  refine sem_loop (AllI H0 r l ags) ?_ (k := ags.length) ⟨0, s, by simp, by simp, rfl, by simpa [vals] using g, by simp [oks]⟩
  rintro k fr H' ⟨i, s, rfl, hi, rfl, g, hok⟩
  refine sem_run 9000 _ ?_
  simp
  by_cases c : i < ags.length
  · have hx' : ags[i]? = some ags[i] := by simp
    simp [c]
    refine sem_fn (aggr_one L hx hl (ha ags[i] (by simp))) (by first | exact D.les_refl _ | simp) (sem_run 9000 _ ?_)
    simp
    have hw : wr .i64 ((i : Int) + 1) = ((i + 1 : Nat) : Int) := by rw [wr_of] <;> omega
    have ho := oks_snoc (l := l) hx'
    rw [hok, Bool.true_and] at ho
    have hv := vals_snoc (l := l) hx'
    cases hk : (oneF l ags[i]).2 with
    | false =>
      rw [hk] at ho
      simp
      refine sem_ret ?_
      simp [M36]
      refine sem_ret ?_
      simp
      exact .inr ⟨oks_take ho, rfl, (by have := g.sub.next; repeat (first | exact g.sub | apply Sub.new | refine Sub.put ?_ (by first | omega | (simp only [put_next, new_next]; omega))))⟩
    | true =>
      rw [hk] at ho
      simp
      refine sem_push (g.mono (by repeat (first | exact Sub.refl | apply Sub.new | refine Sub.put ?_ (by first | omega | (simp only [put_next, new_next]; omega))))) rfl rfl (roomyD (by simp [row_len, vals]; omega) (by simp [row_len, vals]; omega)) fun s' H1 g1 _ _ => ?_
      simp
      refine sem_ok ?_
      have e : rowE (r ++ vals l (ags.take i)) ++ [(oneF l ags[i]).1.c] = rowE (r ++ vals l (ags.take (i + 1))) := by rw [hv]; simp [rowE]
      rw [e] at g1
      exact ⟨_, by omega, i + 1, s', rfl, by omega, by rw [hw], g1, ho⟩
  · have : i = ags.length := by omega
    subst this
    simp
    refine sem_exit (sem_run 9000 _ ?_)
    rw [List.take_length] at g hok
    simp
    refine sem_call (clip4_own L.schm g) fun d H2 g2 => ?_
    refine sem_run 9000 _ ?_
    simp
    refine sem_ret ?_
    simp [M36]
    exact .inl ⟨hok, d, rfl, g2⟩
end Go.Lib
end

section
set_option maxRecDepth 10000
namespace Go.Lib
open Go.Vm Go.Dv Go.Srt
variable {p : Prog} {ext : Ext} {F : Nat → Nat}
theorem WeakV.tup2 {d d2 : D} {H H2 : HpD} {w : V} (k : WeakV d H d2 H2) : WeakV (.tup [d, .lit w]) H (.tup [d2, .lit w]) H2 := by
  intro ψ S h v s kv
  simp only [VD, VDl] at kv
  obtain ⟨l', rfl, x, r, rfl, kx, y, r2, rfl, ky, rfl⟩ := kv
  obtain ⟨ψ', S', x1, s1, k1⟩ := k ψ S h x s kx
  refine ⟨ψ', S', x1, s1, ?_⟩
  simp only [VD, VDl]
  exact ⟨_, rfl, x, _, rfl, k1, y, _, rfl, ky, rfl⟩
theorem all_row (L : HAggr p ext F) (hx : ∀ args h, ext (F 45) args h = extV .add64 args h) {H0 H : HpD} {s : D} {r : Row} {l : List Row} {ags : List Ag} (hl : Fine l) (ha : ∀ a, a ∈ ags → AgOk l a) (hb : r.length + ags.length < 1000) (g : Gr H0 H 4 s (rowE r)) :
    WcD p ext (F 36) [s, rowsD l, agsD ags] H fun d H' => d = .tup [rowD (if oks l ags then r ++ vals l ags else []), .lit (.bool (oks l ags))] ∧ Sub H0 H' := by
  refine WcD.weak ((all_own L hx hl ha hb g).mono ?_)
  rintro d H' (⟨hk, s', rfl, g'⟩ | ⟨hk, rfl, hs⟩)
  · obtain ⟨H2, w, sub, _⟩ := g'.fin row_underss (m := .p) (by simp)
    refine ⟨_, H2, WeakV.tup2 w, ?_, sub⟩
    rw [hk]; rfl
  · refine ⟨_, H', WeakV.tup2 (WeakV.le (d' := rowD []) (by simp [rowD, rowE, D.le])), ?_, hs⟩
    rw [hk]; rfl
def cmpC (c : Int) (a b : Row) : Int := cmpV (atV a c) (atV b c)
theorem groups1 (L : HAggr p ext F) {a b : Row} {c : Int} : FnD p ext (F 38) [rowD a, rowD b, .rptr [.lit (.int .i64 c)] 0] (.lit (.int .i64 (cmpC c a b))) := by
  refine fn_of L.h38 (M := M38) rfl ok38 rfl fun H => sem_run 9000 _ ?_
  simp
  refine sem_dfn (schm_at L.schm) (by first | exact D.les_refl _ | simp) (sem_run 9000 _ ?_)
  simp
  refine sem_dfn (schm_at L.schm) (by first | exact D.les_refl _ | simp) (sem_run 9000 _ ?_)
  simp
  refine sem_dfn (schm_compare L.schm) (by first | exact D.les_refl _ | simp) (sem_run 9000 _ ?_)
  simp
  refine sem_ret ?_
  simp [M38, cmpC]
  exact .same (by simp)
theorem cmpC_ok (L : HAggr p ext F) {c : Int} {k : Int} : Cmp p ext rowEnc (fun r => (atV r c).kind = k) (.func (F 38) [] [.rptr [.lit (.int .i64 c)] 0]) (cmpC c) :=
  ⟨⟨F 38, [], [.rptr [.lit (.int .i64 c)] 0], rfl, fun x y _ _ => by simpa [rowEnc] using groups1 L⟩, fun x y hx hy => cmpV_ord.anti _ _ hx hy, fun x y z hx hy hz => cmpV_ord.trans _ _ _ hx hy hz⟩
theorem groups_neg (L : HAggr p ext F) (hx : ∀ args h, ext (F 45) args h = extV .add64 args h) {l : List Row} {c : Int} {ags : List Ag} (hl : Fine l) (ha : ∀ a, a ∈ ags → AgOk l a) (hb : ags.length < 1000) (hc : c < 0) : FnD p ext (F 32) [rowsD l, .lit (.int .i64 c), agsD ags] (.tup [rowsD (if oks l ags then [vals l ags] else []), .lit (.bool (oks l ags))]) := by
  refine fn_of L.h32 (M := M32) rfl ok32 rfl fun H => sem_run 9000 _ ?_
  simp [hc]
  refine sem_call (all_row L hx (H0 := H) (r := []) hl ha (by simpa using hb) (by simpa [rowE] using Gr.start)) ?_
  rintro _ H2 ⟨rfl, hs⟩
  refine sem_run 9000 _ ?_
  simp
  cases hk : oks l ags with
  | true =>
    simp
    refine sem_ret ?_
    simp [M32]
    exact .le (by have := hs.next; repeat (first | exact hs | apply Sub.new | refine Sub.put ?_ (by first | omega | (simp only [put_next, new_next]; omega)))) (by simp [rowsD, rowsE, D.le]) (by simp)
  | false =>
    simp
    refine sem_ret ?_
    simp [M32]
    exact .le (by have := hs.next; repeat (first | exact hs | apply Sub.new | refine Sub.put ?_ (by first | omega | (simp only [put_next, new_next]; omega)))) (by simp [rowsD, rowsE, D.le]) (by simp)
def cnt (c : Int) (r : Row) (t : List Row) : Nat := 1 + (t.takeWhile fun x => decide (cmpV (atV x c) (atV r c) = 0)).length
theorem takeWhile_len {p : Row → Bool} : ∀ {t : List Row} {n : Nat}, n ≤ t.length → (∀ q x, q < n → t[q]? = some x → p x = true) → (n = t.length ∨ ∃ x, t[n]? = some x ∧ p x = false) → (t.takeWhile p).length = n
  | [], n, h, _, _ => by simp at h; simp [h]
  | x :: t, 0, _, _, h => by
    rcases h with h | ⟨y, e, hy⟩
    · simp at h
    · simp at e; subst e; simp [hy]
  | x :: t, n + 1, h1, h2, h3 => by
    have := h2 0 x (by omega) rfl
    rw [List.takeWhile_cons, if_pos this, List.length_cons, takeWhile_len (n := n) (by simpa using h1) (fun q y hq hy => h2 (q + 1) y (by omega) (by simpa using hy)) (by simpa using h3)]
theorem cnt_eq {c : Int} {r : Row} {t : List Row} {i : Nat} (h1 : 1 ≤ i) (h2 : i ≤ t.length + 1) (hq : ∀ q x, q + 1 < i → t[q]? = some x → cmpV (atV x c) (atV r c) = 0) (h3 : i = t.length + 1 ∨ ∃ x, t[i - 1]? = some x ∧ ¬ cmpV (atV x c) (atV r c) = 0) : i = cnt c r t := by
  unfold cnt
  rw [takeWhile_len (n := i - 1) (by omega) (fun q x h e => by simpa using hq q x (by omega) e) (by
    rcases h3 with h | ⟨x, e, h⟩
    · left; omega
    · right; exact ⟨x, e, by simpa using h⟩)]
  omega
def runG (c : Int) (ags : List Ag) : Nat → List Row → List Row × Bool
  | _, [] => ([], true)
  | 0, _ => ([], true)
  | w + 1, r :: t => if oks ((r :: t).take (cnt c r t)) ags then
      match runG c ags w ((r :: t).drop (cnt c r t)) with
      | (x, true) => ((atV r c :: vals ((r :: t).take (cnt c r t)) ags) :: x, true)
      | (_, false) => ([], false)
    else ([], false)
theorem runG_false {c : Int} {ags : List Ag} : ∀ {w : Nat} {l : List Row}, (runG c ags w l).2 = false → runG c ags w l = ([], false)
  | w, [], h => by unfold runG at h; cases w <;> simp at h
  | 0, _ :: _, h => by simp [runG] at h
  | w + 1, r :: t, h => by
    unfold runG at h ⊢
    split
    · rename_i hk
      rw [if_pos hk] at h
      split
      · rename_i x he
        rw [he] at h; simp at h
      · rfl
    · rfl
theorem runG_fuel {c : Int} {ags : List Ag} : ∀ {w : Nat} {l : List Row}, l.length ≤ w → runG c ags w l = runG c ags l.length l
  | w, [], _ => by cases w <;> simp [runG]
  | 0, _ :: _, h => by simp at h
  | w + 1, r :: t, h => by
    have hd : ((r :: t).drop (cnt c r t)).length ≤ t.length := by
      have : 1 ≤ cnt c r t := by unfold cnt; omega
      simp only [List.length_drop, List.length_cons]; omega
    rw [List.length_cons]
    unfold runG
    rw [runG_fuel (w := w) (by simp at h; omega), runG_fuel (w := t.length) hd]
theorem runG_step {c : Int} {ags : List Ag} {r : Row} {t : List Row} {i : Nat} (hi : i = cnt c r t) (hk : oks ((r :: t).take i) ags = true) :
    runG c ags (r :: t).length (r :: t) = if (runG c ags ((r :: t).drop i).length ((r :: t).drop i)).2 then ((atV r c :: vals ((r :: t).take i) ags) :: (runG c ags ((r :: t).drop i).length ((r :: t).drop i)).1, true) else ([], false) := by
  subst hi
  have hd : ((r :: t).drop (cnt c r t)).length ≤ t.length := by
    have : 1 ≤ cnt c r t := by unfold cnt; omega
    simp only [List.length_drop, List.length_cons]; omega
  rw [← runG_fuel hd]
  conv => lhs; rw [List.length_cons]; unfold runG
  rw [if_pos hk]
  split
  · rename_i x e; simp [e]
  · rename_i x e; simp [e]
theorem runG_stop {c : Int} {ags : List Ag} {r : Row} {t : List Row} {i : Nat} (hi : i = cnt c r t) (hk : oks ((r :: t).take i) ags = false) : runG c ags (r :: t).length (r :: t) = ([], false) := by
  subst hi
  rw [List.length_cons]; unfold runG
  rw [if_neg (by simp [hk])]
theorem rowsE_drop {l : List Row} {n : Nat} : (rowsE l).drop n = rowsE (l.drop n) := by simp [rowsE, List.map_drop]
theorem rowsE_take {l : List Row} {n : Nat} : (rowsE l).take n = rowsE (l.take n) := by simp [rowsE, List.map_take]
theorem slc_take {l : List Row} {i : Nat} (h : i ≤ l.length) : slcD 1 (rowsD l) none (some (.lit (.int .i64 (i : Int)))) none = some (rowsD (l.take i)) := by
  have := slcRow_eq (sz := 1) (m := .p) (l := rowsE l) (lo := none) (hi := some (.int .i64 (i : Int))) (mx := none)
  simp only [Option.map] at this
  rw [rowsD, this]
  simp [needH, slcRow, boundM, boundH, boundL, cutMd, ble_d, h, rowsD, rowsE_take]
theorem slc_drop {l : List Row} {i : Nat} (h : i ≤ l.length) : slcD 1 (rowsD l) (some (.lit (.int .i64 (i : Int)))) none none = some (rowsD (l.drop i)) := by
  have := slcRow_eq (sz := 1) (m := .p) (l := rowsE l) (lo := some (.int .i64 (i : Int))) (hi := none) (mx := none)
  simp only [Option.map] at this
  rw [rowsD, this]
  simp [needH, slcRow, boundM, boundH, boundL, cutMd, ble_d, h, rowsD]
  rw [← rowsE_drop, List.take_of_length_le (by simp)]
def GrpI (H0 : HpD) (c : Int) (ags : List Ag) (l' : List Row) (k : Nat) (fr : FrD) (H : HpD) : Prop :=
  ∃ (rest done : List Row) (s : D), k = rest.length ∧ (∀ r, r ∈ rest → r ∈ l') ∧ done.length + rest.length ≤ l'.length ∧ fr = [(2, agsD ags), (4, .rptr [.lit (.int .i64 c)] 0), (10, rowsD rest), (11, s)] ∧ Gr H0 H 1 s (rowsE done) ∧
    runG c ags l'.length l' = (if (runG c ags rest.length rest).2 then (done ++ (runG c ags rest.length rest).1, true) else ([], false))
def CntI (H0 : HpD) (c : Int) (ags : List Ag) (r : Row) (t : List Row) (s : D) (k : Nat) (fr : FrD) (H : HpD) : Prop :=
  ∃ i : Nat, k = t.length + 1 - i ∧ 1 ≤ i ∧ i ≤ t.length + 1 ∧ (∀ q x, q + 1 < i → t[q]? = some x → cmpV (atV x c) (atV r c) = 0) ∧
    (lk fr 2 = agsD ags ∧ lk fr 4 = .rptr [.lit (.int .i64 c)] 0 ∧ lk fr 10 = rowsD (r :: t) ∧ lk fr 11 = s ∧ lk fr 12 = .rptr (atV r c).c 0 ∧ lk fr 13 = .lit (.int .i64 (i : Int))) ∧ Sub H0 H
def GrpR (c : Int) (ags : List Ag) (l : List Row) (d : D) : Prop :=
  ∃ l' : List Row, l'.Perm l ∧ Srt (cmpC c) l' 0 l.length ∧ d = .tup [rowsD (runG c ags l'.length l').1, .lit (.bool (runG c ags l'.length l').2)]
def GrpQ (H0 : HpD) (c : Int) (ags : List Ag) (l : List Row) (d : D) (H' : HpD) : Prop := ∃ d2 H2, WeakV d H' d2 H2 ∧ GrpR c ags l d2 ∧ Sub H0 H2
set_option maxHeartbeats 1000000 in
theorem groups_own (L : HAggr p ext F) (hx : ∀ args h, ext (F 45) args h = extV .add64 args h) {l : List Row} {c k : Int} {ags : List Ag} {H : HpD} (hl : Fine l) (hk : ∀ r, r ∈ l → (atV r c).kind = k) (ha : ∀ l', (∀ r, r ∈ l' → r ∈ l) → ∀ a, a ∈ ags → AgOk l' a) (hb : ags.length < 900) (hc : ¬ c < 0) : WcD p ext (F 32) [rowsD l, .lit (.int .i64 c), agsD ags] H (fun d H' => GrpQ H c ags l d H') := by
  refine wc_of L.h32 (M := M32) rfl ok32 rfl (sem_run 9000 _ ?_)
  simp [hc]
  refine sem_call (still_own L hl) fun d H1 g1 => ?_
  refine sem_run 9000 _ ?_
  simp
  refine sem_exact_call g1 fun H2 g2 _ _ => ?_
  refine sem_call (sort_own L (cmpC_ok L (c := c) (k := k)) hl.1 hk g2) ?_
  rintro _ H3 ⟨rfl, l', g3, hp1, hsrt⟩
  refine sem_turn_ops g3 10 (by simp) fun H4 s4 k4 n4 => sem_run 9000 _ ?_
  simp
  have hl' : Fine l' := ⟨by rw [hp1.length_eq]; exact hl.1, fun r hr => hl.2 r (hp1.mem_iff.1 hr)⟩
  have hl1 := hl'.1
  refine sem_loop (GrpI H4 c ags l') ?_ (k := l'.length) ⟨l', [], .lit .nilslice, rfl, fun _ h => h, by simp, rfl, by simpa [rowsE] using Gr.start, by
    cases h : (runG c ags l'.length l').2 with
    | true => simp [← h]
    | false => rw [runG_false h]; simp⟩
  rintro k' fr H' ⟨rest, done, s, rfl, hsub, hlen, rfl, g, heq⟩
  refine sem_run 9000 _ ?_
  simp
  cases rest with
  | nil =>
    simp
    refine sem_exit (sem_run 9000 _ ?_)
    simp [runG] at heq
    simp
    refine sem_call (clip_own L g) fun d H5 g5 => ?_
    refine sem_run 9000 _ ?_
    simp
    refine sem_ret ?_
    simp [M32]
    obtain ⟨H6, w, sub, _⟩ := g5.fin rows_underss (m := .p) (by simp)
    refine ⟨_, H6, WeakV.tup2 w, ⟨l', hp1, hsrt, ?_⟩, s4.trans sub⟩
    rw [heq]; rfl
  | cons r t =>
    simp
    refine sem_dfn (schm_at L.schm) (by first | exact D.les_refl _ | simp) (sem_run 9000 _ ?_)
    simp
    have hlt : H'.next < H'.next + 1 := by omega
    refine sem_box (b := H'.next) (cs := (atV r c).c) (ro := false) 12 (by simp) (by simp) ?_
    refine sem_loop (CntI H' c ags r t s) ?_ (k := t.length) ⟨1, by omega, by omega, by omega, fun q x h => by omega, by simp, (by repeat (first | exact Sub.refl | apply Sub.new | refine Sub.put ?_ (by first | omega | (simp only [put_next, new_next]; omega))))⟩
    rintro k'' fr H5 ⟨i, rfl, hi1, hi2, hq, ⟨e2, e4, e10, e11, e12, e13⟩, hs5⟩
    refine sem_run 9000 _ ?_
    simp [e10, e13]
    have hlen' : i ≤ l'.length := by simp at hlen; omega
    have hw : wr .i64 ((i : Int) + 1) = ((i + 1 : Nat) : Int) := by rw [wr_of] <;> omega
    by_cases c1 : i < t.length + 1
    · have c1' : (i : Int) < (t.length : Int) + 1 := by omega
      obtain ⟨x, gx⟩ : ∃ x, t[i - 1]? = some x := ⟨t[i - 1]'(by omega), by simp⟩
      have gx' : (r :: t)[i]? = some x := by rw [List.getElem?_cons, if_neg (by omega)]; exact gx
      simp [c1', gx', e4, e10, e13]
      refine sem_dfn (schm_at L.schm) (by first | exact D.les_refl _ | simp) (sem_run 9000 _ ?_)
      simp [e12]
      refine sem_dfn (schm_compare L.schm) (by first | exact D.les_refl _ | simp) (sem_run 9000 _ ?_)
      simp [e2, e4, e10, e11, e12, e13]
      by_cases c2 : cmpV (atV x c) (atV r c) = 0
      · simp [c2, hw]
        refine sem_ok ?_
        refine ⟨t.length + 1 - (i + 1), by omega, i + 1, rfl, by omega, by omega, fun q y h e => ?_, by simp, hs5⟩
        by_cases hqi : q + 1 < i
        · exact hq q y hqi e
        · obtain rfl : q = i - 1 := by omega
          rw [gx] at e; cases e; exact c2
      · have hcnt := cnt_eq hi1 hi2 hq (.inr ⟨x, gx, c2⟩)
        simp [c2]
        refine sem_exit (sem_run 9000 _ ?_)
        simp [slc_take (l := r :: t) (i := i) (by simpa using hi2)]
        have gl : Gr H5 (H5.new (.cells (atV r c).c false)) 4 (.slice H5.next 0 4 1 1 true) (rowE [atV r c]) := Gr.lit Sub.refl (by simp [rowE]) (by simp [rowE]) (by simp [rowE])
        refine sem_dcall (all_row L hx (H0 := H5) (r := [atV r c]) (l := (r :: t).take i) (ags := ags) ⟨by simp only [List.length_take, List.length_cons]; omega, fun y hy => hl'.2 y (hsub y (List.mem_of_mem_take hy))⟩ (ha _ fun y hy => hp1.mem_iff.1 (hsub y (List.mem_of_mem_take hy))) (by simp only [List.length_cons, List.length_nil]; omega) gl) ?_
        rintro _ H6 ⟨rfl, hs6⟩
        refine sem_run 9000 _ ?_
        cases hok : oks ((r :: t).take i) ags with
        | false =>
          rw [runG_stop hcnt hok] at heq
          simp
          refine sem_ret ?_
          simp
          refine sem_ret ?_
          simp [M32]
          refine ⟨_, H6, WeakV.tup2 (WeakV.le (d' := rowsD []) (by simp [rowsD, rowsE, D.le])), ⟨l', hp1, hsrt, ?_⟩, s4.trans (g.sub.trans (hs5.trans hs6))⟩
          rw [heq]; rfl
        | true =>
          rw [runG_step hcnt hok] at heq
          simp
          simp only [List.length_cons] at hlen
          refine sem_push (g.mono (hs5.trans hs6)) rfl rfl (roomyD (by simp; omega) (by simp; omega)) fun s' H7 g7 _ _ => ?_
          simp [slc_drop (l := r :: t) (i := i) (by simpa using hi2)]
          refine sem_ok ?_
          have e : rowsE done ++ [[rowD (atV r c :: vals ((r :: t).take i) ags)]] = rowsE (done ++ [atV r c :: vals ((r :: t).take i) ags]) := by simp [rowsE]
          rw [e] at g7
          refine ⟨((r :: t).drop i).length, by simp only [List.length_drop, List.length_cons]; omega, (r :: t).drop i, done ++ [atV r c :: vals ((r :: t).take i) ags], s', rfl, fun y hy => hsub y (List.mem_of_mem_drop hy), by simp only [List.length_drop, List.length_cons, List.length_append, List.length_nil]; omega, by simp, g7, ?_⟩
          rw [heq]
          cases hz : (runG c ags ((r :: t).drop i).length ((r :: t).drop i)).2 <;> simp
    · have c1' : ¬ (i : Int) < (t.length : Int) + 1 := by omega
      have hcnt := cnt_eq hi1 hi2 hq (.inl (by omega))
      simp [c1', e2, e4, e10, e11, e12, e13]
      refine sem_exit (sem_run 9000 _ ?_)
      simp [slc_take (l := r :: t) (i := i) (by simpa using hi2)]
      have gl : Gr H5 (H5.new (.cells (atV r c).c false)) 4 (.slice H5.next 0 4 1 1 true) (rowE [atV r c]) := Gr.lit Sub.refl (by simp [rowE]) (by simp [rowE]) (by simp [rowE])
      refine sem_dcall (all_row L hx (H0 := H5) (r := [atV r c]) (l := (r :: t).take i) (ags := ags) ⟨by simp only [List.length_take, List.length_cons]; omega, fun y hy => hl'.2 y (hsub y (List.mem_of_mem_take hy))⟩ (ha _ fun y hy => hp1.mem_iff.1 (hsub y (List.mem_of_mem_take hy))) (by simp only [List.length_cons, List.length_nil]; omega) gl) ?_
      rintro _ H6 ⟨rfl, hs6⟩
      refine sem_run 9000 _ ?_
      cases hok : oks ((r :: t).take i) ags with
      | false =>
        rw [runG_stop hcnt hok] at heq
        simp
        refine sem_ret ?_
        simp
        refine sem_ret ?_
        simp [M32]
        refine ⟨_, H6, WeakV.tup2 (WeakV.le (d' := rowsD []) (by simp [rowsD, rowsE, D.le])), ⟨l', hp1, hsrt, ?_⟩, s4.trans (g.sub.trans (hs5.trans hs6))⟩
        rw [heq]; rfl
      | true =>
        rw [runG_step hcnt hok] at heq
        simp
        simp only [List.length_cons] at hlen
        refine sem_push (g.mono (hs5.trans hs6)) rfl rfl (roomyD (by simp; omega) (by simp; omega)) fun s' H7 g7 _ _ => ?_
        simp [slc_drop (l := r :: t) (i := i) (by simpa using hi2)]
        refine sem_ok ?_
        have e : rowsE done ++ [[rowD (atV r c :: vals ((r :: t).take i) ags)]] = rowsE (done ++ [atV r c :: vals ((r :: t).take i) ags]) := by simp [rowsE]
        rw [e] at g7
        refine ⟨((r :: t).drop i).length, by simp only [List.length_drop, List.length_cons]; omega, (r :: t).drop i, done ++ [atV r c :: vals ((r :: t).take i) ags], s', rfl, fun y hy => hsub y (List.mem_of_mem_drop hy), by simp only [List.length_drop, List.length_cons, List.length_append, List.length_nil]; omega, by simp, g7, ?_⟩
        rw [heq]
        cases hz : (runG c ags ((r :: t).drop i).length ((r :: t).drop i)).2 <;> simp
theorem groups_pos (L : HAggr p ext F) (hx : ∀ args h, ext (F 45) args h = extV .add64 args h) {l : List Row} {c k : Int} {ags : List Ag} {H : HpD} (hl : Fine l) (hk : ∀ r, r ∈ l → (atV r c).kind = k) (ha : ∀ l', (∀ r, r ∈ l' → r ∈ l) → ∀ a, a ∈ ags → AgOk l' a) (hb : ags.length < 900) (hc : ¬ c < 0) :
    WcD p ext (F 32) [rowsD l, .lit (.int .i64 c), agsD ags] H fun d H' => GrpR c ags l d ∧ Sub H H' :=
  WcD.weak ((groups_own L hx hl hk ha hb hc).mono fun _ _ ⟨d2, H2, w, h⟩ => ⟨d2, H2, w, h⟩)
end Go.Lib
end

section
set_option maxRecDepth 10000
namespace Go.Lib
open Go.Vm Go.Dv Go.Srt
def cs2 : List Ag := [⟨1, 0⟩, ⟨2, 0⟩]
def Low (l : List Row) : Prop := ∀ r, r ∈ l → 0 ≤ (atV r 0).n ∧ (atV r 0).n ≤ 1000
theorem Low.sum : ∀ {l : List Row}, Low l → 0 ≤ sumT 0 l ∧ sumT 0 l ≤ 1000 * (l.length : Int)
  | [], _ => by simp [sumT]
  | r :: l, h => by
    have ih := Low.sum (l := l) fun r hr => h r (by simp [hr])
    have h0 := h r (by simp)
    have : sumT 0 (r :: l) = term 0 r + sumT 0 l := by simp [sumT]
    rw [this, List.length_cons]
    unfold term
    split <;> omega
theorem Low.in {l : List Row} (h : Low l) (hl : l.length < 1000000) : In64 (sumT 0 l) := by
  have := h.sum
  unfold In64; omega
def grow (x : Vl × Nat × Int) : Row := [x.1, numV x.2.1, numV x.2.2]
structure GOk (c : Int) (l : List Row) (T : List (Vl × Nat × Int)) : Prop where
  ones : ∀ x, x ∈ T → 1 ≤ x.2.1
  pos : ∀ x, x ∈ T → 0 ≤ x.2.2
  cnt : (T.map fun x => x.2.1).sum = l.length
  sum : (T.map fun x => x.2.2).sum = sumT 0 l
  up : ∀ i a b, T[i]? = some a → T[i + 1]? = some b → cmpV a.1 b.1 < 0
  hd : ∀ a, T[0]? = some a → ∃ r, l[0]? = some r ∧ a.1 = atV r c
def cS (T : List (Vl × Nat × Int)) (i : Nat) : Nat := ((T.take i).map fun x => x.2.1).sum
def sS (T : List (Vl × Nat × Int)) (i : Nat) : Int := ((T.take i).map fun x => x.2.2).sum
theorem sum_pos : ∀ {T : List (Vl × Nat × Int)}, (∀ x, x ∈ T → 0 ≤ x.2.2) → 0 ≤ (T.map fun x => x.2.2).sum
  | [], _ => by simp
  | x :: T, h => by
    have := sum_pos (T := T) fun y hy => h y (by simp [hy])
    have := h x (by simp)
    simp only [List.map_cons, List.sum_cons]; omega
theorem GOk.le {c : Int} {l : List Row} {T : List (Vl × Nat × Int)} (ok : GOk c l T) (i : Nat) : cS T i ≤ l.length ∧ 0 ≤ sS T i ∧ sS T i ≤ sumT 0 l := by
  have e : T = T.take i ++ T.drop i := (List.take_append_drop i T).symm
  have h1 := ok.cnt
  have h2 := ok.sum
  rw [e, List.map_append, List.sum_append] at h1 h2
  have h3 := sum_pos (T := T.drop i) fun x hx => ok.pos x (List.mem_of_mem_drop hx)
  have h4 := sum_pos (T := T.take i) fun x hx => ok.pos x (List.mem_of_mem_take hx)
  unfold cS sS
  omega
theorem len_sum : ∀ {T : List (Vl × Nat × Int)}, (∀ x, x ∈ T → 1 ≤ x.2.1) → T.length ≤ (T.map fun x => x.2.1).sum
  | [], _ => by simp
  | x :: T, h => by
    have := len_sum (T := T) fun y hy => h y (by simp [hy])
    have := h x (by simp)
    simp only [List.map_cons, List.sum_cons, List.length_cons]; omega
theorem GOk.len {c : Int} {l : List Row} {T : List (Vl × Nat × Int)} (ok : GOk c l T) : T.length ≤ l.length := ok.cnt ▸ len_sum ok.ones
theorem GOk.all {c : Int} {l : List Row} {T : List (Vl × Nat × Int)} (ok : GOk c l T) : cS T T.length = l.length ∧ sS T T.length = sumT 0 l := by
  unfold cS sS
  rw [List.take_length]
  exact ⟨ok.cnt, ok.sum⟩
end Go.Lib
end

section
set_option maxRecDepth 10000
namespace Go.Lib
open Go.Vm Go.Dv Go.Srt
structure Vl.Good (v : Vl) : Prop where
  nul : v.null = true → v.n = 0 ∧ v.bytes = []
  kd : (v.kind = 1 ∧ v.bytes = []) ∨ (v.kind = 2 ∧ v.n = 0)
  int : In64 v.n
theorem cmpV_zero {a b : Vl} (ha : a.Good) (hb : b.Good) (hk : a.kind = b.kind) (h : cmpV a b = 0) : a = b := by
  rw [cmpV_null] at h
  rw [vl_ext]
  cases ha0 : a.null <;> cases hb0 : b.null <;> simp [ha0, hb0] at h ⊢
  · rcases ha.kd with ⟨k1, b1⟩ | ⟨k1, n1⟩ <;> rcases hb.kd with ⟨k2, b2⟩ | ⟨k2, n2⟩
    · simp [k1, cmpI_eq] at h
      exact ⟨hk, h, by rw [b1, b2]⟩
    · omega
    · omega
    · simp [k1, cmpB_eq] at h
      exact ⟨hk, by rw [n1, n2], h⟩
  · obtain ⟨h1, h2⟩ := ha.nul ha0
    obtain ⟨h3, h4⟩ := hb.nul hb0
    exact ⟨hk, by rw [h1, h3], by rw [h2, h4]⟩
theorem cmpV_self {a : Vl} : cmpV a a = 0 := by
  have := (cmpV_ord (k := a.kind)).sym a a rfl rfl; omega
structure GoodR (ks : List Int) (r : Row) : Prop where
  kin : Kin ks r
  good : ∀ v, v ∈ r → v.Good
theorem cmpRow_zero : ∀ {ks : List Int} {a b : Row}, GoodR ks a → GoodR ks b → cmpRow cmpV a b = 0 → a = b
  | [], a, b, ha, hb, _ => by
    have h1 := ha.kin; have h2 := hb.kin
    simp only [Kin, List.map_eq_nil_iff] at h1 h2
    rw [h1, h2]
  | k :: ks, a, b, ha, hb, h => by
    have h1 := ha.kin; have h2 := hb.kin
    cases a with
    | nil => simp [Kin] at h1
    | cons x a => cases b with
      | nil => simp [Kin] at h2
      | cons y b =>
        simp only [Kin, List.map_cons, List.cons.injEq] at h1 h2
        simp only [cmpRow] at h
        by_cases e : cmpV x y = 0
        · simp [e] at h
          rw [cmpV_zero (ha.good x (by simp)) (hb.good y (by simp)) (by rw [h1.1, h2.1]) e, cmpRow_zero (ks := ks) ⟨h1.2, fun v hv => ha.good v (by simp [hv])⟩ ⟨h2.2, fun v hv => hb.good v (by simp [hv])⟩ h]
        · simp [e] at h
section
variable {α : Type} {G : α → Prop} {cmp : α → α → Int}
def Rise (cmp : α → α → Int) (l : List α) : Prop := l.Pairwise fun x y => cmp x y ≤ 0
theorem Ord3.self (o : Ord3 G cmp) {x : α} (hx : G x) : cmp x x = 0 := by
  have := o.sym x x hx hx; omega
theorem Srt.rise (o : Ord3 G cmp) {l : List α} (hG : ∀ x, x ∈ l → G x) (h : Srt cmp l 0 l.length) : Rise cmp l := by
  rw [Rise, List.pairwise_iff_getElem]
  intro i j hi hj hij
  have := h i j l[i] l[j] (by omega) hij hj (by simp) (by simp)
  have := o.sym l[i] l[j] (hG _ (by simp)) (hG _ (by simp))
  omega
theorem rise_uniq (o : Ord3 G cmp) (hz : ∀ x y, G x → G y → cmp x y = 0 → x = y) {l l' : List α} (hp : l.Perm l') (hG : ∀ x, x ∈ l → G x) (h1 : Rise cmp l) (h2 : Rise cmp l') : l = l' := by
  refine List.Perm.eq_of_pairwise (le := fun x y => cmp x y ≤ 0) (fun a b ha hb h3 h4 => ?_) h1 h2 hp
  have hb' := hG b (hp.mem_iff.2 hb)
  have := o.sym a b (hG a ha) hb'
  exact hz a b (hG a ha) hb' (by omega)
def insL (cmp : α → α → Int) (x : α) : List α → List α
  | [] => [x]
  | y :: l => if cmp y x ≤ 0 then y :: insL cmp x l else x :: y :: l
def sortL (cmp : α → α → Int) (l : List α) : List α := l.foldr (insL cmp) []
theorem insL_perm {x : α} : ∀ {l : List α}, (insL cmp x l).Perm (x :: l)
  | [] => .refl _
  | y :: l => by
    unfold insL
    split
    · exact (insL_perm.cons y).trans (.swap ..)
    · exact .refl _
theorem sortL_perm : ∀ {l : List α}, (sortL cmp l).Perm l
  | [] => .refl _
  | x :: _l => insL_perm.trans (sortL_perm.cons x)
theorem insL_rise (o : Ord3 G cmp) {x : α} (hx : G x) : ∀ {l : List α}, (∀ y, y ∈ l → G y) → Rise cmp l → Rise cmp (insL cmp x l)
  | [], _, _ => by simp [insL, Rise]
  | y :: l, hG, h => by
    have hy := hG y (by simp)
    have h' := List.pairwise_cons.1 h
    unfold insL
    split
    · rename_i e
      refine List.pairwise_cons.2 ⟨fun z hz => ?_, insL_rise o hx (fun z hz => hG z (by simp [hz])) h'.2⟩
      rcases List.mem_cons.1 (insL_perm.mem_iff.1 hz) with rfl | hz
      · exact e
      · exact h'.1 z hz
    · rename_i e
      have := o.sym y x hy hx
      refine List.pairwise_cons.2 ⟨fun z hz => ?_, h⟩
      rcases List.mem_cons.1 hz with rfl | hz
      · omega
      · exact o.tr x y z hx hy (hG z (by simp [hz])) (by omega) (h'.1 z hz)
theorem sortL_rise (o : Ord3 G cmp) : ∀ {l : List α}, (∀ y, y ∈ l → G y) → Rise cmp (sortL cmp l)
  | [], _ => by simp [sortL, Rise]
  | x :: l, h => insL_rise o (h x (by simp)) (fun y hy => h y (by simp [sortL_perm.mem_iff.1 hy])) (sortL_rise o fun y hy => h y (by simp [hy]))
theorem rise_sort (o : Ord3 G cmp) (hz : ∀ x y, G x → G y → cmp x y = 0 → x = y) {l l' : List α} (hG : ∀ x, x ∈ l → G x) (hp : l'.Perm l) (h : Rise cmp l') : l' = sortL cmp l :=
  rise_uniq o hz (hp.trans sortL_perm.symm) (fun x hx => hG x (hp.mem_iff.1 hx)) h (sortL_rise o hG)
theorem srt_sort (o : Ord3 G cmp) (hz : ∀ x y, G x → G y → cmp x y = 0 → x = y) {l l' : List α} (hG : ∀ x, x ∈ l → G x) (hp : l'.Perm l) (h : Srt cmp l' 0 l.length) : l' = sortL cmp l :=
  rise_sort o hz hG hp (Srt.rise o (fun x hx => hG x (hp.mem_iff.1 hx)) (by rw [hp.length_eq]; exact h))
theorem tw_filter {p : α → Bool} : ∀ {t : List α}, t.Pairwise (fun x y => p y = true → p x = true) → t.takeWhile p = t.filter p ∧ t.dropWhile p = t.filter (fun x => !p x)
  | [], _ => by simp
  | x :: t, h => by
    have h' := List.pairwise_cons.1 h
    have ih := tw_filter h'.2
    cases hp : p x with
    | true => simp [hp, ih.1, ih.2]
    | false =>
      have hn : ∀ y, y ∈ t → p y = false := fun y hy => by
        cases hy2 : p y with
        | false => rfl
        | true => have := h'.1 y hy hy2; rw [hp] at this; cases this
      have h1 : t.filter p = [] := List.filter_eq_nil_iff.2 fun y hy => by simp [hn y hy]
      have h2 : t.filter (fun x => !p x) = t := List.filter_eq_self.2 fun y hy => by simp [hn y hy]
      simp [hp, h1, h2]
theorem take_tw {p : α → Bool} {t : List α} : t.take (t.takeWhile p).length = t.takeWhile p := by
  rw [← List.prefix_iff_eq_take.1 (List.takeWhile_prefix p)]
theorem drop_tw {p : α → Bool} : ∀ {t : List α}, t.drop (t.takeWhile p).length = t.dropWhile p
  | [] => rfl
  | x :: t => by
    have ih := drop_tw (p := p) (t := t)
    cases h : p x <;> simp [h, ih]
end
def IsEnd (sg : Int) (L : List Vl) (o : Vl) : Prop :=
  (L = [] ∧ o = nullV) ∨ (o ∈ L ∧ ∀ v, v ∈ L → v.null = true) ∨ (o ∈ L ∧ o.null = false ∧ ∀ v, v ∈ L → v.null = false → cmpV v o * sg ≤ 0)
theorem null_eq {v w : Vl} (hv : v.Good) (hw : w.Good) (hk : v.kind = w.kind) (h1 : v.null = true) (h2 : w.null = true) : v = w := by
  obtain ⟨a, b⟩ := hv.nul h1
  obtain ⟨c, d⟩ := hw.nul h2
  exact vl_ext.2 ⟨by rw [h1, h2], hk, by rw [a, c], by rw [b, d]⟩
theorem null_set {v : Vl} (hv : v.Good) (h : v.null = true) : setKind nullV v.kind = v := by
  obtain ⟨a, b⟩ := hv.nul h
  exact vl_ext.2 ⟨by simp [setKind, nullV, h], rfl, by simp [setKind, nullV, a], by simp [setKind, nullV, b]⟩
theorem set_self {o : Vl} {k : Int} (h : o.kind = k) : setKind o k = o := by subst h; rfl
def GoodL (k : Int) (L : List Vl) : Prop := ∀ v, v ∈ L → v.kind = k ∧ v.Good
theorem IsEnd.step {sg k : Int} (hsg : sg = 1 ∨ sg = -1) {L : List Vl} {o v : Vl} (hL : GoodL k (L ++ [v])) (h : IsEnd sg L o) : IsEnd sg (L ++ [v]) (endS sg o v) := by
  obtain ⟨hvk, hv⟩ := hL v (by simp)
  have hm : ∀ x, x ∈ L → x.kind = k ∧ x.Good := fun x hx => hL x (by simp [hx])
  unfold endS
  by_cases hn : v.null = true
  · rw [if_pos hn]
    rcases h with ⟨rfl, rfl⟩ | ⟨ho, ha⟩ | ⟨ho, hon, ha⟩
    · rw [null_set hv hn]
      exact .inr (.inl ⟨by simp, fun w hw => by simp at hw; rw [hw, hn]⟩)
    · rw [set_self (by rw [(hm o ho).1, hvk])]
      exact .inr (.inl ⟨by simp [ho], fun w hw => by
        rcases List.mem_append.1 hw with hw | hw
        · exact ha w hw
        · simp at hw; rw [hw, hn]⟩)
    · rw [set_self (by rw [(hm o ho).1, hvk])]
      exact .inr (.inr ⟨by simp [ho], hon, fun w hw hwn => by
        rcases List.mem_append.1 hw with hw | hw
        · exact ha w hw hwn
        · simp at hw; rw [hw, hn] at hwn; cases hwn⟩)
  · rw [if_neg hn]
    have hn' : v.null = false := by simpa using hn
    rcases h with ⟨rfl, rfl⟩ | ⟨ho, ha⟩ | ⟨ho, hon, ha⟩
    · rw [if_pos (.inl rfl)]
      exact .inr (.inr ⟨by simp, hn', fun w hw _ => by simp at hw; rw [hw, cmpV_self]; omega⟩)
    · rw [if_pos (.inl (ha o ho))]
      refine .inr (.inr ⟨by simp, hn', fun w hw hwn => ?_⟩)
      rcases List.mem_append.1 hw with hw | hw
      · rw [ha w hw] at hwn; cases hwn
      · simp at hw; rw [hw, cmpV_self]; omega
    · have oo := cmpV_ord (k := k)
      have s1 := oo.sym v o hvk (hm o ho).1
      split
      · rename_i e
        have e : 0 < cmpV v o * sg := by
          rcases e with e | e
          · rw [hon] at e; cases e
          · exact e
        refine .inr (.inr ⟨by simp, hn', fun w hw hwn => ?_⟩)
        rcases List.mem_append.1 hw with hw | hw
        · have h1 := ha w hw hwn
          have hwk := (hm w hw).1
          have s2 := oo.sym w o hwk (hm o ho).1
          have s3 := oo.sym w v hwk hvk
          have t1 := oo.tr w o v hwk (hm o ho).1 hvk
          have t2 := oo.tr v o w hvk (hm o ho).1 hwk
          rcases hsg with rfl | rfl <;> omega
        · simp at hw; rw [hw, cmpV_self]; omega
      · rename_i e
        have e : ¬ 0 < cmpV v o * sg := fun h => e (.inr h)
        refine .inr (.inr ⟨by simp [ho], hon, fun w hw hwn => ?_⟩)
        rcases List.mem_append.1 hw with hw | hw
        · exact ha w hw hwn
        · simp at hw; subst hw; omega
theorem IsEnd.fold {sg k : Int} (hsg : sg = 1 ∨ sg = -1) : ∀ {M L : List Vl} {o : Vl}, GoodL k (L ++ M) → IsEnd sg L o → IsEnd sg (L ++ M) (M.foldl (endS sg) o)
  | [], L, o, _, h => by simpa using h
  | v :: M, L, o, hL, h => by
    have := IsEnd.fold hsg (M := M) (L := L ++ [v]) (o := endS sg o v) (by simpa using hL) (h.step hsg fun x hx => hL x (by simp at hx ⊢; rcases hx with hx | hx <;> simp [hx]))
    simpa using this
theorem IsEnd.uniq {sg k : Int} (hsg : sg = 1 ∨ sg = -1) {L : List Vl} {o o' : Vl} (hL : GoodL k L) (h : IsEnd sg L o) (h' : IsEnd sg L o') : o = o' := by
  rcases h with ⟨rfl, rfl⟩ | ⟨ho, ha⟩ | ⟨ho, hon, ha⟩ <;> rcases h' with ⟨e, rfl⟩ | ⟨ho', ha'⟩ | ⟨ho', hon', ha'⟩
  · rfl
  · simp at ho'
  · simp at ho'
  · subst e; simp at ho
  · exact null_eq (hL o ho).2 (hL o' ho').2 (by rw [(hL o ho).1, (hL o' ho').1]) (ha o ho) (ha' o' ho')
  · rw [ha o' ho'] at hon'; cases hon'
  · subst e; simp at ho
  · rw [ha' o ho] at hon; cases hon
  · have h1 := ha o' ho' hon'
    have h2 := ha' o ho hon
    have s := (cmpV_ord (k := k)).sym o o' (hL o ho).1 (hL o' ho').1
    exact cmpV_zero (hL o ho).2 (hL o' ho').2 (by rw [(hL o ho).1, (hL o' ho').1]) (by rcases hsg with rfl | rfl <;> omega)
theorem IsEnd.perm {sg : Int} {L L' : List Vl} {o : Vl} (hp : L.Perm L') (h : IsEnd sg L o) : IsEnd sg L' o := by
  rcases h with ⟨rfl, rfl⟩ | ⟨ho, ha⟩ | ⟨ho, hon, ha⟩
  · exact .inl ⟨hp.nil_eq.symm, rfl⟩
  · exact .inr (.inl ⟨hp.mem_iff.1 ho, fun v hv => ha v (hp.mem_iff.2 hv)⟩)
  · exact .inr (.inr ⟨hp.mem_iff.1 ho, hon, fun v hv => ha v (hp.mem_iff.2 hv)⟩)
def GoodRs (ks : List Int) (l : List Row) : Prop := ∀ r, r ∈ l → GoodR ks r
def InK (ks : List Int) (c : Int) : Prop := 0 ≤ c ∧ c < ks.length
theorem GoodRs.perm {ks : List Int} {l l' : List Row} (hp : l.Perm l') (h : GoodRs ks l) : GoodRs ks l' := fun r hr => h r (hp.mem_iff.2 hr)
theorem atV_mem {r : Row} {c : Int} (h0 : 0 ≤ c) (h : c < r.length) : atV r c ∈ r ∧ r[c.toNat]? = some (atV r c) := by
  have hl : c.toNat < r.length := by omega
  rw [atV, if_neg (by omega)]
  simp [hl]
theorem GoodR.at_ {ks : List Int} {r : Row} {c : Int} (h : GoodR ks r) (hc : InK ks c) : (atV r c).kind = (ks[c.toNat]?).getD 0 ∧ (atV r c).Good := by
  have hk := h.kin
  unfold Kin at hk
  have hl : r.length = ks.length := by rw [← hk]; simp
  obtain ⟨h1, h2⟩ := atV_mem (r := r) hc.1 (by have := hc.2; omega)
  refine ⟨?_, h.good _ h1⟩
  rw [← hk, List.getElem?_map, h2]; rfl
theorem GoodRs.col {ks : List Int} {l : List Row} {c : Int} (h : GoodRs ks l) (hc : InK ks c) : GoodL ((ks[c.toNat]?).getD 0) (l.map fun r => atV r c) := by
  intro v hv
  obtain ⟨r, hr, rfl⟩ := List.mem_map.1 hv
  exact (h r hr).at_ hc
theorem endF_is {sg c : Int} (hsg : sg = 1 ∨ sg = -1) {ks : List Int} {l : List Row} (h : GoodRs ks l) (hc : InK ks c) : IsEnd sg (l.map fun r => atV r c) (endF c sg l) := by
  have := IsEnd.fold (sg := sg) (k := (ks[c.toNat]?).getD 0) hsg (M := l.map fun r => atV r c) (L := []) (o := nullV) (by simpa using h.col hc) (.inl ⟨rfl, rfl⟩)
  simpa [endF] using this
theorem endF_perm {sg c : Int} (hsg : sg = 1 ∨ sg = -1) {ks : List Int} {l l' : List Row} (hp : l.Perm l') (h : GoodRs ks l) (hc : InK ks c) : endF c sg l = endF c sg l' :=
  IsEnd.uniq hsg ((h.perm hp).col hc) ((endF_is hsg h hc).perm (hp.map _)) (endF_is hsg (h.perm hp) hc)
theorem sumT_permC {c : Int} {a b : List Row} (h : a.Perm b) : sumT c a = sumT c b := by
  unfold sumT
  induction h with
  | nil => rfl
  | cons x _ ih => simp [ih]
  | swap x y l => simp; omega
  | trans _ _ h1 h2 => exact h1.trans h2
theorem oneF_perm {ks : List Int} {l l' : List Row} {a : Ag} (hp : l.Perm l') (h : GoodRs ks l) (hc : InK ks a.col) : oneF l a = oneF l' a := by
  unfold oneF sumV
  rw [hp.length_eq, sumT_permC hp, endF_perm (.inl rfl) hp h hc, endF_perm (.inr rfl) hp h hc]
theorem oks_perm {ks : List Int} {l l' : List Row} {ags : List Ag} (hp : l.Perm l') (h : GoodRs ks l) (hc : ∀ a, a ∈ ags → InK ks a.col) : oks l ags = oks l' ags := by
  unfold oks
  rw [Bool.eq_iff_iff, List.all_eq_true, List.all_eq_true]
  constructor <;> intro k a ha
  · rw [← oneF_perm hp h (hc a ha)]; exact k a ha
  · rw [oneF_perm hp h (hc a ha)]; exact k a ha
theorem vals_perm {ks : List Int} {l l' : List Row} {ags : List Ag} (hp : l.Perm l') (h : GoodRs ks l) (hc : ∀ a, a ∈ ags → InK ks a.col) : vals l ags = vals l' ags := by
  unfold vals
  exact List.map_congr_left fun a ha => by rw [oneF_perm hp h (hc a ha)]
theorem cmpC_ord {c : Int} {ks : List Int} (hc : InK ks c) : Ord3 (GoodR ks) (cmpC c) :=
  ⟨fun _ _ hx hy => (cmpV_ord (k := (ks[c.toNat]?).getD 0)).sym _ _ (hx.at_ hc).1 (hy.at_ hc).1, fun _ _ _ hx hy hz => (cmpV_ord (k := (ks[c.toNat]?).getD 0)).tr _ _ _ (hx.at_ hc).1 (hy.at_ hc).1 (hz.at_ hc).1⟩
theorem cmpC_zero {c : Int} {ks : List Int} (hc : InK ks c) {a b : Row} (ha : GoodR ks a) (hb : GoodR ks b) (h : cmpC c a b = 0) : atV a c = atV b c :=
  cmpV_zero (ha.at_ hc).2 (hb.at_ hc).2 (by rw [(ha.at_ hc).1, (hb.at_ hc).1]) h
theorem first_group {c : Int} {ks : List Int} (hc : InK ks c) {r : Row} {t : List Row} (hg : GoodRs ks (r :: t)) (h : Rise (cmpC c) (r :: t)) :
    (r :: t).take (cnt c r t) = (r :: t).filter (fun x => decide (cmpC c x r = 0)) ∧ (r :: t).drop (cnt c r t) = (r :: t).filter (fun x => !decide (cmpC c x r = 0)) := by
  have o := cmpC_ord hc
  have h' := List.pairwise_cons.1 h
  have hr := hg r (by simp)
  have hpw : t.Pairwise (fun x y => decide (cmpC c y r = 0) = true → decide (cmpC c x r = 0) = true) := by
    refine List.Pairwise.imp_of_mem ?_ h'.2
    intro x y hx hy hxy e
    have hx' := hg x (by simp [hx])
    have hy' := hg y (by simp [hy])
    have e : cmpC c y r = 0 := by simpa using e
    have h1 := h'.1 x hx
    have h2 := o.tr x y r hx' hy' hr hxy (by omega)
    have := o.sym x r hx' hr
    simp; omega
  obtain ⟨h1, h2⟩ := tw_filter hpw
  have hs : cmpC c r r = 0 := o.self hr
  have e : cnt c r t = (t.takeWhile fun x => decide (cmpC c x r = 0)).length + 1 := Nat.add_comm ..
  rw [e, List.take_succ_cons, List.drop_succ_cons, take_tw, drop_tw, h1, h2]
  simp [hs]
theorem runG_perm {c : Int} {ks : List Int} {ags : List Ag} (hc : InK ks c) (ha : ∀ a, a ∈ ags → InK ks a.col) : ∀ (w : Nat) (l1 l2 : List Row), l1.length ≤ w → l1.Perm l2 → GoodRs ks l1 → Rise (cmpC c) l1 → Rise (cmpC c) l2 → runG c ags w l1 = runG c ags w l2
  | w, [], l2, _, hp, _, _, _ => by rw [hp.nil_eq]
  | 0, _ :: _, _, h, _, _, _, _ => by simp at h
  | w + 1, r1 :: t1, [], _, hp, _, _, _ => by have := hp.length_eq; simp at this
  | w + 1, r1 :: t1, r2 :: t2, hw, hp, hg, h1, h2 => by
    have o := cmpC_ord hc
    have hg2 := hg.perm hp
    have k1 := hg r1 (by simp)
    have k2 := hg2 r2 (by simp)
    have le1 : cmpC c r1 r2 ≤ 0 := by
      have : r2 ∈ r1 :: t1 := hp.mem_iff.2 (by simp)
      rcases List.mem_cons.1 this with e | e
      · rw [e, o.self k1]; omega
      · exact (List.pairwise_cons.1 h1).1 r2 e
    have le2 : cmpC c r2 r1 ≤ 0 := by
      have : r1 ∈ r2 :: t2 := hp.mem_iff.1 (by simp)
      rcases List.mem_cons.1 this with e | e
      · rw [e, o.self k2]; omega
      · exact (List.pairwise_cons.1 h2).1 r1 e
    have s := o.sym r1 r2 k1 k2
    have e0 := cmpC_zero hc k1 k2 (by omega)
    obtain ⟨a1, b1⟩ := first_group hc hg h1
    obtain ⟨a2, b2⟩ := first_group hc hg2 h2
    have ef : ∀ x, cmpC c x r1 = cmpC c x r2 := fun x => by unfold cmpC; rw [e0]
    simp only [ef] at a1 b1
    have pt : ((r1 :: t1).take (cnt c r1 t1)).Perm ((r2 :: t2).take (cnt c r2 t2)) := by rw [a1, a2]; exact hp.filter _
    have pd : ((r1 :: t1).drop (cnt c r1 t1)).Perm ((r2 :: t2).drop (cnt c r2 t2)) := by rw [b1, b2]; exact hp.filter _
    have hgt : GoodRs ks ((r1 :: t1).take (cnt c r1 t1)) := fun x hx => hg x (List.mem_of_mem_take hx)
    have hc1 : 1 ≤ cnt c r1 t1 := by unfold cnt; omega
    have ih := runG_perm hc ha w _ _ (by simp only [List.length_drop, List.length_cons]; simp at hw; omega) pd (fun x hx => hg x (List.mem_of_mem_drop hx)) (h1.drop) (h2.drop)
    unfold runG
    rw [oks_perm pt hgt ha, vals_perm pt hgt ha, ih, e0]
def grpF (c : Int) (ags : List Ag) (l : List Row) : List Row × Bool := runG c ags l.length (sortL (cmpC c) l)
theorem grp_rise {c : Int} {ks : List Int} {ags : List Ag} (hc : InK ks c) (ha : ∀ a, a ∈ ags → InK ks a.col) {l l' : List Row} (hg : GoodRs ks l) (hp : l'.Perm l) (h : Rise (cmpC c) l') : runG c ags l'.length l' = grpF c ags l := by
  unfold grpF
  rw [← hp.length_eq]
  exact runG_perm hc ha _ _ _ (Nat.le_refl _) (hp.trans sortL_perm.symm) (hg.perm hp.symm) h (sortL_rise (cmpC_ord hc) hg)
theorem grp_srt {c : Int} {ks : List Int} {ags : List Ag} (hc : InK ks c) (ha : ∀ a, a ∈ ags → InK ks a.col) {l l' : List Row} (hg : GoodRs ks l) (hp : l'.Perm l) (h : Srt (cmpC c) l' 0 l.length) : runG c ags l'.length l' = grpF c ags l :=
  grp_rise hc ha hg hp (Srt.rise (cmpC_ord hc) (hg.perm hp.symm) (by rw [hp.length_eq]; exact h))
def grpsF (c : Int) (ags : List Ag) (l : List Row) : List Row × Bool := if c < 0 then (if oks l ags then [vals l ags] else [], oks l ags) else grpF c ags l
end Go.Lib
end

section
namespace Go.Dv
open Go.Vm
variable {p : Prog} {ext : Ext} {Q : ResD → Prop} {H0 H : HpD} {sz : Nat} {s : D} {el : List (List D)}
def FrLe (fr : FrD) : FrD → Prop
  | [] => True
  | (t, d) :: r => D.le (lk fr t) d ∧ FrLe fr r
theorem frLe_nil {fr : FrD} : FrLe fr [] = True := rfl
theorem frLe_cons {fr r : FrD} {t : Nat} {d : D} : FrLe fr ((t, d) :: r) = (D.le (lk fr t) d ∧ FrLe fr r) := rfl
theorem FrLe.lk {fr : FrD} : ∀ {fr' : FrD}, FrLe fr fr' → ∀ u, D.le (lk fr u) (lk fr' u)
  | [], _, u => by simp [Dv.lk, D.le]
  | (t, d) :: r, h, u => by
    rw [lk_cons]
    split
    · rename_i e; subst e; exact h.1
    · exact FrLe.lk h.2 u
theorem Weak.as {a : List D} {fr fr' : FrD} (h : FrLe fr fr') : Weak a fr H a fr' H :=
  fun ψ S _ _ _ s k kv => ⟨ψ, S, .refl, s, fun t => VD.le _ _ (h.lk t) (k t), kv⟩
theorem get1_0 {d : D} : [d][0]? = some d := rfl
theorem get2_0 {d e : D} : [d, e][0]? = some d := rfl
theorem get2_1 {d e : D} : [d, e][1]? = some e := rfl
attribute [simp] frLe_nil frLe_cons get1_0 get2_0 get2_1
theorem sem_as (fr' : FrD) {fr : FrD} {c : KC} {K : List KD} (h : FrLe fr fr') (hs : Sem p ext Q (.code c K .mk fr' H)) : Sem p ext Q (.code c K .mk fr H) := sem_weak (Weak.as h) hs
theorem splice_left {x : List D} : ∀ (a m : List D) (k : Nat), spliceD (a ++ m) (a.length + k) x = a ++ spliceD m k x
  | [], m, k => by simp
  | d :: a, m, k => by
    rw [List.cons_append, List.length_cons, show a.length + 1 + k = (a.length + k) + 1 from by omega, spliceD_succ, splice_left a m k]; rfl
theorem splice_whole {x : List D} (hx : x.length = sz) : ∀ {el : List (List D)} {i : Nat} {e : List D}, (∀ e, e ∈ el → e.length = sz) → el[i]? = some e → spliceD el.flatten (i * sz) x = (el.set i x).flatten
  | [], _, _, _, he => by simp at he
  | a :: l, 0, e, hs, he => by
    have ha := hs a (List.mem_cons_self ..)
    simp [spliceD_zero, hx, ← ha]
  | a :: l, i + 1, e, hs, he => by
    have ha := hs a (List.mem_cons_self ..)
    have ih := splice_whole hx (el := l) (i := i) (e := e) (fun y hy => hs y (List.mem_cons_of_mem _ hy)) (by simpa using he)
    simp only [List.flatten_cons, List.set_cons_succ]
    rw [show (i + 1) * sz = a.length + i * sz from by rw [ha, Nat.succ_mul]; omega, splice_left, ih]
theorem flat_get {j : Nat} : ∀ {el : List (List D)} {i : Nat} {e : List D}, (∀ e, e ∈ el → e.length = sz) → el[i]? = some e → j < sz → el.flatten[i * sz + j]? = e[j]?
  | [], _, _, _, he, _ => by simp at he
  | a :: l, 0, e, hs, he, hj => by
    have ha := hs a (List.mem_cons_self ..)
    simp at he; subst he
    simp only [List.flatten_cons, Nat.zero_mul, Nat.zero_add]
    rw [List.getElem?_append_left (by omega)]
  | a :: l, i + 1, e, hs, he, hj => by
    have ha := hs a (List.mem_cons_self ..)
    have ih := flat_get (el := l) (i := i) (e := e) (fun y hy => hs y (List.mem_cons_of_mem _ hy)) (by simpa using he) hj
    simp only [List.flatten_cons]
    rw [show (i + 1) * sz + j = a.length + (i * sz + j) from by rw [ha, Nat.succ_mul]; omega, List.getElem?_append_right (by omega), Nat.add_sub_cancel_left, ih]
theorem Gr.aside {H1 : HpD} {x : BD} (g : Gr H1 H sz s el) (h : Sub H0 H1) {b : Nat} (h0 : H0.next ≤ b) (hb : b < H1.next) : Gr H0 (H.put b x) sz s el := by
  refine ⟨(h.trans g.sub).put h0, g.len, ?_⟩
  rcases g.at_ with h2 | ⟨b', ex, el0, rfl, h1, h2, h3, h4⟩
  · exact .inl h2
  · exact .inr ⟨b', ex, el0, rfl, by have := h.next; omega, h2, by rw [put_blk, if_neg (by omega)]; exact h3, h4⟩
theorem sem_exact {c : KC} {K : List KD} {fr : FrD} (g : Gr H0 H sz s el) (hs : ∀ H', GrX H0 H' sz s el → (∀ x, ¬ s.hasB x → H'.blk x = H.blk x) → H'.next = H.next → Sem p ext Q (.code c K .mk fr H')) : Sem p ext Q (.code c K .mk fr H) := by
  obtain ⟨H', w, g', k, n⟩ := g.exact
  exact sem_weak (w _ _) (hs H' g' k n)
theorem GrX.keep {H1 : HpD} (g : GrX H0 H sz s el) (hs : Sub H H1) (hk : ∀ x, s.hasB x → H1.blk x = H.blk x) : GrX H0 H1 sz s el := by
  refine ⟨g.gr.mono hs, ?_⟩
  rcases g.at_ with h | ⟨b, ex, rfl, h1, h2, h3⟩
  · exact .inl h
  · exact .inr ⟨b, ex, rfl, h1, by have := hs.next; omega, by rw [hk b rfl, h3]⟩
theorem GrX.whole {e x : List D} {i b : Nat} {ex : Bool} (g : GrX H0 H sz (.slice b 0 sz el.length el.length ex) el) (he : el[i]? = some e) (hx : x.length = sz) (h1 : H0.next ≤ b) (h2 : b < H.next) : GrX H0 (H.put b (.cells (spliceD el.flatten (i * sz) x) false)) sz (.slice b 0 sz el.length el.length ex) (el.set i x) := by
  rw [splice_whole hx g.gr.len he]
  refine ⟨⟨g.gr.sub.put h1, fun y hy => ?_, .inr ⟨b, ex, el.set i x, by simp, h1, h2, by simp, D.less_refl _⟩⟩, .inr ⟨b, ex, by simp, h1, h2, by simp⟩⟩
  rcases List.mem_or_eq_of_mem_set hy with hy | rfl
  · exact g.gr.len y hy
  · exact hx
theorem GrX.cell {e : List D} {x : D} {i j b : Nat} {ex : Bool} (g : GrX H0 H sz (.slice b 0 sz el.length el.length ex) el) (he : el[i]? = some e) (hj : j < sz) (h1 : H0.next ≤ b) (h2 : b < H.next) : GrX H0 (H.put b (.cells (spliceD el.flatten (i * sz + j) [x]) false)) sz (.slice b 0 sz el.length el.length ex) (el.set i (e.set j x)) := by
  rw [spliceD_flatten g.gr.len he hj]
  refine ⟨⟨g.gr.sub.put h1, fun y hy => ?_, .inr ⟨b, ex, el.set i (e.set j x), by simp, h1, h2, by simp, D.less_refl _⟩⟩, .inr ⟨b, ex, by simp, h1, h2, by simp⟩⟩
  rcases List.mem_or_eq_of_mem_set hy with hy | rfl
  · exact g.gr.len y hy
  · rw [List.length_set]; exact g.gr.len e (List.mem_of_getElem? he)
theorem SR.tellV {ψ : Nat → Option Nat} {S : Nat → Prop} {h : Hp} {b : Nat} {cs cs' : List D} {ro : Bool} (s : SR ψ S H h) (hb : H.blk b = .cells cs ro) (hl : ∀ l', VDl h ψ S cs l' → VDl h ψ S cs' l') : SR ψ S (H.put b (.cells cs' ro)) h :=
  ⟨s.inj, s.dom, s.frz, fun b' hg => by
    rw [put_blk] at hg ⊢
    by_cases e : b' = b
    · subst e
      obtain ⟨c, h1, h2, h3⟩ := s.live b' (by rw [hb]; rfl)
      rw [hb] at h3
      obtain ⟨l', e1, k⟩ := h3
      refine ⟨c, h1, h2, ?_⟩
      rw [if_pos rfl]
      exact ⟨l', e1, hl l' k⟩
    · rw [if_neg e] at hg ⊢
      exact s.live b' hg⟩
theorem Gr.incell (g : Gr H0 H sz s el) {b2 j : Nat} {cs : List D} {ro : Bool} (hb2 : H.blk b2 = .cells cs ro) (hj : cs[j]? = some s) (hne : ¬ s.hasB b2) :
    ∃ H', (∀ a fr, Weak a fr H a fr H') ∧ H'.blk b2 = .cells (cs.set j (.row sz .p el)) ro ∧ (∀ x, x ≠ b2 → ¬ s.hasB x → H'.blk x = H.blk x) ∧ H'.next = H.next ∧ ∀ H1, Sub H1 H → H1.next ≤ H0.next → H1.next ≤ b2 → Sub H1 H' := by
  rcases g.at_ with ⟨rfl, rfl⟩ | ⟨b, ex, el0, rfl, h1, h2, h3, h4⟩
  · refine ⟨H.put b2 (.cells (cs.set j (.row sz .p [])) ro), fun a fr => ?_, by simp, fun x hx _ => by rw [put_blk, if_neg hx], by simp, fun H1 hs _ h2 => hs.put h2⟩
    intro ψ S h fv vs sr kf kv
    exact ⟨ψ, S, .refl, sr.tellV hb2 fun l' k => k.setD hj fun v hv => VD.le (.lit .nilslice) _ (by simp [D.le]) hv, kf, kv⟩
  · have hb : b2 ≠ b := fun e => hne (by simp only [D.hasB]; omega)
    refine ⟨(H.put b .gone).put b2 (.cells (cs.set j (.row sz .p el)) ro), fun a fr => ?_, by simp, fun x hx hx2 => ?_, by simp, fun H1 hs h0 h2 => (hs.put (by omega)).put h2⟩
    · intro ψ S h fv vs sr kf kv
      have hel := less_length h4
      obtain ⟨c, hc, hr⟩ := frz_row sr h3 (less_sz h4 g.len)
      obtain ⟨x0, s0⟩ := sr.freeze hc
      refine ⟨ψ, _, x0, s0.tellV (cs := cs) (by rw [put_blk, if_neg hb]; exact hb2) fun l' k => k.setD hj fun v hv => ?_, kf.mono x0, VDl.mono x0 _ kv⟩
      simp only [VD] at hv
      obtain ⟨c', e, e2⟩ := hv
      rw [hc] at e; cases e
      rw [e2]
      rw [← hel]
      refine VD.le _ _ ?_ (hr _ _ (Nat.le_refl _))
      simp [D.le, h4]
    · rw [put_blk, if_neg hx, put_blk, if_neg]
      exact fun e => hx2 (by simp only [D.hasB]; omega)
theorem Gr.last {t : D} {H1 : HpD} {pre : List (List D)} (g : Gr H0 H 1 t (pre ++ [[s]])) (gs : Gr H1 H sz s el) (h01 : H0.next ≤ H1.next) (hne : ∀ x, t.hasB x → ¬ s.hasB x) :
    ∃ H', (∀ a fr, Weak a fr H a fr H') ∧ Gr H0 H' 1 t (pre ++ [[.row sz .p el]]) ∧ (∀ x, ¬ t.hasB x → ¬ s.hasB x → H'.blk x = H.blk x) ∧ H'.next = H.next := by
  obtain ⟨H2, w, g2, k2, n2⟩ := g.exact
  rcases g2.at_ with ⟨_, he⟩ | ⟨b, ex, rfl, h1, h2, h3⟩
  · simp at he
  · have hpre : pre.flatten.length = pre.length := by
      rw [flatten_len (sz := 1) fun e he => g.len e (List.mem_append_left _ he)]; omega
    have hsb : ¬ s.hasB b := hne b (by simp [D.hasB])
    have gs2 : Gr H2 H2 sz s el ∨ ∃ b' ex' el0, s = .slice b' 0 sz el.length el.length ex' ∧ H1.next ≤ b' ∧ b' < H2.next ∧ H2.blk b' = .cells el0.flatten false ∧ D.less el0 el := by
      rcases gs.at_ with ⟨h, h'⟩ | ⟨b', ex', el0, rfl, h1', h2', h3', h4'⟩
      · exact .inl ⟨.refl, gs.len, .inl ⟨h, h'⟩⟩
      · refine .inr ⟨b', ex', el0, rfl, h1', by omega, ?_, h4'⟩
        have hb : ¬ b' = b := fun e => hsb (by simp only [D.hasB]; omega)
        rw [k2 b' (by simp only [D.hasB]; exact hb)]; exact h3'
    have gs3 : ∃ H3, Gr H3 H2 sz s el ∧ H3.next = min H1.next H2.next ∧ ∀ x, H3.blk x = H2.blk x := by
      rcases gs2 with g | ⟨b', ex', el0, rfl, h1', h2', h3', h4'⟩
      · rcases g.at_ with h | ⟨b', ex', el0, rfl, h1', h2', _, _⟩
        · exact ⟨⟨min H1.next H2.next, H2.blk⟩, ⟨⟨by simp; omega, fun _ _ => rfl⟩, g.len, .inl h⟩, rfl, fun _ => rfl⟩
        · omega
      · exact ⟨⟨min H1.next H2.next, H2.blk⟩, ⟨⟨by simp; omega, fun _ _ => rfl⟩, gs.len, .inr ⟨b', ex', el0, rfl, by simp; omega, h2', h3', h4'⟩⟩, rfl, fun _ => rfl⟩
    obtain ⟨H3, g3, n3, _⟩ := gs3
    have hcell : (pre ++ [[s]]).flatten[pre.length]? = some s := by
      rw [List.flatten_append, List.getElem?_append_right (by omega), hpre]; simp
    have hset : (pre ++ [[s]]).flatten.set pre.length (D.row sz .p el) = (pre ++ [[D.row sz .p el]]).flatten := by
      rw [List.flatten_append, List.flatten_append, List.set_append, if_neg (by omega), hpre]; simp
    obtain ⟨H4, w4, c4, k4, n4, sub4⟩ := g3.incell h3 hcell hsb
    rw [hset] at c4
    have hn0 := g.sub.next
    have h3n : H0.next ≤ H3.next := by rw [n3]; omega
    refine ⟨H4, fun a fr => (w a fr).trans (w4 a fr), ⟨sub4 H0 g2.gr.sub h3n h1, fun e he => ?_, .inr ⟨b, ex, pre ++ [[.row sz .p el]], by simp, h1, by omega, c4, D.less_refl _⟩⟩, fun x hx hx2 => ?_, by omega⟩
    · rcases List.mem_append.1 he with he | he
      · exact g.len e (List.mem_append_left _ he)
      · simp at he; subst he; rfl
    · rw [k4 x (fun e => hx (by simp only [D.hasB]; omega)) hx2, k2 x hx]
theorem Gr.far (g : Gr H0 H sz s el) {x : Nat} (h : s.hasB x) : H0.next ≤ x ∧ x < H.next := by
  rcases g.at_ with ⟨rfl, _⟩ | ⟨b, ex, el0, rfl, h1, h2, _⟩
  · simp [D.hasB] at h
  · simp only [D.hasB] at h; subst h; exact ⟨h1, h2⟩
theorem Gr.rest {H3 : HpD} (g : Gr H0 H sz s el) (hn : H.next ≤ H3.next) (hk : ∀ x, s.hasB x → H3.blk x = H.blk x) : Gr ⟨H0.next, H3.blk⟩ H3 sz s el := by
  refine ⟨⟨Nat.le_trans g.sub.next hn, fun _ _ => rfl⟩, g.len, ?_⟩
  rcases g.at_ with h | ⟨b, ex, el0, rfl, h1, h2, h3, h4⟩
  · exact .inl h
  · exact .inr ⟨b, ex, el0, rfl, h1, by omega, by rw [hk b (by simp only [D.hasB])]; exact h3, h4⟩
theorem Gr.base {H1 : HpD} (g : Gr H1 H sz s el) (h : Sub H0 H1) : Gr H0 H sz s el := by
  refine ⟨h.trans g.sub, g.len, ?_⟩
  rcases g.at_ with h2 | ⟨b, ex, el0, rfl, h1, h2, h3, h4⟩
  · exact .inl h2
  · exact .inr ⟨b, ex, el0, rfl, Nat.le_trans h.next h1, h2, h3, h4⟩
theorem WcD.via {f : Nat} {args args' : List D} {H' : HpD} {R : D → HpD → Prop} (w : Weak args [] H args' [] H') (hw : WcD p ext f args' H' R) : WcD p ext f args H R := by
  intro ψ S h vs s k
  obtain ⟨ψ1, S1, x1, s1, _, k1⟩ := w ψ S h (.leaf) vs s (fun t => by simp [Dv.lk, VD]) k
  refine (hw ψ1 S1 h vs s1 k1).mono fun v h' ⟨ψ', S', d, H2, a, b, c, e⟩ => ⟨ψ', S', d, H2, x1.trans a, b, c, e⟩
theorem WeakV.part1 {b o n cap : Nat} {ex ro : Bool} {cs : List D} (hb : H.blk b = .cells cs ro) (he : ∀ e, e ∈ el → e.length = sz) (hl : el.length = n) (hc : (cs.drop o).take (n * sz) = el.flatten) (hn : n ≤ cap) :
    WeakV (.slice b o sz n cap ex) H (.row sz .p el) (H.put b .gone) := by
  intro ψ S h v sr kv
  obtain ⟨c, h1, h2, l', h3, h4⟩ : ∃ c, ψ b = some c ∧ ¬ S c ∧ ∃ l', h.blk c = .cells l' ro ∧ VDl h ψ S cs l' := by
    obtain ⟨c, h1, h2, h3⟩ := sr.live b (by rw [hb]; rfl)
    rw [hb] at h3
    exact ⟨c, h1, h2, h3⟩
  obtain ⟨x0, s0⟩ := sr.freeze h1
  refine ⟨ψ, _, x0, s0, ?_⟩
  simp only [VD] at kv ⊢
  obtain ⟨c', e, rfl⟩ := kv
  rw [h1] at e; cases e
  refine .inr ⟨c, o, cap, ex, by rw [hl], by rw [hl]; exact hn, fun e => (by cases e), .inr ⟨l', ro, .inr rfl, h3, ?_⟩⟩
  have k1 := VDl.take (n * sz) (VDl.drop o h4)
  rw [hc] at k1
  have := VDss.of (us := (l'.drop o).drop (n * sz)) he (VDl.mono x0 _ k1)
  rwa [List.take_append_drop] at this
structure Part (H0 H : HpD) (sz : Nat) (s : D) (el : List (List D)) : Prop where
  sub : Sub H0 H
  len : ∀ e, e ∈ el → e.length = sz
  at_ : (s = .lit .nilslice ∧ el = []) ∨ ∃ b o cap ex cs, s = .slice b o sz el.length cap ex ∧ el.length ≤ cap ∧ H0.next ≤ b ∧ b < H.next ∧ H.blk b = .cells cs false ∧ (cs.drop o).take (el.length * sz) = el.flatten
theorem Part.fin {H0 H : HpD} {s : D} (g : Part H0 H sz s el) : ∃ H2, WeakV s H (.row sz .p el) H2 ∧ Sub H0 H2 := by
  rcases g.at_ with ⟨rfl, rfl⟩ | ⟨b, o, cap, ex, cs, rfl, h0, h1, h2, h3, h4⟩
  · exact ⟨H, .le (by simp [D.le]), g.sub⟩
  · exact ⟨_, WeakV.part1 h3 g.len rfl h4 h0, g.sub.put h1⟩
theorem splice_one {x : D} : ∀ {cs : List D} {i : Nat}, i < cs.length → spliceD cs i [x] = cs.set i x
  | [], _, h => by simp at h
  | c :: cs, 0, _ => by simp [spliceD_zero]
  | c :: cs, i + 1, h => by rw [spliceD_succ, splice_one (by simpa using h)]; rfl
theorem splice_take {x : List D} : ∀ {cs : List D} {i : Nat}, i ≤ cs.length → (spliceD cs i x).take i = cs.take i
  | cs, 0, _ => by simp
  | [], i + 1, h => by simp at h
  | c :: cs, i + 1, h => by rw [spliceD_succ]; simp only [List.take_succ_cons]; rw [splice_take (by simpa using h)]
theorem wc_own_at {f : Nat} {d : D} {args : List D} (g : Gr H0 H sz s el) (j : Nat) (ht : args[j]? = some s) (hf : FnD p ext f (args.set j (.row sz .p el)) d) : WcD p ext f args H fun d' H' => d' = d ∧ Sub H0 H' ∧ (∀ x, ¬ s.hasB x → H'.blk x = H.blk x) ∧ H'.next = H.next := by
  obtain ⟨H', w, s', k, n⟩ := g.arg j (args := args) (fr := []) ht (m := .p) (by simp)
  refine WcD.via w ((hf H').mono ?_)
  rintro d' H2 ⟨rfl, rfl⟩
  exact ⟨rfl, s', k, n⟩
end Go.Dv
end

section
set_option maxRecDepth 10000
namespace Go.Lib
open Go.Vm Go.Dv Go.Srt
variable {p : Prog} {ext : Ext} {F : Nat → Nat}
structure HRef15 (p : Prog) (ext : Ext) (F : Nat → Nat) : Prop where
  ref6 : HRef6 p ext F
  h53 : Has p ext F 53 M53
  h54 : Has p ext F 54 M54
  h55 : Has p ext F 55 M55
  h56 : Has p ext F 56 M56
  h57 : Has p ext F 57 M57
  h58 : Has p ext F 58 M58
  h59 : Has p ext F 59 M59
  h60 : Has p ext F 60 M60
theorem cmpR_ord {ks : List Int} : Ord3 (GoodR ks) cmpR := ⟨fun x y hx hy => cmpRow_ord.sym x y hx.kin hy.kin, fun x y z hx hy hz => cmpRow_ord.tr x y z hx.kin hy.kin hz.kin⟩
theorem cmpR_zero {ks : List Int} : ∀ x y, GoodR ks x → GoodR ks y → cmpR x y = 0 → x = y := fun _ _ hx hy h => cmpRow_zero hx hy h
end Go.Lib
end

section
namespace Go.Lib
open Go.Vm Go.Dv
set_option maxRecDepth 100000
abbrev K22 (F : Nat → Nat) : KC := .seq (.region [⟨(some 2),(.a (.box (.tmp 0))),none⟩,⟨(some 4),(.p (.mov (.val (.nilslice)))),none⟩] [2] [1,2])
 (.seq (.region [⟨(some 5),(.p (.mov (.val (.nilslice)))),none⟩] [] [1,2,5])
 (.seq (.seq (.region [⟨(some 6),(.p (.mov (.val (.int .i64 (.ofNat 0))))),none⟩] [] [1,2,5,6])
 (.block 0 (.loop (.seq (.seq (.region [⟨(some 8),(.p (.mov (.tmp 6))),none⟩,⟨(some 9),(.p (.mov (.tmp 1))),none⟩,⟨(some 10),(.p (.lenb (.tmp 9))),none⟩,⟨(some 11),(.p (.bin .lss (.tmp 8) (.tmp 10))),none⟩,⟨(some 12),(.p (.mov (.tmp 11))),none⟩,⟨(some 13),(.p (.mov (.tmp 6))),(some (12,true))⟩,⟨(some 14),(.p (.bin .lss (.tmp 13) (.val (.int .i64 (.ofNat 40))))),(some (12,true))⟩,⟨(some 15),(.p (.pick (.tmp 12) (.tmp 14) (.val (.bool false)))),none⟩] [] [1,2,5,6,15])
 (.cond (.tmp 15) (.skip)
 (.exit 0)))
 (.seq (.block 1 (.seq (.dregion [⟨⟨(some 18),(.loadn 1 (.tmp 2)),none⟩,0,5⟩,⟨⟨(some 19),(.p (.mov (.tmp 1))),none⟩,0,5⟩,⟨⟨(some 20),(.p (.mov (.tmp 6))),none⟩,0,5⟩,⟨⟨(some 21),(.p (.iaddr 1 (.tmp 19) (.tmp 20))),none⟩,0,5⟩,⟨⟨(some 22),(.load1 (.tmp 21)),none⟩,0,5⟩,⟨⟨(some 23),(.e (.call (F 24) [(.tmp 18),(.tmp 22)])),none⟩,0,7⟩,⟨⟨(some 7),(.p (.mov (.tmp 23))),none⟩,6,7⟩] [1,2,5,6,7])
 (.seq (.region [⟨(some 24),(.p (.mov (.tmp 7))),none⟩,⟨(some 25),(.p (.mov (.tmp 6))),none⟩,⟨(some 26),(.p (.bin .mul (.tmp 25) (.val (.int .i64 (.ofNat 3))))),none⟩,⟨(some 27),(.p (.mov (.tmp 1))),none⟩,⟨(some 28),(.p (.mov (.tmp 6))),none⟩,⟨(some 29),(.p (.iaddr 1 (.tmp 27) (.tmp 28))),none⟩,⟨(some 30),(.load1 (.tmp 29)),none⟩,⟨(some 31),(.p (.bin .and (.tmp 30) (.val (.int .i64 (.ofNat 1))))),none⟩,⟨(some 32),(.p (.bin .add (.tmp 26) (.tmp 31))),none⟩,⟨(some 33),(.p (.iaddr 4 (.tmp 24) (.val (.int .i64 (.ofNat 0))))),none⟩,⟨(some 34),(.p (.faddr 2 (.tmp 33))),none⟩,⟨none,(.e (.store 1 (.tmp 34) (.tmp 32))),none⟩] [] [1,2,5,6,7])
 (.region [⟨(some 35),(.p (.mov (.tmp 5))),none⟩,⟨(some 36),(.p (.mov (.tmp 7))),none⟩,⟨(some 37),(.a (.bslice [.nilslice] 1 1 [(0,1,(.tmp 36))])),none⟩,⟨(some 38),(.e (.append 1 24 (.tmp 35) (.tmp 37))),none⟩,⟨(some 5),(.p (.mov (.tmp 38))),none⟩] [37] [1,2,5,6]))))
 (.region [⟨(some 16),(.p (.mov (.tmp 6))),none⟩,⟨(some 17),(.p (.bin .add (.tmp 16) (.val (.int .i64 (.ofNat 1))))),none⟩,⟨(some 6),(.p (.mov (.tmp 17))),none⟩] [] [1,2,5,6]))))))
 (.seq (.region [⟨(some 39),(.p (.mov (.tmp 5))),none⟩,⟨(some 4),(.p (.mov (.tmp 39))),none⟩] [] [4])
 (.ret))))
def M22 (F : Nat → Nat) : Fun := ⟨40,2,(K22 F).erase,[.tmp 4]⟩
theorem ok22 {F : Nat → Nat} : (K22 F).ok = true := rfl
abbrev K23 (_F : Nat → Nat) : KC := .seq (.region [⟨(some 2),(.a (.new [.nilslice])),none⟩] [] [0,2])
 (.seq (.region [⟨(some 6),(.p (.build [.str [],.int .i64 (.ofNat 0),.bool false] [(0,1,(.val (.str [107,101,121]))),(1,1,(.val (.int .i64 (.ofNat 1))))])),none⟩,⟨(some 7),(.a (.bslice [.str [],.int .i64 (.ofNat 0),.bool false] 3 1 [(0,3,(.tmp 6))])),none⟩,⟨(some 8),(.p (.build [.nilslice] [(0,1,(.tmp 7))])),none⟩,⟨(some 3),(.a (.new [.nilslice])),none⟩,⟨none,(.e (.store 1 (.tmp 3) (.tmp 8))),none⟩] [] [0,2,3])
 (.seq (.region [⟨(some 9),(.a (.bslice [.str [],.str [],.str [],.str [],.str []] 1 5 [(0,1,(.val (.str [97]))),(1,1,(.val (.str [98,98]))),(2,1,(.val (.str [99,99,99]))),(3,1,(.val (.str [110,117,108,108]))),(4,1,(.val (.str [97,110,100])))])),none⟩,⟨(some 4),(.p (.mov (.tmp 9))),none⟩] [9] [0,2,3,4])
 (.seq (.seq (.region [⟨(some 5),(.p (.mov (.val (.int .i64 (.ofNat 0))))),none⟩] [] [0,2,3,4,5])
 (.block 0 (.loop (.seq (.seq (.region [⟨(some 10),(.p (.mov (.tmp 5))),none⟩,⟨(some 11),(.p (.mov (.tmp 0))),none⟩,⟨(some 12),(.p (.bin .and (.tmp 11) (.val (.int .i64 (.ofNat 255))))),none⟩,⟨(some 13),(.p (.bin .rem (.tmp 12) (.val (.int .i64 (.ofNat 6))))),none⟩,⟨(some 14),(.p (.bin .lss (.tmp 10) (.tmp 13))),none⟩,⟨(some 15),(.p (.mov (.tmp 14))),none⟩,⟨(some 16),(.p (.mov (.tmp 5))),(some (15,true))⟩,⟨(some 17),(.p (.bin .lss (.tmp 16) (.val (.int .i64 (.ofNat 5))))),(some (15,true))⟩,⟨(some 18),(.p (.pick (.tmp 15) (.tmp 17) (.val (.bool false)))),none⟩] [] [0,2,3,4,5,18])
 (.cond (.tmp 18) (.skip)
 (.exit 0)))
 (.seq (.block 1 (.dregion [⟨⟨(some 21),(.p (.faddr 0 (.tmp 3))),none⟩,0,24⟩,⟨⟨(some 22),(.load1 (.tmp 21)),none⟩,0,24⟩,⟨⟨(some 23),(.p (.mov (.tmp 4))),none⟩,0,24⟩,⟨⟨(some 24),(.p (.mov (.tmp 5))),none⟩,0,24⟩,⟨⟨(some 25),(.p (.iaddr 1 (.tmp 23) (.tmp 24))),none⟩,0,24⟩,⟨⟨(some 26),(.load1 (.tmp 25)),none⟩,0,24⟩,⟨⟨(some 27),(.p (.mov (.tmp 0))),none⟩,0,24⟩,⟨⟨(some 28),(.p (.mov (.tmp 5))),none⟩,0,24⟩,⟨⟨(some 29),(.p (.bin .mul (.val (.int .i64 (.ofNat 2))) (.tmp 28))),none⟩,0,24⟩,⟨⟨(some 30),(.p (.bin .add (.val (.int .i64 (.ofNat 8))) (.tmp 29))),none⟩,0,24⟩,⟨⟨(some 31),(.p (.conv (.int .u64) (.tmp 30))),none⟩,0,24⟩,⟨⟨(some 32),(.p (.bin .shr (.tmp 27) (.tmp 31))),none⟩,0,24⟩,⟨⟨(some 33),(.p (.bin .and (.tmp 32) (.val (.int .i64 (.ofNat 1))))),none⟩,0,24⟩,⟨⟨(some 34),(.p (.bin .add (.tmp 33) (.val (.int .i64 (.ofNat 1))))),none⟩,0,24⟩,⟨⟨(some 35),(.p (.mov (.tmp 0))),none⟩,0,24⟩,⟨⟨(some 36),(.p (.mov (.tmp 5))),none⟩,0,24⟩,⟨⟨(some 37),(.p (.bin .mul (.val (.int .i64 (.ofNat 2))) (.tmp 36))),none⟩,0,24⟩,⟨⟨(some 38),(.p (.bin .add (.val (.int .i64 (.ofNat 9))) (.tmp 37))),none⟩,0,24⟩,⟨⟨(some 39),(.p (.conv (.int .u64) (.tmp 38))),none⟩,0,24⟩,⟨⟨(some 40),(.p (.bin .shr (.tmp 35) (.tmp 39))),none⟩,0,24⟩,⟨⟨(some 41),(.p (.bin .and (.tmp 40) (.val (.int .i64 (.ofNat 1))))),none⟩,0,24⟩,⟨⟨(some 42),(.p (.bin .eql (.tmp 41) (.val (.int .i64 (.ofNat 1))))),none⟩,0,24⟩,⟨⟨(some 43),(.p (.build [.str [],.int .i64 (.ofNat 0),.bool false] [(0,1,(.tmp 26)),(1,1,(.tmp 34)),(2,1,(.tmp 42))])),none⟩,0,24⟩,⟨⟨(some 44),(.a (.bslice [.str [],.int .i64 (.ofNat 0),.bool false] 3 1 [(0,3,(.tmp 43))])),none⟩,0,24⟩,⟨⟨(some 45),(.e (.append 3 32 (.tmp 22) (.tmp 44))),none⟩,0,26⟩,⟨⟨(some 46),(.p (.faddr 0 (.tmp 3))),none⟩,25,26⟩,⟨⟨none,(.e (.store 1 (.tmp 46) (.tmp 45))),none⟩,25,27⟩] [0,2,3,4,5]))
 (.region [⟨(some 19),(.p (.mov (.tmp 5))),none⟩,⟨(some 20),(.p (.bin .add (.tmp 19) (.val (.int .i64 (.ofNat 1))))),none⟩,⟨(some 5),(.p (.mov (.tmp 20))),none⟩] [] [0,2,3,4,5]))))))
 (.seq (.region [⟨(some 47),(.loadn 1 (.tmp 3)),none⟩,⟨none,(.e (.store 1 (.tmp 2) (.tmp 47))),none⟩] [] [2])
 (.ret)))))
def M23 (F : Nat → Nat) : Fun := ⟨48,1,(K23 F).erase,[.celln 1 2]⟩
theorem ok23 {F : Nat → Nat} : (K23 F).ok = true := rfl
abbrev K24 (F : Nat → Nat) : KC := .seq (.region [⟨(some 2),(.a (.box (.tmp 0))),none⟩,⟨(some 4),(.p (.mov (.val (.nilslice)))),none⟩] [2] [1,2])
 (.seq (.region [⟨(some 5),(.p (.mov (.val (.nilslice)))),none⟩] [] [1,2,5])
 (.seq (.seq (.region [⟨(some 8),(.p (.faddr 0 (.tmp 2))),none⟩,⟨(some 9),(.load1 (.tmp 8)),none⟩,⟨(some 10),(.p (.lenb (.tmp 9))),none⟩,⟨(some 11),(.p (.mov (.val (.int .i64 (.ofNat 0))))),none⟩] [] [1,5,9,10,11])
 (.block 0 (.loop (.seq (.region [⟨(some 12),(.p (.bin .lss (.tmp 11) (.tmp 10))),none⟩] [] [1,5,9,10,11,12])
 (.seq (.cond (.tmp 12) (.skip)
 (.exit 0))
 (.seq (.block 1 (.seq (.region [⟨(some 13),(.p (.mov (.tmp 11))),none⟩,⟨(some 14),(.p (.iaddr 3 (.tmp 9) (.tmp 11))),none⟩,⟨(some 15),(.loadn 3 (.tmp 14)),none⟩,⟨(some 7),(.a (.new [.str [],.int .i64 (.ofNat 0),.bool false])),none⟩,⟨(some 6),(.p (.mov (.tmp 13))),none⟩,⟨none,(.e (.store 3 (.tmp 7) (.tmp 15))),none⟩] [] [1,5,6,7,9,10,11])
 (.seq (.seq (.region [⟨(some 16),(.p (.mov (.tmp 6))),none⟩,⟨(some 17),(.p (.bin .eql (.tmp 16) (.val (.int .i64 (.ofNat 0))))),none⟩] [] [1,5,6,7,9,10,11,17])
 (.cond (.tmp 17) (.seq (.region [⟨(some 18),(.p (.mov (.tmp 5))),none⟩,⟨(some 19),(.p (.mov (.tmp 1))),none⟩,⟨(some 20),(.p (.bin .and (.tmp 19) (.val (.int .i64 (.ofNat 15))))),none⟩,⟨(some 21),(.p (.build [.bool false,.int .i64 (.ofNat 0),.int .i64 (.ofNat 0),.nilslice] [(1,1,(.val (.int .i64 (.ofNat 1)))),(2,1,(.tmp 20))])),none⟩,⟨(some 22),(.a (.bslice [.bool false,.int .i64 (.ofNat 0),.int .i64 (.ofNat 0),.nilslice] 4 1 [(0,4,(.tmp 21))])),none⟩,⟨(some 23),(.e (.append 4 48 (.tmp 18) (.tmp 22))),none⟩,⟨(some 5),(.p (.mov (.tmp 23))),none⟩] [22] [1,5,9,10,11])
 (.exit 1))
 (.skip)))
 (.region [⟨(some 24),(.p (.mov (.tmp 5))),none⟩,⟨(some 25),(.loadn 3 (.tmp 7)),none⟩,⟨(some 26),(.p (.mov (.tmp 1))),none⟩,⟨(some 27),(.p (.mov (.tmp 6))),none⟩,⟨(some 28),(.p (.bin .mul (.val (.int .i64 (.ofNat 3))) (.tmp 27))),none⟩,⟨(some 29),(.p (.conv (.int .u64) (.tmp 28))),none⟩,⟨(some 30),(.p (.bin .shr (.tmp 26) (.tmp 29))),none⟩,⟨(some 31),(.p (.mov (.tmp 1))),none⟩,⟨(some 32),(.p (.bin .shr (.tmp 31) (.val (.int .u64 (.ofNat 17))))),none⟩,⟨(some 33),(.p (.bin .xor (.tmp 30) (.tmp 32))),none⟩,⟨(some 34),(.e (.call (F 25) [(.tmp 25),(.tmp 33)])),none⟩,⟨(some 35),(.a (.bslice [.bool false,.int .i64 (.ofNat 0),.int .i64 (.ofNat 0),.nilslice] 4 1 [(0,4,(.tmp 34))])),none⟩,⟨(some 36),(.e (.append 4 48 (.tmp 24) (.tmp 35))),none⟩,⟨(some 5),(.p (.mov (.tmp 36))),none⟩] [35] [1,5,9,10,11]))))
 (.region [⟨(some 37),(.p (.bin .add (.tmp 11) (.val (.int .i64 (.ofNat 1))))),none⟩,⟨(some 11),(.p (.mov (.tmp 37))),none⟩] [] [1,5,9,10,11])))))))
 (.seq (.region [⟨(some 38),(.p (.mov (.tmp 5))),none⟩,⟨(some 4),(.p (.mov (.tmp 38))),none⟩] [] [4])
 (.ret))))
def M24 (F : Nat → Nat) : Fun := ⟨39,2,(K24 F).erase,[.tmp 4]⟩
theorem ok24 {F : Nat → Nat} : (K24 F).ok = true := rfl
abbrev K25 (_F : Nat → Nat) : KC := .seq (.region [⟨(some 2),(.a (.box (.tmp 0))),none⟩,⟨(some 4),(.a (.new [.bool false,.int .i64 (.ofNat 0),.int .i64 (.ofNat 0),.nilslice])),none⟩] [2] [1,2,4])
 (.seq (.seq (.region [⟨(some 6),(.p (.faddr 2 (.tmp 2))),none⟩,⟨(some 7),(.load1 (.tmp 6)),none⟩,⟨(some 8),(.p (.mov (.tmp 7))),none⟩,⟨(some 9),(.p (.mov (.tmp 1))),(some (8,true))⟩,⟨(some 10),(.p (.bin .and (.tmp 9) (.val (.int .i64 (.ofNat 7))))),(some (8,true))⟩,⟨(some 11),(.p (.bin .eql (.tmp 10) (.val (.int .i64 (.ofNat 0))))),(some (8,true))⟩,⟨(some 12),(.p (.pick (.tmp 8) (.tmp 11) (.val (.bool false)))),none⟩] [] [1,2,4,12])
 (.cond (.tmp 12) (.seq (.region [⟨(some 13),(.p (.faddr 1 (.tmp 2))),none⟩,⟨(some 14),(.load1 (.tmp 13)),none⟩,⟨(some 15),(.p (.build [.bool false,.int .i64 (.ofNat 0),.int .i64 (.ofNat 0),.nilslice] [(1,1,(.tmp 14)),(0,1,(.val (.bool true)))])),none⟩,⟨none,(.e (.store 4 (.tmp 4) (.tmp 15))),none⟩] [] [4])
 (.ret))
 (.skip)))
 (.seq (.region [⟨(some 16),(.p (.faddr 1 (.tmp 2))),none⟩,⟨(some 17),(.load1 (.tmp 16)),none⟩,⟨(some 18),(.p (.build [.bool false,.int .i64 (.ofNat 0),.int .i64 (.ofNat 0),.nilslice] [(1,1,(.tmp 17))])),none⟩,⟨(some 5),(.a (.new [.bool false,.int .i64 (.ofNat 0),.int .i64 (.ofNat 0),.nilslice])),none⟩,⟨none,(.e (.store 4 (.tmp 5) (.tmp 18))),none⟩] [] [1,2,4,5])
 (.seq (.seq (.region [⟨(some 19),(.p (.faddr 1 (.tmp 2))),none⟩,⟨(some 20),(.load1 (.tmp 19)),none⟩,⟨(some 21),(.p (.bin .eql (.tmp 20) (.val (.int .i64 (.ofNat 1))))),none⟩] [] [1,4,5,21])
 (.cond (.tmp 21) (.seq (.region [⟨(some 22),(.p (.mov (.tmp 1))),none⟩,⟨(some 23),(.p (.bin .shr (.tmp 22) (.val (.int .u64 (.ofNat 3))))),none⟩,⟨(some 24),(.p (.bin .and (.tmp 23) (.val (.int .i64 (.ofNat 7))))),none⟩,⟨(some 25),(.p (.faddr 2 (.tmp 5))),none⟩,⟨none,(.e (.store 1 (.tmp 25) (.tmp 24))),none⟩] [] [1,4,5])
 (.seq (.seq (.region [⟨(some 26),(.p (.mov (.tmp 1))),none⟩,⟨(some 27),(.p (.bin .shr (.tmp 26) (.val (.int .u64 (.ofNat 6))))),none⟩,⟨(some 28),(.p (.bin .and (.tmp 27) (.val (.int .i64 (.ofNat 15))))),none⟩] [] [1,4,5,28])
 (.block 0 (.seq (.region [⟨(some 30),(.p (.bin .eql (.tmp 28) (.val (.int .i64 (.ofNat 0))))),none⟩,⟨(some 29),(.p (.mov (.tmp 30))),none⟩] [] [1,4,5,28,29])
 (.cond (.tmp 29) (.region [⟨(some 31),(.p (.mov (.tmp 1))),none⟩,⟨(some 32),(.p (.bin .mul (.tmp 31) (.val (.int .i64 (.ofNat 712544676207699905))))),none⟩,⟨(some 33),(.p (.faddr 2 (.tmp 5))),none⟩,⟨none,(.e (.store 1 (.tmp 33) (.tmp 32))),none⟩] [] [4,5])
 (.seq (.region [⟨(some 35),(.p (.bin .eql (.tmp 28) (.val (.int .i64 (.ofNat 1))))),none⟩,⟨(some 34),(.p (.mov (.tmp 35))),none⟩] [] [4,5,28,34])
 (.cond (.tmp 34) (.region [⟨(some 36),(.p (.faddr 2 (.tmp 5))),none⟩,⟨(some 37),(.load1 (.tmp 36)),none⟩,⟨(some 38),(.p (.neg (.tmp 37))),none⟩,⟨(some 39),(.p (.faddr 2 (.tmp 5))),none⟩,⟨none,(.e (.store 1 (.tmp 39) (.tmp 38))),none⟩] [] [4,5])
 (.seq (.region [⟨(some 41),(.p (.bin .eql (.tmp 28) (.val (.int .i64 (.ofNat 2))))),none⟩,⟨(some 40),(.p (.mov (.tmp 41))),none⟩] [] [4,5,40])
 (.cond (.tmp 40) (.region [⟨(some 42),(.p (.faddr 2 (.tmp 5))),none⟩,⟨(some 43),(.load1 (.tmp 42)),none⟩,⟨(some 44),(.p (.bin .sub (.val (.int .i64 (.ofNat 9223372036854775807))) (.tmp 43))),none⟩,⟨(some 45),(.p (.faddr 2 (.tmp 5))),none⟩,⟨none,(.e (.store 1 (.tmp 45) (.tmp 44))),none⟩] [] [4,5])
 (.skip)))))))))
 (.seq (.region [⟨(some 46),(.loadn 4 (.tmp 5)),none⟩,⟨none,(.e (.store 4 (.tmp 4) (.tmp 46))),none⟩] [] [4])
 (.ret))))
 (.skip)))
 (.seq (.region [⟨(some 47),(.a (.bslice [.int .u8 (.ofNat 0),.int .u8 (.ofNat 0),.int .u8 (.ofNat 0),.int .u8 (.ofNat 0),.int .u8 (.ofNat 0),.int .u8 (.ofNat 0),.int .u8 (.ofNat 0),.int .u8 (.ofNat 0)] 1 8 [(0,1,(.val (.int .u8 (.ofNat 97)))),(1,1,(.val (.int .u8 (.ofNat 98)))),(2,1,(.val (.int .u8 (.ofNat 99)))),(3,1,(.val (.int .u8 (.ofNat 97)))),(4,1,(.val (.int .u8 (.ofNat 98)))),(5,1,(.val (.int .u8 (.ofNat 99)))),(6,1,(.val (.int .u8 (.ofNat 97)))),(7,1,(.val (.int .u8 (.ofNat 98))))])),none⟩,⟨(some 48),(.e (.mark (.tmp 47))),none⟩,⟨(some 49),(.p (.mov (.tmp 1))),none⟩,⟨(some 50),(.p (.bin .shr (.tmp 49) (.val (.int .u64 (.ofNat 3))))),none⟩,⟨(some 51),(.p (.bin .and (.tmp 50) (.val (.int .i64 (.ofNat 3))))),none⟩,⟨(some 52),(.p (.mov (.tmp 1))),none⟩,⟨(some 53),(.p (.bin .shr (.tmp 52) (.val (.int .u64 (.ofNat 3))))),none⟩,⟨(some 54),(.p (.bin .and (.tmp 53) (.val (.int .i64 (.ofNat 3))))),none⟩,⟨(some 55),(.p (.mov (.tmp 1))),none⟩,⟨(some 56),(.p (.bin .shr (.tmp 55) (.val (.int .u64 (.ofNat 5))))),none⟩,⟨(some 57),(.p (.bin .and (.tmp 56) (.val (.int .i64 (.ofNat 3))))),none⟩,⟨(some 58),(.p (.bin .add (.tmp 54) (.tmp 57))),none⟩,⟨(some 59),(.p (.slc 1 (.tmp 48) (some (.tmp 51)) (some (.tmp 58)) none)),none⟩,⟨(some 60),(.p (.faddr 3 (.tmp 5))),none⟩,⟨none,(.e (.store 1 (.tmp 60) (.tmp 59))),none⟩] [] [4,5])
 (.seq (.region [⟨(some 61),(.loadn 4 (.tmp 5)),none⟩,⟨none,(.e (.store 4 (.tmp 4) (.tmp 61))),none⟩] [] [4])
 (.ret))))))
def M25 (F : Nat → Nat) : Fun := ⟨62,2,(K25 F).erase,[.celln 4 4]⟩
theorem ok25 {F : Nat → Nat} : (K25 F).ok = true := rfl
end Go.Lib
end

section
set_option maxRecDepth 10000
namespace Go.Lib
open Go.Vm Go.Dv
variable {p : Prog} {ext : Ext} {F : Nat → Nat}
structure HLaw6 (p : Prog) (ext : Ext) (F : Nat → Nat) : Prop where
  h22 : Has p ext F 22 M22
  h23 : Has p ext F 23 M23
  h24 : Has p ext F 24 M24
  h25 : Has p ext F 25 M25
structure Cl where
  name : List Nat
  kind : Int
  null : Bool
def Cl.c (c : Cl) : List D := [.lit (.str c.name), .lit (.int .i64 c.kind), .lit (.bool c.null)]
abbrev Sch := List Cl
def schE (s : Sch) : List (List D) := s.map Cl.c
def schR (s : Sch) : D := .row 3 .p (schE s)
def schD (s : Sch) : D := .agg [schR s]
theorem cl_unders {n : Nat} {c : Cl} : D.unders n c.c := by simp [Cl.c]
theorem sch_underss {n : Nat} {s : Sch} : D.underss n (schE s) := underss_map (fun _ => cl_unders) _
theorem schR_under {n : Nat} {s : Sch} : (schR s).under n := sch_underss
theorem schD_under {n : Nat} {s : Sch} : (schD s).under n := by simp [schD, schR_under]
theorem sch_len {s : Sch} : (schE s).length = s.length := by simp [schE]
theorem lenb_sch {s : Sch} : lenbD (schR s) = some (.lit (.int .i64 (s.length : Int))) := by simp [schR, sch_len]
theorem at_sch {s : Sch} {n : Nat} : atO 3 (schR s) (some n) = elemD (s[n]?.map Cl.c) := by simp [schR, schE]
theorem cl_0 {v : Cl} : v.c[0]? = some (.lit (.str v.name)) := rfl
theorem cl_1 {v : Cl} : v.c[1]? = some (.lit (.int .i64 v.kind)) := rfl
theorem cl_2 {v : Cl} : v.c[2]? = some (.lit (.bool v.null)) := rfl
theorem cl_len {v : Cl} : v.c.length = 3 := rfl
theorem cl_take {v : Cl} : v.c.take 3 = v.c := rfl
theorem cl_drop {v : Cl} : v.c.drop 3 = [] := rfl
theorem cl_flats {v : Cl} : flatsD v.c = true := rfl
theorem cellsD_schR {s : Sch} : cellsD (schR s) = some [schR s] := rfl
theorem flatD_schR {s : Sch} : flatD (schR s) = true := rfl
theorem cellsD_schD {s : Sch} : cellsD (schD s) = some [schR s] := rfl
attribute [simp] cl_unders sch_underss schR_under schD_under sch_len lenb_sch at_sch cl_0 cl_1 cl_2 cl_len cl_take cl_drop cl_flats cellsD_schR flatD_schR cellsD_schD
def andI (a m : Int) : Int := wr .i64 (.ofNat (Nat.land (toU .i64 a) (toU .i64 m)))
theorem bin_andI {tab : Tab} {a b : Int} : binV tab .and (.int .i64 a) (.int .i64 b) = some (.int .i64 (andI a b)) := bin_and
def xorI (a b : Int) : Int := wr .i64 (.ofNat (Nat.xor (toU .i64 a) (toU .i64 b)))
theorem bin_xorI {tab : Tab} {a b : Int} : binV tab .xor (.int .i64 a) (.int .i64 b) = some (.int .i64 (xorI a b)) := bin_xor
theorem andI_small {a : Int} {m : Nat} (hm : m < 65536) : ∃ q : Nat, andI a (m : Int) = q ∧ q ≤ m := and_range hm
attribute [-simp] bin_and bin_xor
attribute [simp] bin_andI bin_xorI
def abc : List By := [97, 98, 99, 97, 98, 99, 97, 98]
def valF (c : Cl) (n : Int) : Vl :=
  if c.null = true ∧ andI n 7 = 0 then ⟨true, c.kind, 0, [], by simp⟩ else
  if c.kind = 1 then
    ⟨false, c.kind, if andI (shrI .i64 n 6) 15 = 0 then wr .i64 (n * 712544676207699905) else if andI (shrI .i64 n 6) 15 = 1 then wr .i64 (-andI (shrI .i64 n 3) 7) else if andI (shrI .i64 n 6) 15 = 2 then wr .i64 (9223372036854775807 - andI (shrI .i64 n 3) 7) else andI (shrI .i64 n 3) 7, [], by simp⟩
  else ⟨false, c.kind, 0, (abc.drop (andI (shrI .i64 n 3) 3).toNat).take (andI (shrI .i64 n 5) 3).toNat, by
    have : ((abc.drop (andI (shrI .i64 n 3) 3).toNat).take (andI (shrI .i64 n 5) 3).toNat).length ≤ 8 := by
      rw [List.length_take, List.length_drop]; simp [abc]; omega
    omega⟩
theorem by_flat_map (b : List By) : (byE b).flatten = b.map fun c => D.lit (.int .u8 (c.val : Int)) := by
  induction b with
  | nil => rfl
  | cons c b ih => simp only [byE, List.map_cons, List.flatten_cons, List.singleton_append] at ih ⊢; rw [ih]
theorem law6_value (L : HLaw6 p ext F) {c : Cl} {n : Int} : FnD p ext (F 25) [.agg c.c, .lit (.int .i64 n)] (.agg (valF c n).c) := by
  refine fn_of L.h25 (M := M25) rfl ok25 rfl fun H => sem_run 9000 _ ?_
  simp
  by_cases h1 : c.null = true ∧ andI n 7 = 0
  · simp [h1.1, h1.2]
    refine sem_ret ?_
    simp [M25]
    exact .le (by repeat (first | exact Sub.refl | apply Sub.new | refine Sub.put ?_ (by first | omega | (simp only [put_next, new_next]; omega)))) (by simp [valF, h1.1, h1.2, Vl.c, D.le, byD, byE]) (by simp)
  · have h2 : c.null = false ∨ (c.null = true ∧ ¬ andI n 7 = 0) := by
      cases h3 : c.null
      · exact .inl rfl
      · exact .inr ⟨rfl, fun h4 => h1 ⟨h3, h4⟩⟩
    by_cases h5 : c.kind = 1
    · by_cases k0 : andI (shrI .i64 n 6) 15 = 0
      · rcases h2 with h2 | h2
        all_goals
          simp [h2, h5, k0]
          refine sem_ret ?_
          simp [M25]
          exact .le (by repeat (first | exact Sub.refl | apply Sub.new | refine Sub.put ?_ (by first | omega | (simp only [put_next, new_next]; omega)))) (by simp [valF, h2, h5, k0, Vl.c, D.le, byD, byE]) (by simp)
      · by_cases k1 : andI (shrI .i64 n 6) 15 = 1
        · rcases h2 with h2 | h2
          all_goals
            simp [h2, h5, k1]
            refine sem_ret ?_
            simp [M25]
            exact .le (by repeat (first | exact Sub.refl | apply Sub.new | refine Sub.put ?_ (by first | omega | (simp only [put_next, new_next]; omega)))) (by simp [valF, h2, h5, k1, Vl.c, D.le, byD, byE]) (by simp)
        · by_cases k2 : andI (shrI .i64 n 6) 15 = 2
          · rcases h2 with h2 | h2
            all_goals
              simp [h2, h5, k2]
              refine sem_ret ?_
              simp [M25]
              exact .le (by repeat (first | exact Sub.refl | apply Sub.new | refine Sub.put ?_ (by first | omega | (simp only [put_next, new_next]; omega)))) (by simp [valF, h2, h5, k2, Vl.c, D.le, byD, byE]) (by simp)
          · rcases h2 with h2 | h2
            all_goals
              simp [h2, h5, k0, k1, k2]
              refine sem_ret ?_
              simp [M25]
              exact .le (by repeat (first | exact Sub.refl | apply Sub.new | refine Sub.put ?_ (by first | omega | (simp only [put_next, new_next]; omega)))) (by simp [valF, h2, h5, k0, k1, k2, Vl.c, D.le, byD, byE]) (by simp)
    · obtain ⟨i, hi, hi3⟩ := andI_small (a := shrI .i64 n 3) (m := 3) (by simp)
      obtain ⟨j, hj, hj3⟩ := andI_small (a := shrI .i64 n 5) (m := 3) (by simp)
      have hi' : andI (shrI .i64 n 3) 3 = i := hi
      have hj' : andI (shrI .i64 n 5) 3 = j := hj
      have hw : wr .i64 ((i : Int) + (j : Int)) = (i : Int) + (j : Int) := by rw [wr_of] <;> omega
      have ht : ((i : Int) + (j : Int)).toNat = i + j := by omega
      have hn : (0 : Int) ≤ (i : Int) + (j : Int) := by omega
      have hl : i + j ≤ 8 := by omega
      rcases h2 with h2 | h2
      all_goals
        simp [h2, h5, hi', hj', markD, slcD, slcV, needH, boundM, boundH, boundL, sliceO, hw, ht, hn, hl]
        refine sem_ret ?_
        simp [M25]
        refine ⟨_, (WeakV.part (pre := [.lit (.bool false), .lit (.int .i64 c.kind), .lit (.int .i64 0)]) (el := byE ((abc.drop i).take j)) (sz := 1) (cs := (byE abc).flatten) (ro := false) (by simp [put_blk, new_blk, abc, byE]; decide) by_one (by simp [abc]; omega) ?_ (by omega)).trans (.le ?_), (by repeat (first | exact Sub.refl | apply Sub.new | refine Sub.put ?_ (by first | omega | (simp only [put_next, new_next]; omega)))), by simp⟩
        · rw [by_flat_map, by_flat_map, Nat.mul_one, List.map_take, List.map_drop]
        · simp [valF, h2, h5, hi', hj', Vl.c, byD, D.le]
theorem wr_u64 {n : Int} (h0 : 0 ≤ n) (h1 : n < 18446744073709551616) : wr .u64 n = n := by
  obtain ⟨m, rfl⟩ : ∃ m : Nat, n = m := ⟨n.toNat, by omega⟩
  show cond (Nat.blt m 18446744073709551616) _ _ = _
  rw [show Nat.blt m 18446744073709551616 = true from nblt.2 (by omega)]
  rfl
def cellF (n : Int) (i : Nat) (c : Cl) : Vl := if i = 0 then ⟨false, 1, andI n 15, [], by simp⟩ else valF c (xorI (shrI .i64 n (3 * i)) (shrI .i64 n 17))
def rowF (s : Sch) (n : Int) : Row := s.mapIdx (cellF n)
theorem rowF_len {s : Sch} {n : Int} : (rowF s n).length = s.length := by simp [rowF]
theorem rowF_get {s : Sch} {n : Int} {i : Nat} : (rowF s n)[i]? = s[i]?.map (cellF n i) := by simp [rowF]
def Row6I (H0 : HpD) (s : Sch) (n : Int) (k : Nat) (fr : FrD) (H : HpD) : Prop :=
  ∃ (i : Nat) (t : D), k = s.length - i ∧ i ≤ s.length ∧ fr = [(1, .lit (.int .i64 n)), (5, t), (9, schR s), (10, .lit (.int .i64 (s.length : Int))), (11, .lit (.int .i64 (i : Int)))] ∧ Gr H0 H 4 t (rowE ((rowF s n).take i))
theorem law6_row_own (L : HLaw6 p ext F) {s : Sch} {n : Int} {H : HpD} (hs : s.length < 1000) : WcD p ext (F 24) [schD s, .lit (.int .i64 n)] H (fun d H' => Gr H H' 4 d (rowE (rowF s n))) := by
  refine wc_of L.h24 (M := M24) rfl ok24 rfl (sem_run 9000 _ ?_)
  simp [schD]
  refine sem_loop (Row6I H s n) ?_ (k := s.length) ⟨0, .lit .nilslice, by simp, by simp, rfl, by simpa [rowE] using Gr.start⟩
  rintro k fr H' ⟨i, t, rfl, hi, rfl, g⟩
  refine sem_run 9000 _ ?_
  simp
  by_cases c : i < s.length
  · have hx : (rowF s n)[i]? = some (cellF n i s[i]) := by rw [rowF_get]; simp [c]
    have hw : wr .i64 ((i : Int) + 1) = ((i + 1 : Nat) : Int) := by rw [wr_of] <;> omega
    have h1 : wr .i64 (3 * (i : Int)) = 3 * (i : Int) := by rw [wr_of] <;> omega
    have h2 : wr .u64 (3 * (i : Int)) = 3 * (i : Int) := wr_u64 (by omega) (by omega)
    have h3 : (0 : Int) ≤ 3 * (i : Int) := by omega
    have h4 : (3 * (i : Int)).toNat = 3 * i := by omega
    have hl : (rowE ((rowF s n).take i)).length ≤ i := by simp; omega
    by_cases c0 : i = 0
    · subst c0
      simp [c]
      refine sem_push_le (cellF n 0 s[0]).c (g.mono (by repeat (first | exact Sub.refl | apply Sub.new | refine Sub.put ?_ (by first | omega | (simp only [put_next, new_next]; omega))))) (by simp [cellF, Vl.c, byD, byE, D.le]) rfl rfl (roomyD (by omega) (by omega)) fun s' H1 g1 _ _ => ?_
      simp
      refine sem_ok ?_
      rw [rowE_snoc hx] at g1
      exact ⟨_, by omega, 1, s', rfl, by omega, by simp [wr_of], g1⟩
    · simp [c, c0, h1, h2, h3, h4]
      refine sem_fn (law6_value L) (by first | exact D.les_refl _ | simp) (sem_run 9000 _ ?_)
      simp
      refine sem_push_le (cellF n i s[i]).c (g.mono (by repeat (first | exact Sub.refl | apply Sub.new | refine Sub.put ?_ (by first | omega | (simp only [put_next, new_next]; omega))))) (by simp [cellF, c0]) rfl rfl (roomyD (by omega) (by omega)) fun s' H1 g1 _ _ => ?_
      simp
      refine sem_ok ?_
      rw [rowE_snoc hx] at g1
      exact ⟨_, by omega, i + 1, s', rfl, by omega, by rw [hw], g1⟩
  · simp [c]
    refine sem_exit (sem_run 9000 _ ?_)
    have : i = s.length := by omega
    subst this
    have hf : (rowF s n).take s.length = rowF s n := by rw [List.take_of_length_le]; rw [rowF_len]; exact Nat.le_refl _
    rw [hf] at g
    simp
    refine sem_ret ?_
    simp [M24]
    exact g
def row9F (s : Sch) (i : Nat) (x : Int) : Row := match rowF s x with
  | [] => []
  | v :: r => ⟨v.null, v.kind, 3 * (i : Int) + andI x 1, v.bytes, v.small⟩ :: r
def rows9F (s : Sch) (l : List Int) : List Row := (l.take 40).mapIdx (row9F s)
theorem rows9F_len {s : Sch} {l : List Int} : (rows9F s l).length ≤ 40 := by simp [rows9F]; omega
theorem rows9F_get {s : Sch} {l : List Int} {i : Nat} : (rows9F s l)[i]? = (l.take 40)[i]?.map (row9F s i) := by simp [rows9F]
def intsD (m : Md) (l : List Int) : D := .row 1 m (l.map fun n => [.lit (.int .i64 n)])
theorem lenb_ints {m : Md} {l : List Int} : lenbD (intsD m l) = some (.lit (.int .i64 (l.length : Int))) := by simp [intsD]
theorem at_ints {m : Md} {l : List Int} {n : Nat} : atO 1 (intsD m l) (some n) = elemD (l[n]?.map fun x => [.lit (.int .i64 x)]) := by simp [intsD]
theorem ints_under {m : Md} {l : List Int} {n : Nat} : (intsD m l).under n := by simp only [intsD, D.under]; exact underss_map (fun _ => by simp) _
theorem cellsD_ints {m : Md} {l : List Int} : cellsD (intsD m l) = some [intsD m l] := rfl
attribute [simp] lenb_ints at_ints ints_under cellsD_ints
def Rows9I (H0 : HpD) (s : Sch) (m : Md) (l : List Int) (k : Nat) (fr : FrD) (H : HpD) : Prop :=
  ∃ (i : Nat) (t : D), k = 41 - i ∧ i ≤ 40 ∧ i ≤ l.length ∧ fr = [(1, intsD m l), (2, .rptr [schR s] 0), (5, t), (6, .lit (.int .i64 (i : Int)))] ∧ Gr H0 H 1 t (rowsE ((rows9F s l).take i))
theorem rows9_own (L : HLaw6 p ext F) {s : Sch} {m : Md} {l : List Int} {H : HpD} (hs : s.length < 1000) (hs0 : 0 < s.length) : WcD p ext (F 22) [schD s, intsD m l] H (fun d H' => Gr H H' 1 d (rowsE (rows9F s l))) := by
  refine wc_of L.h22 (M := M22) rfl ok22 rfl (sem_run 9000 _ ?_)
  simp [schD]
  refine sem_loop (Rows9I H s m l) ?_ (k := 41) ⟨0, .lit .nilslice, by simp, by simp, by simp, rfl, by simpa [rowsE] using Gr.start⟩
  rintro k fr H' ⟨i, t, rfl, hi, hi2, rfl, g⟩
  refine sem_run 9000 _ ?_
  simp
  by_cases c : i < l.length
  · by_cases c2 : i < 40
    · have c2' : (i : Int) < 40 := by omega
      simp [c, c2']
      refine sem_dcall ((law6_row_own L (s := s) (n := l[i]) hs).args (by simp [schD])) fun d H1 g1 => sem_run 17 _ ?_
      have hv : ∃ v r, rowF s l[i] = v :: r := by
        cases h : rowF s l[i] with
        | nil => have := rowF_len (s := s) (n := l[i]); rw [h] at this; simp at this; omega
        | cons v r => exact ⟨v, r, rfl⟩
      obtain ⟨v, r, hv⟩ := hv
      rw [hv] at g1
      obtain ⟨b, ex, el0, rfl, hb1, hb2, hb3, hb4, hb5⟩ := g1.place (by simp)
      have hl3 : 2 + 1 ≤ el0.flatten.length := by rw [hb5]; simp; omega
      simp [c, hb3, hl3, -List.length_flatten]
      obtain ⟨q, hq, hq1⟩ := andI_small (a := l[i]) (m := 1) (by simp)
      have hq' : andI l[i] 1 = q := hq
      have hwx : wr .i64 (wr .i64 ((i : Int) * 3) + andI l[i] 1) = 3 * (i : Int) + andI l[i] 1 := by
        rw [hq', show wr .i64 ((i : Int) * 3) = (i : Int) * 3 from by rw [wr_of] <;> omega, wr_of] <;> omega
      rw [hwx]
      have g2 := g1.set rfl hb1 hb2 hb4 (i := 0) (j := 2) (o := 2) (e := v.c) (x := .lit (.int .i64 (3 * (i : Int) + andI l[i] 1))) (by simp [rowE]) (by omega) (by omega)
      have hrow : (rowE (v :: r)).set 0 (v.c.set 2 (.lit (.int .i64 (3 * (i : Int) + andI l[i] 1)))) = rowE (row9F s i l[i]) := by
        simp [row9F, hv, rowE, Vl.c]
      rw [hrow] at g2
      refine sem_turn_ops g2 7 (by simp) fun H3 s3 k3 n3 => sem_run 9000 _ ?_
      simp
      have hx : (rows9F s l)[i]? = some (row9F s i l[i]) := by rw [rows9F_get, List.getElem?_take, if_pos c2]; simp [c]
      refine sem_push_le [rowD (row9F s i l[i])] (g.mono s3) (by simp [rowD]) rfl rfl (roomyD (by simp; omega) (by simp; omega)) fun s' H4 g4 _ _ => ?_
      simp
      refine sem_ok ?_
      rw [rowsE_snoc hx] at g4
      have hw : wr .i64 ((i : Int) + 1) = ((i + 1 : Nat) : Int) := by rw [wr_of] <;> omega
      exact ⟨_, by omega, i + 1, s', rfl, by omega, by omega, by simp [hw], g4⟩
    · have : i = 40 := by omega
      subst this
      simp [c]
      refine sem_exit (sem_run 9000 _ ?_)
      simp
      refine sem_ret ?_
      simp [M22]
      have : (rows9F s l).take 40 = rows9F s l := List.take_of_length_le rows9F_len
      rw [this] at g
      exact g
  · simp [c]
    refine sem_exit (sem_run 9000 _ ?_)
    simp
    refine sem_ret ?_
    simp [M22]
    have : (rows9F s l).take i = rows9F s l := List.take_of_length_le (by simp [rows9F]; omega)
    rw [this] at g
    exact g
theorem rows9 (L : HLaw6 p ext F) {s : Sch} {m : Md} {l : List Int} (hs : s.length < 1000) (hs0 : 0 < s.length) : FnD p ext (F 22) [schD s, intsD m l] (rowsD (rows9F s l)) :=
  own_fn (fun _ => rows9_own L hs hs0) fun _ => rows_underss
def bitI (n : Int) (k : Nat) : Int := andI (shrI .i64 n k) 1
theorem bitI_01 {n : Int} {k : Nat} : bitI n k = 0 ∨ bitI n k = 1 := by
  obtain ⟨q, hq, h1⟩ := andI_small (a := shrI .i64 n k) (m := 1) (by simp)
  have : bitI n k = q := hq
  omega
def colNames : List (List Nat) := [[97], [98, 98], [99, 99, 99], [110, 117, 108, 108], [97, 110, 100]]
def colF (n : Int) (i : Nat) : Cl := ⟨(colNames[i]?).getD [], bitI n (8 + 2 * i) + 1, decide (bitI n (9 + 2 * i) = 1)⟩
def keyC : Cl := ⟨[107, 101, 121], 1, false⟩
def moreF (n : Int) : Nat := (Int.tmod (andI n 255) 6).toNat
def schF (n : Int) : Sch := keyC :: (List.range (moreF n)).map (colF n)
theorem more_le {n : Int} : moreF n ≤ 5 ∧ Int.tmod (andI n 255) 6 = (moreF n : Int) := by
  obtain ⟨q, hq, h1⟩ := andI_small (a := n) (m := 255) (by simp)
  have hq' : andI n 255 = q := hq
  unfold moreF
  rw [hq']
  have : Int.tmod (q : Int) 6 = ((q % 6 : Nat) : Int) := by
    rw [Int.tmod_eq_emod_of_nonneg (by omega)]; omega
  rw [this]
  omega
theorem schF_len {n : Int} : (schF n).length = moreF n + 1 := by simp [schF]
theorem schF_small {n : Int} : (schF n).length < 1000 ∧ 0 < (schF n).length := by
  have := (more_le (n := n)).1
  rw [schF_len]; omega
def SchI (H0 : HpD) (n : Int) (k : Nat) (fr : FrD) (H : HpD) : Prop :=
  ∃ (i : Nat) (t : D), k = 6 - i ∧ i ≤ moreF n ∧ fr = [(0, .lit (.int .i64 n)), (2, .ptr H0.next 0), (3, .ptr (H0.next + 1 + 1) 0), (4, .row 1 .c (colNames.map fun x => [.lit (.str x)])), (5, .lit (.int .i64 (i : Int)))] ∧
    Gr H0 H 3 t (schE (keyC :: (List.range i).map (colF n))) ∧ H.blk (H0.next + 1 + 1) = .cells [t] false ∧ (∃ d, H.blk H0.next = .cells [d] false) ∧ ¬ t.hasB (H0.next + 1 + 1) ∧ ¬ t.hasB H0.next ∧ H0.next + 1 + 1 < H.next
theorem schema_own (L : HLaw6 p ext F) {n : Int} {H : HpD} : WcD p ext (F 23) [.lit (.int .i64 n)] H (fun d H' => ∃ t, d = .agg [t] ∧ Gr H H' 3 t (schE (schF n))) := by
  refine wc_of L.h23 (M := M23) rfl ok23 rfl (sem_run 9000 _ ?_)
  simp
  have gk : Gr H ((H.new (.cells [.lit .nilslice] false)).new (.cells [D.lit (V.str [107, 101, 121]), D.lit (V.int .i64 1), D.lit (V.bool false)] false)) 3 (.slice (H.next + 1) 0 3 1 1 true) (schE (keyC :: (List.range 0).map (colF n))) :=
    Gr.lit (H := H.new (.cells [.lit .nilslice] false)) Sub.refl.new (by simp [schE, Cl.c]) (by simp [schE, Cl.c, keyC]) (by simp [schE])
  have hin := gk.mono (Sub.put (H1 := _) (b := H.next + 1 + 1) (x := .cells [.slice (H.next + 1) 0 3 1 1 true] false) (Sub.refl.new (x := .cells [.lit .nilslice] false)) (by simp))
  refine sem_loop (SchI H n) ?_ (k := 6) ⟨0, .slice (H.next + 1) 0 3 1 1 true, by simp, by omega, by simp [colNames], hin, by simp, ⟨.lit .nilslice, by simp⟩, by simp [D.hasB], by simp [D.hasB], by simp⟩
  rintro k fr H' ⟨i, t, rfl, hi, rfl, g, h3, ⟨d2, h2⟩, n3, n2, hlt⟩
  refine sem_run 9000 _ ?_
  simp
  obtain ⟨hm, hm2⟩ := more_le (n := n)
  by_cases c : i < moreF n
  · have c' : (i : Int) < Int.tmod (andI n 255) 6 := by omega
    have c5 : (i : Int) < 5 := by omega
    have hw : wr .i64 ((i : Int) + 1) = ((i + 1 : Nat) : Int) := by rw [wr_of] <;> omega
    have w1 : wr .i64 (2 * (i : Int)) = 2 * (i : Int) := by rw [wr_of] <;> omega
    have w2 : wr .i64 (8 + 2 * (i : Int)) = 8 + 2 * (i : Int) := by rw [wr_of] <;> omega
    have w3 : wr .i64 (9 + 2 * (i : Int)) = 9 + 2 * (i : Int) := by rw [wr_of] <;> omega
    have w4 : wr .u64 (8 + 2 * (i : Int)) = 8 + 2 * (i : Int) := wr_u64 (by omega) (by omega)
    have w5 : wr .u64 (9 + 2 * (i : Int)) = 9 + 2 * (i : Int) := wr_u64 (by omega) (by omega)
    have p1 : (0 : Int) ≤ 8 + 2 * (i : Int) := by omega
    have p2 : (0 : Int) ≤ 9 + 2 * (i : Int) := by omega
    have t1 : (8 + 2 * (i : Int)).toNat = 8 + 2 * i := by omega
    have t2 : (9 + 2 * (i : Int)).toNat = 9 + 2 * i := by omega
    obtain ⟨nm, hnm⟩ : ∃ nm, colNames[i]? = some nm := ⟨colNames[i]'(by simp [colNames]; omega), by simp⟩
    simp [c', c5, h3, hlt, w1, w2, w3, w4, w5, p1, p2, t1, t2, hnm]
    have hwb : wr .i64 (andI (shrI .i64 n (8 + 2 * i)) 1 + 1) = bitI n (8 + 2 * i) + 1 := by
      rcases bitI_01 (n := n) (k := 8 + 2 * i) with h | h <;> unfold bitI at h ⊢ <;> rw [h] <;> decide
    rw [hwb, appendD_slice1 (b := H'.next) (cs := [.lit (.str nm), .lit (.int .i64 (bitI n (8 + 2 * i) + 1)), .lit (.bool (decide (bitI n (9 + 2 * i) = 1)))]) (ro := false) (by simp [bitI]; congr) (by simp)]
    refine sem_push_le (colF n i).c (g.mono Sub.refl.new) (by simp [colF, Cl.c, hnm]) rfl rfl (roomyD (by simp [schE]; omega) (by simp [schE]; omega)) fun s' H1 g1 k1 n1 => ?_
    have k3 := k1 (H.next + 1 + 1) (by simp; omega) n3
    have k2 := k1 H.next (by simp; omega) n2
    rw [new_blk, if_neg (by omega), h3] at k3
    rw [new_blk, if_neg (by omega), h2] at k2
    obtain ⟨n1, rfl⟩ := n1
    simp at n1
    simp [k3]
    refine sem_ok ?_
    have hs : schE (keyC :: (List.range i).map (colF n)) ++ [(colF n i).c] = schE (keyC :: (List.range (i+1)).map (colF n)) := by simp [schE, List.range_succ]
    rw [hs] at g1
    refine ⟨_, by omega, i + 1, _, rfl, by omega, by rw [hw], g1.keep (g1.sub.put (by omega)) (by simp) (fun x hx => ?_), by simp, ⟨d2, ?_⟩, ?_, ?_, ?_⟩
    · rw [put_blk, if_neg]
      rintro rfl
      simp [D.hasB] at hx
      omega
    · rw [put_blk, if_neg (by omega), k2]
    · simp [D.hasB]; omega
    · simp [D.hasB]; omega
    · simp; omega
  · have c' : ¬ (i : Int) < Int.tmod (andI n 255) 6 := by omega
    have : i = moreF n := by omega
    subst this
    have hft : flatD t = true := by
      rcases g.at_ with ⟨rfl, _⟩ | ⟨b, ex, el0, rfl, _⟩ <;> rfl
    simp [c']
    refine sem_exit (sem_run 9000 _ ?_)
    simp [h3, h2, hft]
    refine sem_ret ?_
    simp [M23]
    refine g.keep (g.sub.put (Nat.le_refl _)) (by simp) fun x hx => ?_
    rw [put_blk, if_neg]
    rintro rfl
    exact n2 hx
theorem schema (L : HLaw6 p ext F) {n : Int} : FnD p ext (F 23) [.lit (.int .i64 n)] (schD (schF n)) := by
  intro H
  refine WcD.drop ((schema_own L).mono ?_)
  rintro d H' ⟨t, rfl, g⟩
  obtain ⟨H2, w, s, u⟩ := g.finA sch_underss (m := .p) (by simp)
  exact ⟨_, H2, w, s, u, rfl, rfl⟩
end Go.Lib
end

section
set_option maxRecDepth 10000
namespace Go.Lib
open Go.Vm Go.Dv Go.Srt
variable {p : Prog} {ext : Ext} {F : Nat → Nat}
def colF1 (cols : List Int) (r : Row) : Row := cols.map fun c => atV r c
def colsF (cols : List Int) (l : List Row) : List Row := l.map (colF1 cols)
theorem colF1_len {cols : List Int} {r : Row} : (colF1 cols r).length = cols.length := by simp [colF1]
theorem colsF_len {cols : List Int} {l : List Row} : (colsF cols l).length = l.length := by simp [colsF]
theorem colF1_get {cols : List Int} {r : Row} {i : Nat} {c : Int} (h : cols[i]? = some c) : (colF1 cols r)[i]? = some (atV r c) := by simp [colF1, h]
theorem colsF_get {cols : List Int} {l : List Row} {i : Nat} {r : Row} (h : l[i]? = some r) : (colsF cols l)[i]? = some (colF1 cols r) := by simp [colsF, h]
theorem colsF_good {ks cols : List Int} {l : List Row} (hg : GoodRs ks l) (hc : ∀ c, c ∈ cols → InK ks c) : GoodRs (cols.map fun c => (ks[c.toNat]?).getD 0) (colsF cols l) := by
  intro x hx
  obtain ⟨r, hr, rfl⟩ := List.mem_map.1 hx
  refine ⟨?_, fun v hv => ?_⟩
  · unfold Kin colF1
    rw [List.map_map]
    exact List.map_congr_left fun c h => ((hg r hr).at_ (hc c h)).1
  · obtain ⟨c, h, rfl⟩ := List.mem_map.1 hv
    exact ((hg r hr).at_ (hc c h)).2
theorem colsF_fine {cols : List Int} {l : List Row} (hl : Fine l) (hc : cols.length < 1000000) : Fine (colsF cols l) :=
  ⟨by rw [colsF_len]; exact hl.1, fun x hx => by obtain ⟨r, _, rfl⟩ := List.mem_map.1 hx; rw [colF1_len]; exact hc⟩
end Go.Lib
end
