/- Mini, part 22: drawn regions are sound; the machine is sound. -/
import Derived.Test.YtfobiikidbffgaaGreatDoorM21
namespace Go.Mini

theorem ready_all {ops : Array Oper} (hed : edgesOk ops.toList = true) {listed : Array Bool} (hr : Region.ready .any ops listed = []) : ∀ k, k < ops.size → listed.getD k true = true := by
  intro k
  induction k using Nat.strongRecOn with
  | _ k ih =>
    intro hk
    obtain ⟨o, ho⟩ := oper_at (ops := ops) hk
    cases e : listed.getD k true with
    | true => rfl
    | false =>
      have : k ∈ Region.ready .any ops listed := by
        rw [mem_ready]
        refine ⟨e, o, ho, fun ed he hb => ?_⟩
        have hlt := edgesOk_lt hed ho he hb
        have h1 := ih ed.on hlt (by omega)
        have hkl : k < listed.size := by
          rcases Nat.lt_or_ge k listed.size with c | c
          · exact c
          · simp [Array.getElem?_eq_none c] at e
        have hel : ed.on < listed.size := by omega
        simp only [Array.getD_eq_getD_getElem?, Array.getElem?_eq_getElem hel, Option.getD_some] at h1 ⊢
        exact h1
      rw [hr] at this
      cases this

section
variable {P : Program} {call : CallF} {ops : Array Oper} {ρ0 ρ : Ren} {A0 : AS} {fr : Fr} {a0 a : Act} {w0 w : World}

theorem draw_end (hwm : CallWm call) {S : Nat → LS} {V : Nat → Value} {C : Nat → Option Cl} {bef : List (List Nat)} (lx : Lex P call ops bef S V C) (hfr : (S 0).fr = fr) (hA : (S 0).A = A0)
    (hr0 : HR P ρ0 A0.get A0.nx w0) (hf0 : FRel ρ0 fr a0) {L : Nat → Prop} (hL : ∀ k, k < ops.size → L k)
    (I : Inv P ops.size (fun k => (S k).A) C V ops ρ0 a0 w0 L ρ a w) : Post P ρ0 A0 w0 (.normal, (S ops.size).fr, (S ops.size).A) .normal a w := by
  subst hfr hA
  have lf := lx.lf hwm
  have h0 : ∀ i x, ρ0 i = some x → i < (S 0).A.nx := fun i x e => hr0.lt i x e
  have wh : ∀ i x, ρ i = some x → _ := fun i x e => I.where_ h0 (i := i) (x := x) e
  have bound : ∀ i x, ρ i = some x → i < (S ops.size).A.nx := fun i x e => by
    rcases wh i x e with c | ⟨k, hk, _, _, c⟩
    · exact Nat.lt_of_lt_of_le c (lf.mono (Nat.zero_le _) (Nat.le_refl _))
    · exact Nat.lt_of_lt_of_le c (lf.mono hk (Nat.le_refl _))
  have val : ∀ i, i < (S ops.size).A.nx → Valid ops.size (fun k => (S k).A) C L ops.size i := fun i hi => ⟨Nat.le_refl _, hi, fun k hk _ => hL k hk, fun k h1 h2 => absurd h1 (by omega)⟩
  refine ⟨ρ, ⟨⟨fun i hi => I.base _ _ (hr0.glob i hi), fun i b d e => ⟨bound i _ e, I.dom i b d e⟩, fun i j b d d' e e' hi hj => ?_, fun i b d o e eo => ?_⟩, I.base, fun i x e e' => ?_, fun i b d e e' => ?_, I.frame, fun i hi e => ?_, lf.mono (Nat.zero_le _) (Nat.le_refl _), I.size, I.os, I.tape, I.output⟩, ?_, trivial⟩
  · exact I.inj i j b d d' _ _ e e' (val i (bound i _ e)) hi (val j (bound j _ e')) hj
  · obtain ⟨ob, h1, h2⟩ := I.obj i b d _ o e (val i (bound i _ e)) eo
    exact ⟨ob, h1, h2.mono (cut_le _ _)⟩
  · obtain ⟨k, hk, _, h1, _⟩ := I.old i x e e'
    exact Nat.le_trans (lf.mono (Nat.zero_le _) (by omega)) h1
  · rcases I.new i b d e e' with h | ⟨j, d', q, h1, h2, h3, h4⟩
    · exact .inl h
    · refine .inr ⟨j, d', h1, h2, ?_⟩
      have := h3.same lf (val j (bound j _ (I.base _ _ h1)))
      rw [← this]; exact h4
  · exact I.deadTo lf hi e (q := ops.size) (fun k hk _ => hL k hk) (Nat.le_refl _)
  · obtain ⟨fn, fd, ft⟩ := lx.frames ops.size (Nat.le_refl _)
    refine ⟨?_, fun t v hv => ?_, ?_⟩
    · show (S ops.size).fr.n ≤ _
      rw [fn, I.tsize]; exact hf0.n
    · rcases ft t v hv with ⟨i, oi, hi, hoi, hd, rfl, hlt⟩ | ⟨hno, hv0⟩
      · obtain ⟨v', h1, h2⟩ := I.dst i oi t (hL i hi) hoi hd (Nat.lt_of_lt_of_le hlt hf0.n)
        exact ⟨v', h1, h2.mono (cut_le _ _)⟩
      · obtain ⟨v', h1, h2⟩ := hf0.t t v hv0
        refine ⟨v', ?_, h2.mono I.base⟩
        rw [I.tmp t fun j oj _ hoj => hno j oj (Array.getElem?_eq_some_iff.1 hoj).1 hoj]
        exact h1
    · show DRL ρ (S ops.size).fr.d a.defers
      rw [fd, I.defers]
      exact hf0.d.mono I.base

theorem draw_walk (hcall : CallOK P call) (hwm : CallWm call) (hok : regOk ops = true) {S : Nat → LS} {V : Nat → Value} {C : Nat → Option Cl} (lx : Lex P call ops (befs ops.toList []) S V C) (hfr : (S 0).fr = fr) (hA : (S 0).A = A0)
    (hr0 : HR P ρ0 A0.get A0.nx w0) (hf0 : FRel ρ0 fr a0) {Q : Exit → Act → World → Prop} (hQ : ∀ a w, Post P ρ0 A0 w0 (.normal, (S ops.size).fr, (S ops.size).A) .normal a w → Q .normal a w) :
    ∀ (fuel : Nat) (listed : Array Bool) (ρ : Ren) (a : Act) (w : World), listed.size = ops.size → listed.toList.count false ≤ fuel → (∀ k o e, Lof listed k → ops[k]? = some o → e ∈ o.after → Region.binds .any e = true → Lof listed e.on) →
      Inv P ops.size (fun k => (S k).A) C V ops ρ0 a0 w0 (Lof listed) ρ a w → wpAny P .any ops Q fuel listed a w := by
  have hed : edgesOk ops.toList = true := by unfold regOk at hok; simp only [Bool.and_eq_true] at hok; exact hok.1.1.1
  have fin : ∀ (listed : Array Bool) (ρ : Ren) (a : Act) (w : World), listed.size = ops.size → Inv P ops.size (fun k => (S k).A) C V ops ρ0 a0 w0 (Lof listed) ρ a w → (∀ k, k < ops.size → listed.getD k true = true) → Q .normal a w := by
    intro listed ρ a w hsz I hall
    refine hQ a w (draw_end hwm lx hfr hA hr0 hf0 (fun k hk => ?_) I)
    have hkl : k < listed.size := by omega
    have := hall k hk
    unfold Lof
    simp only [Array.getD_eq_getD_getElem?, Array.getElem?_eq_getElem hkl, Option.getD_some] at this ⊢
    exact this
  intro fuel
  induction fuel with
  | zero =>
    intro listed ρ a w hsz hc hp I
    have h0 : listed.toList.count false = 0 := by omega
    have hall : ∀ k, k < ops.size → listed.getD k true = true := by
      intro k hk
      have hkl : k < listed.size := by omega
      have hm : listed[k] ∈ listed.toList := by simp
      have hne : listed[k] ≠ false := fun e => by
        rw [e] at hm
        exact (List.count_eq_zero.1 h0) hm
      simp only [Array.getD_eq_getD_getElem?, Array.getElem?_eq_getElem hkl, Option.getD_some]
      simpa using hne
    refine ⟨?_, fin listed ρ a w hsz I hall⟩
    cases hr : Region.ready .any ops listed with
    | nil => rfl
    | cons k rest =>
      have hm : k ∈ Region.ready .any ops listed := by rw [hr]; simp
      rw [mem_ready] at hm
      obtain ⟨h1, o, ho, _⟩ := hm
      have := hall k (Array.getElem?_eq_some_iff.1 ho).1
      rw [h1] at this; cases this
  | succ fuel ih =>
    intro listed ρ a w hsz hc hp I
    refine ⟨fun hr => fin listed ρ a w hsz I (ready_all hed hr), fun k hk => ?_⟩
    rw [mem_ready] at hk
    obtain ⟨hf, o, ho, hrd⟩ := hk
    have hks : k < ops.size := (Array.getElem?_eq_some_iff.1 ho).1
    have hkl : k < listed.size := by omega
    have hfk : listed[k] = false := by
      simpa only [Array.getD_eq_getD_getElem?, Array.getElem?_eq_getElem hkl, Option.getD_some] using hf
    have hnl : ¬ Lof listed k := by
      unfold Lof
      simp only [Array.getD_eq_getD_getElem?, Array.getElem?_eq_getElem hkl, Option.getD_some, hfk]
      simp
    refine draw_step hcall hwm hok lx hfr hA hr0 hf0 hp I ho hnl (fun e he hb => hrd e he hb) fun ρ' a' w' I' => ?_
    refine ih (listed.setIfInBounds k true) ρ' a' w' (by simpa using hsz) ?_ ?_ ?_
    · rw [Array.toList_setIfInBounds, List.count_set (by simpa using hkl)]
      have hpos : 0 < listed.toList.count false := List.count_pos_iff.2 (by rw [← hfk]; simp)
      have e1 : (listed.toList[k]'(by simpa using hkl) == false) = true := by simp [hfk]
      have e2 : (true == false) = false := rfl
      simp only [e1, e2, if_true, Bool.false_eq_true, if_false]
      omega
    · intro j oj e hl hoj he hb
      rw [Lof_set hkl] at hl ⊢
      rcases hl with hl | hl
      · exact .inl (hp j oj e hl hoj he hb)
      · subst hl
        rw [ho] at hoj; cases hoj
        exact .inl (hrd e he hb)
    · rw [Lof_set hkl]; exact I'

theorem drawOK (hm : P.follows .mixedOrders = true) : DrawOK P := by
  intro call ops ρ fr A a w r id hcall hwm hs hr hf
  unfold regSem at hs
  simp only [if_true] at hs
  split at hs
  · rename_i hok
    obtain ⟨q, h1, h2⟩ := Option.map_eq_some_iff.1 hs
    obtain ⟨S, V, C, lx, h3, h4, h5, h6⟩ := lex_exists h1
    subst h2
    refine wp_region_any hm ?_
    refine draw_walk hcall hwm hok lx h3 h4 hr hf (Q := Post P ρ A w (.normal, q.1, q.2)) (fun a' w' p => by rw [h5, h6] at p; exact p) ops.size (Array.replicate ops.size false) ρ a _ (by simp) (by simp) ?_ ?_
    · intro k o e hl
      unfold Lof at hl
      simp [Array.getElem?_replicate] at hl
      split at hl <;> simp at hl
    · have hno : ∀ k, ¬ Lof (Array.replicate ops.size false) k := fun k hl => by
        unfold Lof at hl
        simp [Array.getElem?_replicate] at hl
        split at hl <;> simp at hl
      have h0 : ∀ i q, Valid ops.size (fun k => (S k).A) C (Lof (Array.replicate ops.size false)) q i → i < (S 0).A.nx → (S q).A.get i = (S 0).A.get i := fun i q hq hi =>
        (lx.lf hwm).same (q := 0) hi (Nat.zero_le _) hq.1 fun k _ hk hw => hno k (hq.2.2.1 k hk (.inl hw))
      subst h4
      have hlt : ∀ i x, ρ i = some x → i < (S 0).A.nx := fun i x e => hr.lt i x e
      exact {
        base := Le.refl _
        old := fun i x e e' => by rw [e] at e'; cases e'
        dom := fun i b d e => (hr.dom i b d e).2
        swr := fun k i _ hl => absurd hl (hno k)
        inj := fun i j b d d' q q' e e' hq hi hq' hj => hr.inj i j b d d' e e' (by rw [← h0 i q hq (hlt i _ e)]; exact hi) (by rw [← h0 j q' hq' (hlt j _ e')]; exact hj)
        obj := fun i b d q o e hq ho => by
          obtain ⟨ob, g1, g2⟩ := hr.obj i b d o e (by rw [← h0 i q hq (hlt i _ e)]; exact ho)
          refine ⟨ob, g1, g2.mono fun j x e2 => cut_some.2 ⟨?_, e2⟩⟩
          exact Nat.lt_of_lt_of_le (hlt j x e2) ((lx.lf hwm).mono (Nat.zero_le _) hq.1)
        new := fun i b d e e' => by rw [e] at e'; cases e'
        frame := fun b _ _ => rfl
        dead := fun k _ hl => absurd hl (hno k)
        size := Nat.le_refl _
        os := rfl
        tape := rfl
        output := rfl
        tsize := rfl
        tmp := fun _ _ => rfl
        dst := fun k _ _ hl => absurd hl (hno k)
        defers := rfl }
  · cases hs

/-- The abstract machine is sound. -/
theorem mini_sound (hm : P.follows .mixedOrders = true) (n : Nat) : CallOK P (Mini.call P n) := call_ok (drawOK hm) n

end
end Go.Mini
