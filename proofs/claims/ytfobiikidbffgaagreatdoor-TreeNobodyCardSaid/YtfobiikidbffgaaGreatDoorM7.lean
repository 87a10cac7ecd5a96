/- Mini, part 7: maps. -/
import Derived.Test.YtfobiikidbffgaaGreatDoorM6
namespace Go.Mini

theorem pureVal_bind {α β : Type} (P : Program) (f : α → Sem β) : ∀ (s : Sem α) (a : α), pureVal P s = some a → pureVal P (s >>= f) = pureVal P (f a) := by
  intro s
  induction s with
  | pure a => intro b h; simp only [pureVal, Option.some.injEq] at h; subst h; rfl
  | program k ih => intro b h; exact ih P b h
  | mark m k ih => intro b h; exact ih b h
  | _ => intro b h; simp [pureVal] at h

section
variable {ρ ρ' : Ren} {A : AS} {w : World} {P : Program}

theorem pureVal_underlying {t : TypeId} {d : TypeDesc} (h : P.underlying t = some d) : pureVal P (underlying t) = some d := by
  show pureVal P (match P.underlying t with | some d => pure d | none => stuck "no such type") = some d
  rw [h]; rfl

theorem sameNow_equal {t : TypeId} {d : TypeDesc} {k x : Value} {b : Bool} (hu : P.underlying t = some d) (h : Instr.sameNow d k x = some b) : pureVal P (Op.equal t k x) = some b := by
  have : ∀ n, pureVal P (Op.equalIn (n + 1) t k x) = some b := by
    intro n
    unfold Instr.sameNow at h
    split at h
    · split at h
      · rename_i hk
        cases h
        simp only [Op.equalIn]
        rw [pureVal_bind P _ _ _ (pureVal_underlying hu)]
        simp only [if_pos hk]; rfl
      · cases h
    · cases h
      simp only [Op.equalIn]
      rw [pureVal_bind P _ _ _ (pureVal_underlying hu)]
      rfl
    · cases h
      simp only [Op.equalIn]
      rw [pureVal_bind P _ _ _ (pureVal_underlying hu)]
      rfl
    · cases h
  exact this 9999

/-- What is found, in one list and in the other. -/
def FR (ρ : Ren) : Option (Nat × Value) → Option (Nat × Value) → Prop
  | none, none => True
  | some (i, v), some (j, u) => j = i ∧ VR ρ v u
  | _, _ => False

theorem eqKey_asking {t : TypeId} {k : Value} : ∀ {es es' : List MapEntry} {i : Nat} {r : Option (Nat × Value)}, KRL ρ es es' → eqKey P t k es i = some r →
    ∃ r', (Instr.findAsking t k es' i).run P w = .ok r' w ∧ FR ρ r r' := by
  intro es es' i r hk
  induction hk generalizing i r with
  | nil => intro h; simp only [eqKey, Option.some.injEq] at h; subst h; exact ⟨none, rfl, trivial⟩
  | @cons a b l m h t' ih =>
    intro e
    simp only [eqKey] at e
    split at e
    · rename_i hp
      have hkey : b.key = a.key := h.1.eq_of_plain hp
      split at e
      · rename_i he
        cases e
        refine ⟨some (i, b.val), ?_, rfl, h.2.1⟩
        simp only [Instr.findAsking, Sem.run_bind, hkey, pureVal_run P w _ _ he, Result.andThen_ok, if_true, Sem.run_pure]
      · rename_i he
        obtain ⟨r', h1, h2⟩ := ih e
        refine ⟨r', ?_, h2⟩
        simp only [Instr.findAsking, Sem.run_bind, hkey, pureVal_run P w _ _ he, Result.andThen_ok, Bool.false_eq_true, if_false, h1]
      · cases e
    · cases e

theorem eqKey_now {t : TypeId} {d : TypeDesc} {k : Value} (hu : P.underlying t = some d) : ∀ {es es' : List MapEntry} {i : Nat} {r r' : Option (Nat × Value)}, KRL ρ es es' → eqKey P t k es i = some r →
    Instr.findNow d k es' i = some r' → FR ρ r r' := by
  intro es es' i r r' hk
  induction hk generalizing i r r' with
  | nil => intro h h'; simp only [eqKey, Option.some.injEq] at h; simp only [Instr.findNow, Option.some.injEq] at h'; subst h; subst h'; trivial
  | @cons a b l m h t' ih =>
    intro e e'
    simp only [eqKey] at e
    simp only [Instr.findNow] at e'
    split at e
    · rename_i hp
      have hkey : b.key = a.key := h.1.eq_of_plain hp
      rw [hkey] at e'
      cases hs : Instr.sameNow d k a.key with
      | none => rw [hs] at e'; cases e'
      | some c =>
        rw [hs] at e'
        rw [sameNow_equal hu hs] at e
        cases c
        · exact ih e e'
        · simp only [Option.some.injEq] at e e'
          subst e; subst e'
          exact ⟨rfl, h.2.1⟩
    · cases e

theorem eqKey_run {t : TypeId} {k : Value} {es es' : List MapEntry} {r : Option (Nat × Value)} (hu : ∃ d, P.underlying t = some d) (hk : KRL ρ es es') (h : eqKey P t k es 0 = some r) :
    ∃ r', (Instr.findKey t k es').run P w = .ok r' w ∧ FR ρ r r' := by
  obtain ⟨d, hu⟩ := hu
  unfold Instr.findKey
  simp only [Sem.run_bind, run_underlying hu, Result.andThen_ok]
  cases hf : Instr.findNow d k es' 0 with
  | none => exact eqKey_asking hk h
  | some r' => exact ⟨r', rfl, eqKey_now hu hk h hf⟩

theorem KRL.length {ρ : Ren} {l m : List MapEntry} (h : KRL ρ l m) : m.length = l.length := by
  induction h with
  | nil => rfl
  | cons _ _ ih => simp [ih]

theorem KRL.get {ρ : Ren} {l m : List MapEntry} (h : KRL ρ l m) : ∀ i : Nat, match l[i]?, m[i]? with | some a, some b => KR ρ a b | none, none => True | _, _ => False := by
  induction h with
  | nil => intro i; simp
  | cons h _ ih => intro i; cases i with | zero => simpa using h | succ i => simpa using ih i

theorem KRL.append {ρ : Ren} {l m l' m' : List MapEntry} (h : KRL ρ l m) (k : KRL ρ l' m') : KRL ρ (l ++ l') (m ++ m') := by
  induction h with
  | nil => exact k
  | cons h _ ih => exact .cons h ih

theorem KRL.modify {ρ : Ren} {f g : MapEntry → MapEntry} (hfg : ∀ a b, KR ρ a b → KR ρ (f a) (g b)) {l m : List MapEntry} (h : KRL ρ l m) : ∀ i, KRL ρ (l.modify i f) (m.modify i g) := by
  induction h with
  | nil => intro i; simp; exact .nil
  | cons h t ih =>
    intro i
    cases i with
    | zero => simp; exact .cons (hfg _ _ h) t
    | succ i => simp; exact .cons h (ih i)

theorem HR.mapObj {g : Nat → Option AO} {nx : Nat} (h : HR P ρ g nx w) {i b : Nat} {d : Nat × Nat} {es : List MapEntry} {k : Nat} (hi : ρ i = some (b, d)) (hg : g i = some (.map es k)) :
    ∃ es', w.heap[b]? = some (.map es' k) ∧ KRL ρ es es'.toList ∧ d = (0, 0) := by
  obtain ⟨ob, h1, h2⟩ := h.obj i b d _ hi hg
  cases h2 with
  | map _ hk => exact ⟨_, h1, hk, rfl⟩

theorem run_getObj {b : Nat} {o : Obj} (h : w.heap[b]? = some o) (hc : ∀ c e f, o ≠ .cells c e f) : (getObj b).run P w = .ok o w := by
  unfold getObj
  cases o <;> first | exact (hc _ _ _ rfl).elim | simp [Sem.run, h]

theorem run_setObj {b : Nat} {o n : Obj} (h : w.heap[b]? = some o) (hc : ∀ c e f, o ≠ .cells c e f) : (setObj b n).run P w = .ok () (withB w b n) := by
  unfold setObj withB
  cases o <;> first | exact (hc _ _ _ rfl).elim | simp [Sem.run, h]

theorem underlying_of_checkKey {e : Bool} {kt : TypeId} {k : Value} (h : ∃ u, pureVal P (Instr.checkKey e 10000 kt k) = some u) : ∃ d, P.underlying kt = some d := by
  obtain ⟨u, h⟩ := h
  cases hu : P.underlying kt with
  | some d => exact ⟨d, rfl⟩
  | none =>
    exfalso
    have : ∀ n, pureVal P (Instr.checkKey e (n + 1) kt k) = none := by
      intro n
      simp only [Instr.checkKey]
      show pureVal P ((match P.underlying kt with | some d => pure d | none => stuck "no such type") >>= _) = none
      rw [hu]; rfl
    rw [this 9999] at h
    cases h

theorem sLookup_run (h : HR P ρ A.get A.nx w) {t : TypeId} {m m' k k' v : Value} {ok : Bool} (hs : sLookup P t m k ok A = some v) (hm : VR ρ m m') (hk : VR ρ k k') :
    ∃ v', (Instr.lookup t m' k' ok).run P w = .ok v' w ∧ VR ρ v v' := by
  unfold sLookup at hs
  split at hs
  · rename_i kt e es hu hes
    split at hs
    · rename_i hp
      have hkk := (hk.eq_of_plain hp).symm
      subst hkk
      -- the entries
      have ent : (m' = .map none ∧ es = []) ∨ (∃ b es' clock, m' = .map (some b) ∧ w.heap[b]? = some (.map es' clock) ∧ KRL ρ es es'.toList) := by
        unfold entriesOf at hes
        split at hes
        · cases hes; cases hm; exact .inl ⟨rfl, rfl⟩
        · rename_i r
          cases hm with
          | map hi =>
          split at hes
          · rename_i es2 ck hg
            cases hes
            obtain ⟨es', h1, h2, _⟩ := h.mapObj hi hg
            exact .inr ⟨_, es', ck, rfl, h1, h2⟩
          · cases hes
        · cases hes
      have emp_of : ∀ es' : Array MapEntry, KRL ρ es es'.toList → es'.isEmpty = es.isEmpty := by
        intro es' h2
        have hl := h2.length
        cases es' with
        | mk l =>
          simp only at hl
          cases l <;> cases es <;> first | rfl | simp at hl
      have core : ∀ u r, pureVal P (Instr.checkKey es.isEmpty 10000 kt k) = some u → eqKey P kt k es 0 = some r → ∃ r', (Instr.lookup t m' k ok).run P w = (match r' with
            | some (_, v) => (.ok (if ok then .tuple #[v, .bool true] else v) w : Result Value)
            | none => ((zeroValue e).run P w).andThen fun z w => .ok (if ok then .tuple #[z, .bool false] else z) w) ∧ FR ρ r r' := by
        intro u r hc hq
        have fin : ∀ es' : Array MapEntry, KRL ρ es es'.toList → ∃ r', (Instr.findKey kt k es'.toList).run P w = .ok r' w ∧ FR ρ r r' ∧ (Instr.checkKey es'.isEmpty 10000 kt k).run P w = .ok u w := by
          intro es' h2
          obtain ⟨r', h3, h4⟩ := eqKey_run (w := w) (underlying_of_checkKey ⟨u, hc⟩) h2 hq
          exact ⟨r', h3, h4, by rw [emp_of es' h2]; exact pureVal_run P w _ _ hc⟩
        rcases ent with ⟨rfl, rfl⟩ | ⟨b, es', clock, rfl, h1, h2⟩
        · obtain ⟨r', h3, h4, h5⟩ := fin #[] .nil
          refine ⟨r', ?_, h4⟩
          unfold Instr.lookup
          simp only [Sem.run_bind, run_underlying hu, Result.andThen_ok, Sem.run_pure, h5, h3]
          cases r' with
          | none =>
            simp only [Sem.run_bind, Sem.run_pure]
            cases (zeroValue e).run P w <;> rfl
          | some x => rfl
        · obtain ⟨r', h3, h4, h5⟩ := fin es' h2
          refine ⟨r', ?_, h4⟩
          unfold Instr.lookup
          simp only [Sem.run_bind, run_underlying hu, Result.andThen_ok, Sem.run_pure, run_getObj h1 (by simp), h5, h3]
          cases r' with
          | none =>
            simp only [Sem.run_bind, Sem.run_pure]
            cases (zeroValue e).run P w <;> rfl
          | some x => rfl
      split at hs
      · rename_i u z i x hc hz hq
        cases hs
        obtain ⟨r', h3, h4⟩ := core u _ hc hq
        cases r' with
        | none => exact (h4 : False).elim
        | some y =>
          obtain ⟨j, y⟩ := y
          refine ⟨_, h3, ?_⟩
          cases ok
          · exact h4.2
          · exact two h4.2 true
      · rename_i u z hc hz hq
        cases hs
        obtain ⟨r', h3, h4⟩ := core u _ hc hq
        obtain ⟨z1, z2⟩ := run_zero (w := w) hz
        cases r' with
        | some y => exact (h4 : False).elim
        | none =>
          simp only [z1, Result.andThen_ok] at h3
          refine ⟨_, h3, ?_⟩
          cases ok
          · exact VR.of_plain ρ z z2
          · exact two (VR.of_plain ρ z z2) false
      · cases hs
    · cases hs
  · cases hs

/-- What a step does that hands back a value. -/
def Does (P : Program) (ρ : Ren) (A : AS) (w : World) (s : Sem Value) (v : Value) (A' : AS) : Prop :=
  ∃ v' w' ρ', s.run P w = .ok v' w' ∧ VR ρ' v v' ∧ ST P ρ A.get A.nx w ρ' A'.get A'.nx w'

/-- The same for a step that hands back nothing. -/
def DoesU (P : Program) (ρ : Ren) (A : AS) (w : World) (s : Sem Unit) (A' : AS) : Prop :=
  ∃ w' ρ', s.run P w = .ok () w' ∧ ST P ρ A.get A.nx w ρ' A'.get A'.nx w'

theorem sMapSet_run (h : HR P ρ A.get A.nx w) {t : TypeId} {m m' k k' x x' : Value} {r : OR} {A' : AS} (hs : sMapSet P t m k x A = some (r, A')) (hm : VR ρ m m') (hk : VR ρ k k') (hx : VR ρ x x') :
    r = .val undef ∧ DoesU P ρ A w (Instr.mapUpdate t m' k' x') A' := by
  unfold sMapSet at hs
  split at hs
  · rename_i kt e rr hu
    cases hm with
    | map hi =>
    split at hs
    · rename_i es clock hg
      obtain ⟨es', h1, h2, _⟩ := h.mapObj hi hg
      split at hs
      · rename_i hp
        simp only [Bool.and_eq_true] at hp
        have hkk := (hk.eq_of_plain hp.1).symm
        subst hkk
        split at hs
        · rename_i u i y hc hq
          split at hs
          · rename_i hsame
            cases hs
            refine ⟨rfl, ?_⟩
            obtain ⟨r', h3, h4⟩ := eqKey_run (w := w) (underlying_of_checkKey ⟨u, hc⟩) h2 hq
            cases r' with
            | none => exact (h4 : False).elim
            | some z =>
              obtain ⟨j, z⟩ := z
              obtain ⟨rfl, _⟩ := h4
              have hold : ∀ b : MapEntry, es'[j]? = some b → Instr.sameBits 10000 b.key k = true ∨ True := fun _ _ => .inr trivial
              have hsame' : Instr.sameBits 10000 (((es'[j]?).map (·.key)).getD k) k = true := by
                have hget := h2.get j
                have hconv : es'[j]? = es'.toList[j]? := by simp
                rw [hconv]
                cases ha : es[j]? with
                | none =>
                  rw [ha] at hget hsame
                  cases hb : es'.toList[j]? with
                  | none => simpa using hsame
                  | some b => rw [hb] at hget; exact hget.elim
                | some a =>
                  rw [ha] at hget hsame
                  cases hb : es'.toList[j]? with
                  | none => rw [hb] at hget; exact hget.elim
                  | some b =>
                    rw [hb] at hget
                    simp only [Option.map_some, Option.getD_some] at hsame ⊢
                    -- the key of an entry that was found is plain
                    have hpl : plain a.key = true := by
                      clear hb hget hsame hold h3 h1 hconv
                      revert hq ha
                      generalize hz0 : (0 : Nat) = z0
                      have : ∀ (es : List MapEntry) (z0 : Nat) (j : Nat), eqKey P kt k es z0 = some (some (j + z0, y)) → ∀ a, es[j]? = some a → plain a.key = true := by
                        intro es
                        induction es with
                        | nil => intro z0 j h; simp [eqKey] at h
                        | cons c cs ih =>
                          intro z0 j h a ha
                          simp only [eqKey] at h
                          split at h
                          · rename_i hpc
                            cases j with
                            | zero => simp only [List.getElem?_cons_zero, Option.some.injEq] at ha; subst ha; exact hpc
                            | succ j =>
                              split at h
                              · simp only [Option.some.injEq, Prod.mk.injEq] at h; omega
                              · simp only [List.getElem?_cons_succ] at ha
                                exact ih (z0 + 1) j (by rw [show j + (z0 + 1) = j + 1 + z0 by omega]; exact h) a ha
                              · cases h
                          · cases h
                      subst hz0
                      intro hq ha
                      exact this es 0 j hq a ha
                    rw [hget.1.eq_of_plain hpl]; exact hsame
              refine ⟨_, ρ, ?_, ST.change h hi (by rw [hg]; simp) (.map clock (es' := es'.modify j fun e => { e with key := k, val := x' }) (by
                rw [Array.toList_modify]
                refine h2.modify ?_ j
                intro a b hab
                exact ⟨VR.of_plain ρ k hp.1, hx, hab.2.2⟩)) (fun l => AS.get_put ..)⟩
              unfold Instr.mapUpdate Instr.keyThatStays
              simp only [Sem.run_bind, run_underlying hu, Result.andThen_ok, run_getObj h1 (by simp), pureVal_run P w _ _ hc, h3, hsame', if_true, Sem.run_pure, run_setObj h1 (by simp)]
          · cases hs
        · rename_i u hc hq
          cases hs
          refine ⟨rfl, ?_⟩
          obtain ⟨r', h3, h4⟩ := eqKey_run (w := w) (underlying_of_checkKey ⟨u, hc⟩) h2 hq
          cases r' with
          | some z => exact (h4 : False).elim
          | none =>
            refine ⟨_, ρ, ?_, ST.change h hi (by rw [hg]; simp) (.map (clock + 1) (es' := es'.push { key := k, val := x', born := clock }) (by
                rw [Array.toList_push]
                exact h2.append (.cons ⟨VR.of_plain ρ k hp.1, hx, rfl⟩ .nil))) (fun l => AS.get_put ..)⟩
            unfold Instr.mapUpdate
            simp only [Sem.run_bind, run_underlying hu, Result.andThen_ok, run_getObj h1 (by simp), pureVal_run P w _ _ hc, h3, run_setObj h1 (by simp)]
        · cases hs
      · cases hs
    · cases hs
  · cases hs

end
end Go.Mini
