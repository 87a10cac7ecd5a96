/- Mini, part 6: slices, assertions, look-ups, composite values. -/
import Derived.Test.YtfobiikidbffgaaGreatDoorM5
namespace Go.Mini

section
variable {ρ : Ren} {A : AS} {w : World} {P : Program}

theorem sSliceSl_run {e : TypeId} {t : TypeId} {size b b' off len cap cap' : Nat} {d : Nat × Nat} {lo hi mx lo' hi' mx' : Option Value} {v : Value} (hu : P.underlying t = some (.slice e)) (hsz : sizeT P e = some size)
    (hs : sSliceSl size b off len cap lo hi mx = some v) (hb : ρ b = some (b', d)) (hc : (cap < unk ∧ cap' = cap) ∨ (cap = unk ∧ (off = 0 → cap' ≤ d.2))) (hn : len ≤ cap') (hlo : OVR ρ lo lo') (hhi : OVR ρ hi hi') (hmx : OVR ρ mx mx') :
    ∃ v', (Instr.sliceAt t (.slice (some ⟨b', off + d.1, none⟩) len cap') lo' hi' mx').run P w = .ok v' w ∧ VR ρ v v' := by
  unfold sSliceSl at hs
  split at hs
  · rename_i l h m hbd
    obtain ⟨m', h1, h2, h3, h5, h4⟩ := bounds_run (P := P) (w := w) (isSlice := true) hbd hlo hhi hmx (hc.imp id fun x => ⟨x.1, hn⟩) hn
    have run : (Instr.sliceAt t (.slice (some ⟨b', off + d.1, none⟩) len cap') lo' hi' mx').run P w = .ok (.slice (some ⟨b', if m' = l then off + d.1 else off + d.1 + l * size, none⟩) (h - l) (m' - l)) w := by
      unfold Instr.sliceAt
      simp only [Sem.run_bind, run_underlying hu, Result.andThen_ok]
      unfold Instr.slice
      simp only [Sem.run_bind, run_underlying hu, Result.andThen_ok, h1, run_sizeOf hsz, Sem.run_pure, Option.map_some, add_plain]
      split <;> rfl
    split at hs
    · rename_i hm
      cases hs
      have hmm : m = m' := by
        rcases h4 with ⟨a, _, _⟩ | ⟨a, _, _⟩
        · exact a
        · omega
      subst hmm
      refine ⟨_, run, ?_⟩
      have : (if m = l then off + d.1 else off + d.1 + l * size) = (if m = l then off else off + l * size) + d.1 := by split <;> omega
      rw [this]
      exact .sl _ _ _ _ hb (.inl ⟨by omega, rfl⟩) (by omega)
    · rename_i hm
      split at hs
      · cases hs
      · rename_i hmx0
        have hmu : h ≤ len := by
          rcases h4 with ⟨_, a, b⟩ | ⟨_, _, a⟩
          · rcases b with b | b
            · cases hmx with
              | none => exact absurd rfl b
              | some _ => simp at hmx0
            · rcases hc with ⟨x, _⟩ | ⟨x, _⟩
              · rcases a with a | a
                · cases hmx with
                  | none => omega
                  | some _ => simp at hmx0
                · omega
              · exact absurd x b
          · exact a
        have hroom : off = 0 → m' ≤ d.2 := by
          intro h0
          rcases hc with ⟨x, y⟩ | ⟨_, y⟩
          · rcases h4 with ⟨a, _, _⟩ | ⟨_, a, _⟩
            · omega
            · omega
          · have := y h0; omega
        split at hs
        · rename_i hl0
          cases hs
          subst hl0
          refine ⟨_, run, ?_⟩
          have : (if m' = 0 then off + d.1 else off + d.1 + 0 * size) = off + d.1 := by split <;> omega
          rw [this]
          exact .sl _ _ _ _ hb (.inr ⟨rfl, fun h0 => by have := hroom (by omega); omega⟩) (by omega)
        · rename_i hl0
          split at hs
          · rename_i hlt
            cases hs
            refine ⟨_, run, ?_⟩
            have : (if m' = l then off + d.1 else off + d.1 + l * size) = off + l * size + d.1 := by rw [if_neg (by omega)]; omega
            rw [this]
            exact .sl _ _ _ _ hb (.inr ⟨rfl, fun h0 => by have := hroom (by omega); omega⟩) (by omega)
          · rename_i hge
            cases hs
            refine ⟨_, run, ?_⟩
            have : h - l = 0 := by omega
            rw [this]
            exact .emp _ _
  · cases hs

theorem sSliceArr_run {e : TypeId} {n b b' off : Nat} {d : Nat × Nat} {lo hi mx lo' hi' mx' : Option Value} {v : Value} (hs : sSliceArr P n e b off lo hi mx = some v) (hb : ρ b = some (b', d)) (hn : n < unk) (hlo : OVR ρ lo lo') (hhi : OVR ρ hi hi') (hmx : OVR ρ mx mx') :
    ∃ l h m size, sizeT P e = some size ∧ (Instr.sliceBounds false n n lo' hi' mx').run P w = .ok (l, h, m) w ∧
      VR ρ v (.slice (some (if m = l then ⟨b', off + d.1, none⟩ else (⟨b', off + d.1, none⟩ : Addr).add (l * size))) (h - l) (m - l)) := by
  unfold sSliceArr at hs
  split at hs
  · rename_i size l h m hsz hbd
    cases hs
    obtain ⟨m', h1, h2, h3, h5, h4⟩ := bounds_run (P := P) (w := w) (isSlice := false) hbd hlo hhi hmx (.inl ⟨hn, rfl⟩) (Nat.le_refl _)
    have hmm : m = m' ∧ m < unk := by
      rcases h4 with ⟨a, b, _⟩ | ⟨_, a, _⟩
      · exact ⟨a, by omega⟩
      · omega
    obtain ⟨rfl, hmu⟩ := hmm
    refine ⟨l, h, m, size, hsz, h1, ?_⟩
    have : (if m = l then (⟨b', off + d.1, none⟩ : Addr) else (⟨b', off + d.1, none⟩ : Addr).add (l * size)) = ⟨b', (if m = l then off else off + l * size) + d.1, none⟩ := by
      rw [add_plain]
      split
      · rfl
      · rw [Nat.add_right_comm]
    rw [this]
    exact .sl _ _ _ _ hb (.inl ⟨by omega, rfl⟩) (by omega)
  · cases hs

theorem ovr_map {o : Option Operand} {f g : Operand → Value} (h : ∀ x, VR ρ (f x) (g x)) : OVR ρ (o.map f) (o.map g) := by
  cases o with
  | none => exact .none
  | some x => exact .some (h x)

theorem sSlice_run {t : TypeId} {x x' : Value} {lo hi mx lo' hi' mx' : Option Value} {v : Value} (hs : sSlice P t x lo hi mx = some v) (hx : VR ρ x x') (hlo : OVR ρ lo lo') (hhi : OVR ρ hi hi') (hmx : OVR ρ mx mx') :
    ∃ v', (Instr.sliceAt t x' lo' hi' mx').run P w = .ok v' w ∧ VR ρ v v' := by
  unfold sSlice at hs
  split at hs
  · rename_i e b off len cap hu
    cases hx with
    | sl _ _ _ c' hb hc hn =>
    cases hsz : sizeT P e with
    | none => rw [hsz] at hs; cases hs
    | some size =>
      rw [hsz] at hs
      exact sSliceSl_run hu hsz hs hb hc hn hlo hhi hmx
  · rename_i e hu
    cases hx
    cases hsz : sizeT P e with
    | none => rw [hsz] at hs; cases hs
    | some size =>
      rw [hsz] at hs
      simp only [Option.bind_some] at hs
      cases hbd : bounds 0 0 lo hi mx with
      | none => rw [hbd] at hs; cases hs
      | some r =>
        rw [hbd] at hs
        obtain ⟨l, h, m⟩ := r
        simp only [Option.map_some, Option.some.injEq] at hs
        subst hs
        obtain ⟨m', h1, h2, h3, h5, h4⟩ := bounds_run (P := P) (w := w) (isSlice := true) hbd hlo hhi hmx (.inl ⟨by decide, rfl⟩) (Nat.le_refl _)
        have hz : l = 0 ∧ h = 0 ∧ m' = 0 := by
          rcases h4 with ⟨a, b, _⟩ | ⟨_, a, _⟩
          · omega
          · exact absurd a (by decide)
        obtain ⟨rfl, rfl, rfl⟩ := hz
        refine ⟨.slice none 0 0, ?_, .slN 0 0⟩
        unfold Instr.sliceAt
        simp only [Sem.run_bind, run_underlying hu, Result.andThen_ok]
        unfold Instr.slice
        simp only [Sem.run_bind, run_underlying hu, Result.andThen_ok, h1, run_sizeOf hsz, Sem.run_pure]
        rfl
  · rename_i e c hu
    cases hx with
    | emp a c' =>
    cases hmx with
    | some _ => cases hs
    | none =>
    cases hsz : sizeT P e with
    | none => rw [hsz] at hs; cases hs
    | some size =>
      rw [hsz] at hs
      simp only [Option.bind_some] at hs
      cases hbd : bounds 0 unk lo hi none with
      | none => rw [hbd] at hs; cases hs
      | some r =>
        rw [hbd] at hs
        obtain ⟨l, h, m⟩ := r
        simp only [Option.map_some, Option.some.injEq] at hs
        subst hs
        obtain ⟨m', h1, h2, h3, h5, h4⟩ := bounds_run (P := P) (w := w) (cap' := c') (isSlice := true) hbd hlo hhi .none (.inr ⟨rfl, Nat.zero_le _⟩) (Nat.zero_le _)
        have hz : l = 0 ∧ h = 0 := by
          rcases h4 with ⟨_, _, b⟩ | ⟨_, _, a⟩
          · rcases b with b | b
            · exact absurd rfl b
            · exact absurd rfl b
          · omega
        obtain ⟨rfl, rfl⟩ := hz
        refine ⟨_, ?_, .emp (if m' = 0 then a else a.add (0 * size)) (m' - 0)⟩
        unfold Instr.sliceAt
        simp only [Sem.run_bind, run_underlying hu, Result.andThen_ok]
        unfold Instr.slice
        simp only [Sem.run_bind, run_underlying hu, Result.andThen_ok, h1, run_sizeOf hsz, Sem.run_pure, Option.map_some]
        split <;> rfl
  · rename_i s hu
    cases hx
    cases hmx with
    | some _ => cases hs
    | none =>
    have hs' : (if s.size < unk then (bounds s.size s.size lo hi none).map (fun r => Value.string (s.extract r.1 r.2.1)) else none) = some v := hs
    clear hs
    revert hs'
    intro hs
    split at hs
    · rename_i hsu
      cases hbd : bounds s.size s.size lo hi none with
      | none => rw [hbd] at hs; cases hs
      | some r =>
        rw [hbd] at hs
        obtain ⟨l, h, m⟩ := r
        simp only [Option.map_some, Option.some.injEq] at hs
        subst hs
        obtain ⟨m', h1, h2, h3, h5, h4⟩ := bounds_run (P := P) (w := w) (isSlice := false) hbd hlo hhi .none (.inl ⟨hsu, rfl⟩) (Nat.le_refl _)
        refine ⟨_, ?_, .string _⟩
        unfold Instr.sliceAt
        simp only [Sem.run_bind, run_underlying hu, Result.andThen_ok]
        unfold Instr.slice
        simp only [Sem.run_bind, run_underlying hu, Result.andThen_ok, Option.isSome, Bool.false_eq_true, if_false, h1, Sem.run_pure]
    · cases hs
  · rename_i n e b off hu
    cases hx with
    | ptr _ hb =>
    split at hs
    · rename_i hn
      obtain ⟨l, h, m, size, h1, h2, h3⟩ := sSliceArr_run (w := w) hs hb hn hlo hhi hmx
      refine ⟨_, ?_, h3⟩
      unfold Instr.sliceAt Instr.sureAddr
      simp only [Sem.run_bind, run_underlying hu, Result.andThen_ok, Sem.run_pure, h2, run_sizeOf h1]
    · cases hs
  · rename_i arr b off hu
    cases hx with
    | ptr _ hb =>
    split at hs
    · rename_i n e hu2
      split at hs
      · rename_i hn
        obtain ⟨l, h, m, size, h1, h2, h3⟩ := sSliceArr_run (w := w) hs hb hn hlo hhi hmx
        refine ⟨_, ?_, h3⟩
        unfold Instr.sliceAt
        simp only [Sem.run_bind, run_underlying hu, Result.andThen_ok]
        unfold Instr.slice asAddr
        simp only [Sem.run_bind, run_underlying hu, run_underlying hu2, Result.andThen_ok, Sem.run_pure, h2, run_sizeOf h1]
      · cases hs
    · cases hs
  · cases hs

theorem sExtract_run {x x' v : Value} {i : Nat} (hs : sExtract x i = some v) (hx : VR ρ x x') : ∃ v', (Instr.extract x' i).run P w = .ok v' w ∧ VR ρ v v' := by
  unfold sExtract at hs
  split at hs
  · rename_i vs
    cases hx with
    | top => simp at hs
    | tup hl =>
      obtain ⟨v', h1, h2⟩ := hl.get (by simpa using hs)
      refine ⟨v', ?_, h2⟩
      unfold Instr.extract
      simp [h1]
  · cases hs

theorem two {ρ : Ren} {v v' : Value} (h : VR ρ v v') (b : Bool) : VR ρ (.tuple #[v, .bool b]) (.tuple #[v', .bool b]) := .tup (.cons h (.cons (.bool b) .nil))

theorem sAssert_run {x x' v : Value} {xt t : TypeId} {ok : Bool} (hs : sAssert P x t ok = some v) (hx : VR ρ x x') : ∃ v', (Instr.typeAssert x' xt t ok).run P w = .ok v' w ∧ VR ρ v v' := by
  unfold sAssert at hs
  split at hs
  · cases hs
  · rename_i d hne hu
    cases hx
    split at hs
    · rename_i hok
      cases hz : zeroT P t with
      | none => rw [hz] at hs; cases hs
      | some z =>
        rw [hz] at hs
        simp only [Option.map_some, Option.some.injEq] at hs
        subst hs
        obtain ⟨h1, h2⟩ := run_zero (w := w) hz
        refine ⟨_, ?_, two (VR.of_plain ρ z h2) false⟩
        unfold Instr.typeAssert
        simp only [Sem.run_bind, run_underlying hu, Result.andThen_ok]
        cases d <;> first | exact (hne _ rfl).elim | (simp [hok, h1])
    · cases hs
  · rename_i d u y hne hu
    cases hx with
    | iface _ hy =>
    split at hs
    · rename_i hut
      cases hs
      subst hut
      rename_i y'
      refine ⟨if ok then .tuple #[y', .bool true] else y', ?_, by cases ok; exact hy; exact two hy true⟩
      unfold Instr.typeAssert
      simp only [Sem.run_bind, run_underlying hu, Result.andThen_ok]
      cases d <;> first | exact (hne _ rfl).elim | simp
    · rename_i hut
      split at hs
      · rename_i hok
        cases hz : zeroT P t with
        | none => rw [hz] at hs; cases hs
        | some z =>
          rw [hz] at hs
          simp only [Option.map_some, Option.some.injEq] at hs
          subst hs
          obtain ⟨h1, h2⟩ := run_zero (w := w) hz
          refine ⟨_, ?_, two (VR.of_plain ρ z h2) false⟩
          unfold Instr.typeAssert
          simp only [Sem.run_bind, run_underlying hu, Result.andThen_ok]
          cases d <;> first | exact (hne _ rfl).elim | (simp [hok, h1, hut])
      · cases hs
  · cases hs

/-! ### Composite values -/
def pour (off : Nat) (l : List (Value × Nat)) (cells : Array Value) : Array Value := l.foldl (fun cs x => cs.setIfInBounds (off + x.2) x.1) cells

theorem VRL.set {ρ : Ren} : ∀ {l l' : List Value} (i : Nat) {v v' : Value}, VRL ρ l l' → VR ρ v v' → VRL ρ (l.set i v) (l'.set i v')
  | _, _, _, _, _, .nil, _ => .nil
  | _, _, 0, _, _, .cons _ t, h => .cons h t
  | _, _, i + 1, _, _, .cons a t, h => .cons a (VRL.set i t h)

theorem pour_rel (off : Nat) : ∀ {l l' : List Value} (k : Nat) (cells cells' : Array Value), VRL ρ l l' → VRL ρ cells.toList cells'.toList →
    VRL ρ (pour off (l.zipIdx k) cells).toList (pour off (l'.zipIdx k) cells').toList ∧ (pour off (l.zipIdx k) cells).size = cells.size
  | _, _, k, cells, cells', .nil, h => ⟨h, rfl⟩
  | _, _, k, cells, cells', .cons (v := v) (v' := v') (l := l) (l' := l') hv t, h => by
    have := pour_rel off (k + 1) (cells.setIfInBounds (off + k) v) (cells'.setIfInBounds (off + k) v') t (by simpa using h.set (off + k) hv)
    simp only [List.zipIdx_cons, pour, List.foldl_cons] at this ⊢
    exact ⟨this.1, by rw [this.2]; simp⟩

theorem fill_pour (v : Value) (off : Nat) (cells : Array Value) : v.cells.zipIdx.foldl (fun cs (c, j) => cs.setIfInBounds (off + j) c) cells = pour off ((vcells v).zipIdx 0) cells := by
  have : v.cells.toList = vcells v := by cases v <;> rfl
  rw [← this, ← Array.foldl_toList, Array.toList_zipIdx]
  rfl

inductive PR (ρ : Ren) : List (Nat × Value) → List (Nat × Value) → Prop
  | nil : PR ρ [] []
  | cons (i : Nat) {v v' : Value} {l l' : List (Nat × Value)} (h : VR ρ v v') (t : PR ρ l l') : PR ρ ((i, v) :: l) ((i, v') :: l')

theorem PR.map {ρ : Ren} {f g : Operand → Value} (h : ∀ x, VR ρ (f x) (g x)) : ∀ l : List (Nat × Operand), PR ρ (l.map fun p => (p.1, f p.2)) (l.map fun p => (p.1, g p.2))
  | [] => .nil
  | (i, x) :: l => .cons i (h x) (PR.map h l)

theorem fill_rel {place : Nat → Option (Nat × Nat)} : ∀ {l l' : List (Nat × Value)} {cells cells' r : Array Value}, PR ρ l l' → allKnown l = true → VRL ρ cells.toList cells'.toList → Instr.fill place cells l = some r →
    ∃ r', Instr.fill place cells' l' = some r' ∧ VRL ρ r.toList r'.toList := by
  intro l l' cells cells' r hp
  induction hp generalizing cells cells' r with
  | nil => intro _ hc h; simp only [Instr.fill, Option.some.injEq] at h; subst h; exact ⟨cells', rfl, hc⟩
  | @cons i v v' l l' hv t ih =>
    intro hk hc h
    simp only [allKnown, List.all_cons, Bool.and_eq_true] at hk
    obtain ⟨hlen, hvs⟩ := hv.isTop_false (by simpa using hk.1)
    have sz : ∀ u : Value, u.cells.size = (vcells u).length := by intro u; cases u <;> rfl
    have hcs : cells'.size = cells.size := by have := hc.length; simpa using this
    simp only [Instr.fill] at h ⊢
    cases hpl : place i with
    | none => rw [hpl] at h; cases h
    | some x =>
      obtain ⟨off, size⟩ := x
      rw [hpl] at h
      simp only [sz, hlen, hcs] at h ⊢
      split at h
      · cases h
      · rename_i hno
        rw [if_neg hno]
        have := pour_rel (ρ := ρ) off 0 cells cells' hvs hc
        rw [fill_pour] at h ⊢
        exact ih (by simpa [allKnown] using hk.2) this.1 h

theorem run_mapM_places : ∀ (l : List Field) (r : List (Nat × Nat)), placesOf P l = some r → (l.mapM fun f => do pure (f.offset, ← sizeOf f.type) : Sem (List (Nat × Nat))).run P w = .ok r w
  | [], r, h => by simp only [placesOf, Option.some.injEq] at h; subst h; rfl
  | f :: l, r, h => by
    simp only [placesOf] at h
    split at h
    · rename_i n l' hn hl
      cases h
      rw [List.mapM_cons]
      simp only [Sem.run_bind, run_sizeOf hn, Result.andThen_ok, Sem.run_pure, run_mapM_places l l' hl]
    · cases h

theorem sBuild_run {t : TypeId} {parts parts' : List (Nat × Value)} {v : Value} (hs : sBuild P t parts = some v) (hp : PR ρ parts parts') :
    ∃ v', (Instr.build t ⟨parts'⟩).run P w = .ok v' w ∧ VR ρ v v' := by
  unfold sBuild at hs
  split at hs
  · rename_i hk
    split at hs
    · rename_i z fields hz hu
      split at hs
      · rename_i places hpl
        cases hf : Instr.fill (places[·]?) z.cells parts with
        | none => rw [hf] at hs; cases hs
        | some cells =>
          rw [hf] at hs
          simp only [Option.map_some, Option.some.injEq] at hs
          subst hs
          obtain ⟨h1, h2⟩ := run_zero (w := w) hz
          have hzz : VRL ρ z.cells.toList z.cells.toList := by
            have := VR.of_plain ρ z h2
            cases z <;> first | exact .cons this .nil | (cases this; assumption)
          obtain ⟨r', h3, h4⟩ := fill_rel hp hk hzz hf
          refine ⟨.agg r', ?_, .agg h4⟩
          unfold Instr.build
          have hm := run_mapM_places (w := w) fields.toList places hpl
          simp only [Sem.run_bind, h1, Result.andThen_ok, run_underlying hu, Array.mapM_eq_mapM_toList, Sem.run_map, hm]
          have : (fun x : Nat => (List.toArray places)[x]?) = (fun x : Nat => places[x]?) := by funext x; simp
          simp only [this, h3, Sem.run_pure]
      · cases hs
    · rename_i z len elem hz hu
      split at hs
      · rename_i size hsz
        cases hf : Instr.fill (fun i => some (i * size, size)) z.cells parts with
        | none => rw [hf] at hs; cases hs
        | some cells =>
          rw [hf] at hs
          simp only [Option.map_some, Option.some.injEq] at hs
          subst hs
          obtain ⟨h1, h2⟩ := run_zero (w := w) hz
          have hzz : VRL ρ z.cells.toList z.cells.toList := by
            have := VR.of_plain ρ z h2
            cases z <;> first | exact .cons this .nil | (cases this; assumption)
          obtain ⟨r', h3, h4⟩ := fill_rel hp hk hzz hf
          refine ⟨.agg r', ?_, .agg h4⟩
          unfold Instr.build
          simp only [Sem.run_bind, h1, Result.andThen_ok, run_underlying hu, run_sizeOf hsz, h3, Sem.run_pure]
      · cases hs
    · cases hs
  · cases hs

end
end Go.Mini
