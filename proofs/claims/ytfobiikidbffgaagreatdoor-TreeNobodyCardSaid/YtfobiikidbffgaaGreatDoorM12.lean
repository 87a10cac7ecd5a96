/- Mini, part 12: builtins; functions without a body; methods. -/
import Derived.Test.YtfobiikidbffgaaGreatDoorM11
namespace Go.Mini

section
variable {ρ ρ' : Ren} {A A' : AS} {w : World} {P : Program}

theorem sLen_run (h : HR P ρ A.get A.nx w) {ats : Array TypeId} {ty : TypeId} {x x' v : Value} (hs : sLen ((ats[0]?).bind P.underlying) A x = some v) (hx : VR ρ x x') :
    (Builtin.len_ ats ty #[x']).run P w = .ok v w ∧ ∃ n, v = goInt n := by
  cases ht : ats[0]? with
  | none => rw [ht] at hs; simp [sLen] at hs
  | some t =>
    rw [ht] at hs
    have key : ∀ {d : TypeDesc} {m : Sem Value}, P.underlying t = some d → m.run P w = .ok v w → (∃ n, v = goInt n) → ((underlying t : Sem TypeDesc) >>= fun _ => m).run P w = .ok v w ∧ ∃ n, v = goInt n := fun hu hm hn =>
      ⟨by rw [Sem.run_bind, run_underlying hu, Result.andThen_ok, hm], hn⟩
    unfold sLen at hs
    unfold Builtin.len_
    simp only [ht, List.getElem?_toArray, List.getElem?_cons_zero]
    split at hs
    · rename_i hu
      cases hs; cases hx
      simp only [Option.bind_some] at hu
      exact ⟨by simp only [Sem.run_bind, run_underlying hu, Result.andThen_ok, Sem.run_pure], _, rfl⟩
    · rename_i e b n c hu
      cases hs
      simp only [Option.bind_some] at hu
      refine ⟨?_, _, rfl⟩
      simp only [Sem.run_bind, run_underlying hu, Result.andThen_ok]
      cases hx <;> rfl
    · rename_i n e _ hu
      cases hs
      simp only [Option.bind_some] at hu
      refine ⟨?_, _, rfl⟩
      simp only [Sem.run_bind, run_underlying hu, Result.andThen_ok, Sem.run_pure]
    · rename_i k e hu
      cases hs; cases hx
      simp only [Option.bind_some] at hu
      refine ⟨?_, _, rfl⟩
      simp only [Sem.run_bind, run_underlying hu, Result.andThen_ok, Sem.run_pure]
    · rename_i k e r hu
      simp only [Option.bind_some] at hu
      cases hx with
      | map hi =>
      split at hs
      · rename_i es clock hg
        cases hs
        obtain ⟨es', h1, h2, _⟩ := h.mapObj hi hg
        refine ⟨?_, _, rfl⟩
        simp only [Sem.run_bind, run_underlying hu, Result.andThen_ok, run_getObj h1 (by simp), Sem.run_pure]
        have := h2.length
        simp only [Array.length_toList] at this
        rw [this]
      · cases hs
    · cases hs

theorem sClear_run (h : HR P ρ A.get A.nx w) {ats : Array TypeId} {ty : TypeId} {x x' : Value} {o : OR} (hs : sClear P ats[0]? A x = some (o, A')) (hx : VR ρ x x') :
    ∃ v, o = .val v ∧ Does P ρ A w (Builtin.clear_ ats ty #[x']) v A' := by
  unfold sClear at hs
  split at hs
  · rename_i e n c hu0
    cases hs; cases hx
    cases ht : ats[0]? with
    | none => rw [ht] at hu0; cases hu0
    | some t =>
      rw [ht] at hu0
      simp only [Option.bind_some] at hu0
      refine ⟨_, rfl, .tuple #[], w, ρ, ?_, .top _, ST.refl h⟩
      unfold Builtin.clear_
      simp only [ht, List.getElem?_toArray, List.getElem?_cons_zero, Sem.run_bind, run_underlying hu0, Result.andThen_ok, Sem.run_pure]
  · rename_i e b o' n cap hu0
    cases ht : ats[0]? with
    | none => rw [ht] at hu0; cases hu0
    | some t =>
      rw [ht] at hu0
      simp only [Option.bind_some] at hu0
      cases hx with
      | sl _ _ _ c' hi hc hn =>
      split at hs
      · rename_i z hz
        cases hst : A.storeN b o' (Builtin.zeroCells z.cells n).toList with
        | none => rw [hst] at hs; cases hs
        | some A2 =>
          rw [hst] at hs
          simp only [Option.map_some, Option.some.injEq, Prod.mk.injEq] at hs
          obtain ⟨rfl, rfl⟩ := hs
          obtain ⟨z1, z2⟩ := run_zero (w := w) hz
          obtain ⟨w', h5, h6⟩ := storeN_rel (P := P) h hi hst (zeroCells_rel z2 n)
          refine ⟨_, rfl, .tuple #[], w', ρ, ?_, .top _, h6⟩
          unfold Builtin.clear_
          simp only [ht, List.getElem?_toArray, List.getElem?_cons_zero, Sem.run_bind, run_underlying hu0, Result.andThen_ok]
          by_cases h0 : n = 0
          · subst h0
            have hzz : (Builtin.zeroCells z.cells 0).toList = [] := by
              have : (Builtin.zeroCells z.cells 0).size = 0 := by rw [zeroCells_size]; simp
              simpa using Array.size_eq_zero_iff.1 this
            rw [hzz] at h5
            cases h5
            simp only [Sem.run_pure]
          · cases n with
            | zero => exact absurd rfl h0
            | succ n => simp only [Sem.run_bind, z1, Result.andThen_ok, h5, Sem.run_pure]
      · cases hs
  · cases hs

theorem minI_run {x y x' y' v : Value} (hs : minI x y = some v) (hx : VR ρ x x') (hy : VR ρ y y') : (Builtin.min2 x' y').run P w = .ok v w ∧ plain v = true := by
  unfold minI at hs
  split at hs
  · cases hs; cases hx; cases hy; exact ⟨rfl, rfl⟩
  · cases hs
theorem maxI_run {x y x' y' v : Value} (hs : maxI x y = some v) (hx : VR ρ x x') (hy : VR ρ y y') : (Builtin.max2 x' y').run P w = .ok v w ∧ plain v = true := by
  unfold maxI at hs
  split at hs
  · cases hs; cases hx; cases hy; exact ⟨rfl, rfl⟩
  · cases hs

theorem foldO_run {f : Value → Value → Option Value} {f' : Value → Value → Sem Value} (hf : ∀ {x y x' y' v : Value}, f x y = some v → VR ρ x x' → VR ρ y y' → (f' x' y').run P w = .ok v w ∧ plain v = true) :
    ∀ {l l' : List Value} {x x' v : Value}, foldO f x l = some v → VR ρ x x' → VRL ρ l l' → ∃ v', (l'.foldlM f' x').run P w = .ok v' w ∧ VR ρ v v'
  | [], _, x, x', v, h, hx, .nil => by simp only [foldO, Option.some.injEq] at h; subst h; exact ⟨x', rfl, hx⟩
  | y :: l, _, x, x', v, h, hx, .cons hy t => by
    simp only [foldO] at h
    cases hz : f x y with
    | none => rw [hz] at h; cases h
    | some z =>
      rw [hz] at h
      simp only [Option.bind_some] at h
      obtain ⟨h1, h2⟩ := hf hz hx hy
      obtain ⟨v', h3, h4⟩ := foldO_run hf h (VR.of_plain ρ z h2) t
      refine ⟨v', ?_, h4⟩
      simp only [List.foldlM_cons, Sem.run_bind, h1, Result.andThen_ok, h3]

theorem sMinMax_run {f : Value → Value → Option Value} {f' : Value → Value → Sem Value} (hf : ∀ {x y x' y' v : Value}, f x y = some v → VR ρ x x' → VR ρ y y' → (f' x' y').run P w = .ok v w ∧ plain v = true)
    {l l' : List Value} {v : Value} (hs : sMinMax f l = some v) (hl : VRL ρ l l') : ∃ x' r', l' = x' :: r' ∧ ∃ v', (r'.foldlM f' x').run P w = .ok v' w ∧ VR ρ v v' := by
  unfold sMinMax at hs
  split at hs
  · cases hs
  · cases hl with
    | cons hx t => exact ⟨_, _, rfl, foldO_run hf hs hx t⟩
  · cases hs

/-! ### Functions without a body -/
theorem run_loadBytes {b : Nat} {c : Array Value} {e : TypeId} {fz : Nat × Nat} (h : w.heap[b]? = some (.cells c e fz)) : ∀ (ns : List Int) (o : Nat) (acc : ByteArray), (c.toList.drop o).take ns.length = ns.map (Value.int .u8) →
    (Extern.Bytes.loadBytes ⟨b, o, none⟩ ns.length acc).run P w = .ok ⟨⟨acc.data.toList ++ ns.map fun n => UInt8.ofNat n.toNat⟩⟩ w
  | [], o, acc, _ => by simp [Extern.Bytes.loadBytes]
  | n :: ns, o, acc, hw => by
    cases hd : c.toList.drop o with
    | nil => rw [hd] at hw; simp at hw
    | cons v r =>
      rw [hd] at hw
      simp only [List.length_cons, List.take_succ_cons, List.map_cons, List.cons.injEq] at hw
      obtain ⟨rfl, hw⟩ := hw
      have hv : c[o]? = some (.int .u8 n) := by
        have : (c.toList.drop o)[0]? = some (.int .u8 n) := by rw [hd]; rfl
        simpa using this
      have hr : r = c.toList.drop (o + 1) := by
        have : (c.toList.drop o).drop 1 = r := by rw [hd]; rfl
        rw [← this, List.drop_drop]
      simp only [List.length_cons, Extern.Bytes.loadBytes, Sem.run_bind, run_load_cell h hv, Result.andThen_ok, add_plain]
      rw [run_loadBytes h ns (o + 1) _ (hr ▸ hw)]
      simp [ByteArray.push]

theorem loadN_row (h : HR P ρ A.get A.nx w) {i b o n : Nat} {d : Nat × Nat} {l : List Value} (hi : ρ i = some (b, d)) (hl : A.loadN i o n = some l) :
    l.length = n ∧ ∃ c' e fz, w.heap[b]? = some (.cells c' e fz) ∧ VRL ρ l ((c'.toList.drop (o + d.1)).take n) := by
  obtain ⟨c, e, h1, h2, rfl⟩ := loadN_get hl
  obtain ⟨c', fz, h3, _, h4, h5, _⟩ := h.row hi h1
  refine ⟨by simp; omega, c', e, fz, h3, ?_⟩
  have := (h5.drop o).take n
  have e1 : ((((c'.toList.drop d.1).take c.length).drop o).take n) = (c'.toList.drop (o + d.1)).take n := by
    rw [List.drop_take, List.take_take, List.drop_drop, Nat.add_comm d.1 o]
    congr 1
    omega
  rwa [e1] at this

/-- The bytes of a string or of a slice. -/
theorem run_bytesOf (h : HR P ρ A.get A.nx w) {x x' : Value} {c : List Value} {n : Nat} {bs : List UInt8} (hs : srcCells 1 A x = some (c, n)) (hb : bytesOf c = some bs) (hx : VR ρ x x') : (Extern.Bytes.bytesOf x').run P w = .ok ⟨⟨bs⟩⟩ w := by
  unfold srcCells at hs
  split at hs
  · rename_i s
    cases hx
    simp only [if_true, Option.some.injEq, Prod.mk.injEq] at hs
    obtain ⟨rfl, rfl⟩ := hs
    have : ∀ l : List UInt8, bytesOf (l.map fun b => (Value.int .u8 b.toNat : Value)) = some l := by
      intro l
      induction l with
      | nil => rfl
      | cons a l ih =>
        have : bytesOf ((a :: l).map fun b => (Value.int .u8 b.toNat : Value)) = (bytesOf (l.map fun b => (Value.int .u8 b.toNat : Value))).map (UInt8.ofNat (a.toNat : Int).toNat :: ·) := rfl
        rw [this, ih]
        simp
    rw [this] at hb
    cases hb
    rfl
  · cases hs
    cases hb
    cases hx
    rfl
  · rename_i b o n' cap
    cases hx with
    | sl _ _ _ c' hi hc hn =>
    cases hl : A.loadN b o (n' * 1) with
    | none => rw [hl] at hs; cases hs
    | some l =>
      rw [hl] at hs
      simp only [Option.map_some, Option.some.injEq, Prod.mk.injEq] at hs
      obtain ⟨rfl, rfl⟩ := hs
      obtain ⟨h0, c2, e, fz, h1, h2⟩ := loadN_row (P := P) h hi hl
      obtain ⟨ns, h3, rfl⟩ := bytes_ints h2 hb
      have hlen : ns.length = n' := by
        have := congrArg List.length h3
        rw [h2.length, h0] at this
        simpa using this.symm
      have := run_loadBytes (P := P) h1 ns _ .empty (by rw [hlen, ← h3, Nat.mul_one])
      rw [hlen] at this
      exact this
  · cases hs
    cases hb
    cases hx
    rfl
  · cases hs

theorem find_idx (p : UInt8 → Bool) (bs : List UInt8) : (List.range bs.length).find? (fun i => p ((⟨⟨bs⟩⟩ : ByteArray)[i]!)) = bs.findIdx? p := by
  have : ∀ (l : List UInt8) (k : Nat) (q : Nat → Bool), (∀ i x, l[i]? = some x → q (k + i) = p x) → (List.range' k l.length).find? q = (l.findIdx? p).map (k + ·) := by
    intro l
    induction l with
    | nil => intro k q _; rfl
    | cons a l ih =>
      intro k q hq
      have h0 := hq 0 a rfl
      simp only [Nat.add_zero] at h0
      simp only [List.length_cons, List.range'_succ, List.find?_cons, List.findIdx?_cons, h0]
      cases ha : p a
      · simp only [Bool.false_eq_true, if_false]
        rw [ih (k + 1) q (fun i x hx => by rw [← hq (i + 1) x (by simpa using hx)]; congr 1; omega)]
        cases l.findIdx? p <;> simp
        omega
      · simp
  rw [List.range_eq_range', this bs 0 _ (fun i x hx => ?_)]
  · cases bs.findIdx? p <;> simp
  · have hi : i < bs.length := (List.getElem?_eq_some_iff.1 hx).1
    have : (⟨⟨bs⟩⟩ : ByteArray)[0 + i]! = x := by
      rw [Nat.zero_add, getElem!_pos (⟨⟨bs⟩⟩ : ByteArray) i hi]
      have := (List.getElem?_eq_some_iff.1 hx).2
      exact this
    rw [this]

theorem idxByte_run (h : HR P ρ A.get A.nx w) {args args' : List Value} {r : CR} (hs : idxByte args A = some (r, A')) (hx : VRL ρ args args') : ∃ v, r = .ret v ∧ Does P ρ A w (Extern.BytealgIndexByte.indexByte ⟨args'⟩) v A' := by
  unfold idxByte at hs
  split at hs
  · rename_i x b
    cases hx with
    | @cons _ xv _ _ hx t =>
    cases t with
    | cons hy t =>
    cases t
    cases hy
    split at hs
    · rename_i c n hsr
      cases hb : bytesOf c with
      | none => rw [hb] at hs; cases hs
      | some bs =>
        rw [hb] at hs
        simp only [Option.map_some, Option.some.injEq, Prod.mk.injEq] at hs
        obtain ⟨rfl, rfl⟩ := hs
        have h1 := run_bytesOf (P := P) h hsr hb hx
        refine ⟨_, rfl, _, w, ρ, ?_, .int _ _, ST.refl h⟩
        change Sem.run P (do
          let b' ← Extern.Bytes.bytesOf xv
          let c' ← Extern.Bytes.asByte (.int .u8 b)
          match (List.range b'.size).find? fun i => b'[i]! == c' with
          | some i => pure (goInt i)
          | none => pure (goInt (-1))) w = _
        simp only [Sem.run_bind, h1, Result.andThen_ok, Extern.Bytes.asByte, Sem.run_pure]
        have hsz : (⟨⟨bs⟩⟩ : ByteArray).size = bs.length := rfl
        rw [hsz, find_idx (fun u => u == b.toNat.toUInt8) bs]
        cases bs.findIdx? (fun u => u == b.toNat.toUInt8) <;> rfl
    · cases hs
  · cases hs

theorem add64_run (h : HR P ρ A.get A.nx w) {args args' : List Value} {r : CR} (hs : add64 args A = some (r, A')) (hx : VRL ρ args args') : ∃ v, r = .ret v ∧ Does P ρ A w (add64Entry ⟨args'⟩) v A' := by
  unfold add64 at hs
  split at hs
  · rename_i k1 x k2 y k3 c
    cases hx with
    | cons hx t =>
    cases t with
    | cons hy t =>
    cases t with
    | cons hz t =>
    cases t; cases hx; cases hy; cases hz
    split at hs
    · cases hs
    · rename_i hc
      cases hs
      refine ⟨_, rfl, _, w, ρ, ?_, .tup (.cons (.int _ _) (.cons (.int _ _) .nil)), ST.refl h⟩
      change Sem.run P (do
        let (x, y, c) ← (do
          let c := (← asInt (.int k3 c)).toNat
          if c > 1 then unsupported (.noEntry ("extern/math/bits." ++ "Add64" ++ ": a carry that is neither 0 nor 1"))
          pure ((← asInt (.int k1 x)).toNat, (← asInt (.int k2 y)).toNat, c) : Sem (Nat × Nat × Nat))
        pure (Extern.MathBitsCarry.pair ((x + y + c) % Extern.MathBitsCarry.m64) ((x + y + c) / Extern.MathBitsCarry.m64))) w = _
      unfold asInt
      simp only [Sem.run_bind, asIntOf_run, Result.andThen_ok, Sem.run_pure, if_neg hc]
      rfl
  · cases hs

end
end Go.Mini
