/- Mini, part 9: conversions, builtins, functions without a body. -/
import Derived.Test.YtfobiikidbffgaaGreatDoorM8
namespace Go.Mini

section
variable {ρ ρ' : Ren} {A A' : AS} {w : World} {P : Program}

theorem bytes_ints : ∀ {c c' : List Value} {bs : List UInt8}, VRL ρ c c' → bytesOf c = some bs → ∃ ns : List Int, c' = ns.map (Value.int .u8) ∧ bs = ns.map fun n => UInt8.ofNat n.toNat
  | _, _, bs, .nil, h => by simp only [bytesOf, Option.some.injEq] at h; subst h; exact ⟨[], rfl, rfl⟩
  | v :: l, _, bs, .cons hv t, h => by
    unfold bytesOf at h
    split at h
    · rename_i heq; cases heq
    · rename_i n r heq
      simp only [List.cons.injEq] at heq
      obtain ⟨rfl, rfl⟩ := heq
      cases hv
      cases hr : bytesOf l with
      | none => rw [hr] at h; cases h
      | some bs' =>
        rw [hr] at h
        simp only [Option.map_some, Option.some.injEq] at h
        subst h
        obtain ⟨ns, h1, h2⟩ := bytes_ints t hr
        exact ⟨n :: ns, by rw [h1]; rfl, by rw [h2]; rfl⟩
    · cases h

theorem foldl_push (ns : List Int) : ∀ acc : ByteArray, ns.foldl (fun r n => r.push (UInt8.ofNat n.toNat)) acc = ⟨⟨acc.data.toList ++ ns.map fun n => UInt8.ofNat n.toNat⟩⟩ := by
  induction ns with
  | nil => intro acc; simp
  | cons n ns ih =>
    intro acc
    rw [List.foldl_cons, ih]
    simp [ByteArray.push]

theorem freeze_cells {b n : Nat} {c : Array Value} {e : TypeId} {fz : Nat × Nat} (h : w.heap[b]? = some (.cells c e fz)) :
    w.freeze ⟨b, n, none⟩ 1 = withB w b (.cells c e (if fz.1 == fz.2 then (n, n + 1) else (min fz.1 n, max fz.2 (n + 1)))) := by
  unfold World.freeze withB
  rw [if_neg (by omega)]
  congr 1
  apply Array.ext_getElem?
  intro i
  have hb : b < w.heap.size := (Array.getElem?_eq_some_iff.1 h).1
  by_cases hi : b = i
  · subst hi
    rw [Array.getElem?_modify, if_pos rfl, h, Array.getElem?_setIfInBounds_self_of_lt hb]
    rfl
  · rw [Array.getElem?_modify, if_neg hi, Array.getElem?_setIfInBounds_ne hi]

theorem nf_freeze {c : Array Value} {fz : Nat × Nat} (h : NF c fz) : NF c (if fz.1 == fz.2 then (c.size, c.size + 1) else (min fz.1 c.size, max fz.2 (c.size + 1))) := by
  unfold NF at *
  split
  · exact .inr (Nat.le_refl _)
  · rename_i hne
    simp only [beq_iff_eq] at hne
    rcases h with h | h
    · exact absurd h hne
    · right; simp; omega

theorem run_mark_row {b o : Nat} {c : Array Value} {e : TypeId} {fz : Nat × Nat} (h : w.heap[b]? = some (.cells c e fz)) :
    (markStringish ⟨b, o, none⟩).run P w = .ok () (w.freeze ⟨b, c.size, none⟩ 1) := by
  unfold markStringish
  have : w.shape? b = some (e, c.size) := by unfold World.shape?; rw [h]
  simp only [Sem.run_bind, run_shape, this, Result.andThen_ok, run_freeze]

theorem sMarked_run (h : HR P ρ A.get A.nx w) {src dst s e : TypeId} {x x' : Value} {o : OR} (hus : P.underlying src = some (.slice s)) (hud : P.underlying dst = some (.slice e)) (hs : sMarked P (src == dst) e x A = some (o, A')) (hx : VR ρ x x') :
    ∃ v, o = .val v ∧ Does P ρ A w (convert src dst x') v A' := by
  unfold sMarked at hs
  split at hs
  · rename_i b off n cap hu
    cases hx with
    | sl _ _ _ c' hi hc hn =>
    split at hs
    · rename_i row hrow
      split at hs
      · rename_i heq
        cases hs
        obtain ⟨cr, er⟩ := row
        obtain ⟨c2, fz, a1, a2, a3, a4, a5⟩ := h.row hi (cellsAt_get hrow)
        have hst := ST.change (g' := A.get) h hi (by rw [cellsAt_get hrow]; simp) (.cells _ a3 (nf_freeze a2) a4 a5) (fun j => by
          by_cases c : j = b
          · rw [if_pos c, c]; exact cellsAt_get hrow
          · rw [if_neg c])
        refine ⟨_, rfl, _, _, ρ, ?_, .sl _ _ _ c' hi hc hn, hst⟩
        unfold convert
        simp only [Sem.run_bind, run_underlying hus, run_underlying hud, run_underlying hu, Result.andThen_ok, heq, run_mark_row a1, Sem.run_pure, freeze_cells a1]
      · cases hs
    · cases hs
  · cases hs

def byteCells (s : ByteArray) (k : Nat) : Array Value := (s.data.map fun b => (Value.int .u8 b.toNat : Value)) ++ Array.replicate (k - s.size) (.int .u8 0)

/-- A row of bytes with a mark behind it. -/
theorem row_marked (h : HR P ρ A.get A.nx w) {e : TypeId} {c : List Value} {c' : Array Value} (k : Nat) (hk : ∀ z, sizeT P e = some z → k * z ≤ c'.size) (hl : c.length ≤ c'.size) (hv : VRL ρ c (c'.toList.take c.length)) :
    ∃ ρ' w', (do let a ← newRow e c'; markStringish a; pure a : Sem Addr).run P w = .ok ⟨w.heap.size, 0, none⟩ w' ∧ ST P ρ A.get A.nx w ρ' (A.push (.cells c e)).get (A.nx + 1) w' ∧ ρ' A.nx = some (w.heap.size, 0, k) := by
  obtain ⟨ρ', h1, h2, h3⟩ := newRow_rel h k hk hl hv
  have hb : (w.alloc (.cells c' e)).heap[w.heap.size]? = some (.cells c' e (0, 0)) := by show (w.heap.push _)[w.heap.size]? = _; simp
  have hst := ST.change (g' := (A.push (.cells c e)).get) h2.hr h3 (by rw [AS.get_push, if_pos rfl]; simp) (o := .cells c e) (ob := .cells c' e (if (0, 0).1 == (0, 0).2 then (c'.size, c'.size + 1) else (min (0, 0).1 c'.size, max (0, 0).2 (c'.size + 1))))
    (.cells (0, k) (by simpa using hl) (nf_freeze (fz := (0, 0)) (.inl rfl)) (by simpa using hv.mono h2.ext) (fun z hz => by have := hk z hz; simpa using this)) (fun j => by
      by_cases c : j = A.nx
      · rw [if_pos c, c, AS.get_push, if_pos rfl]
      · rw [if_neg c])
  refine ⟨ρ', _, ?_, h2.trans h.lt hst, h3⟩
  simp only [Sem.run_bind, h1, Result.andThen_ok, run_mark_row hb, Sem.run_pure, freeze_cells hb]

theorem sStr2B_run (h : HR P ρ A.get A.nx w) {src dst e : TypeId} {s : ByteArray} {o : OR} (hus : P.underlying src = some .string) (hud : P.underlying dst = some (.slice e)) (hs : sStr2B P e s A = some (o, A')) :
    ∃ v, o = .val v ∧ Does P ρ A w (convert src dst (.string s)) v A' := by
  unfold sStr2B at hs
  split at hs
  · rename_i hu hsz
    cases hs
    have hcut : ∃ cap, s.size ≤ cap ∧ (choose (.appendCap s.size 0 e)).run P w = .ok cap w.drew := by
      refine ⟨_, ?_, by rw [run_choose]; simp only [Question.forced, Bool.false_eq_true, if_false]; rfl⟩
      simp only [Question.cut]; omega
    obtain ⟨cap, hc, hrun⟩ := hcut
    have hd := h.drew
    have hv : VRL ρ (s.data.toList.map fun b => Value.int .u8 b.toNat) ((byteCells s cap).toList.take (s.data.toList.map fun b => (Value.int .u8 b.toNat : Value)).length) := by
      unfold byteCells
      rw [Array.toList_append, Array.toList_map, List.take_left]
      exact VRL.map _ _ (fun b => .int _ _) _
    have hsize : (byteCells s cap).size = cap := by
      unfold byteCells
      have : s.data.size = s.size := rfl
      simp; omega
    obtain ⟨ρ', w', h1, h2, h3⟩ := row_marked (A := A) (P := P) hd (e := e) cap (fun z hz => by rw [hsz] at hz; cases hz; rw [hsize]; omega) (by rw [hsize]; have : s.data.size = s.size := rfl; simp; omega) hv
    refine ⟨_, rfl, .slice (some ⟨w.heap.size, 0 + (0, cap).1, none⟩) s.size cap, w', ρ', ?_, .sl 0 _ _ cap h3 (.inr ⟨rfl, fun _ => Nat.le_refl _⟩) hc, (ST.drew h).trans h.lt h2⟩
    simp only [Sem.run_bind] at h1
    unfold convert
    simp only [Sem.run_bind, run_underlying hus, run_underlying hud, run_underlying hu, Result.andThen_ok]
    unfold Conv.stringToBytes
    simp only [Sem.run_bind, hrun, Result.andThen_ok]
    show ((newRow e (byteCells s cap)).run P w.drew).andThen _ = _
    cases hn : (newRow e (byteCells s cap)).run P w.drew with
    | halt x y => rw [hn] at h1; simp at h1
    | ok a w1 =>
      rw [hn] at h1
      simp only [Result.andThen_ok] at h1 ⊢
      cases hm : (markStringish a).run P w1 with
      | halt x y => rw [hm] at h1; simp at h1
      | ok u w2 =>
        rw [hm] at h1
        simp only [Result.andThen_ok, Sem.run_pure, Result.ok.injEq] at h1 ⊢
        obtain ⟨rfl, rfl⟩ := h1
        exact ⟨rfl, rfl⟩
  · cases hs

theorem sB2Str_run (h : HR P ρ A.get A.nx w) {src dst e : TypeId} {x x' : Value} {o : OR} (hus : P.underlying src = some (.slice e)) (hud : P.underlying dst = some .string) (hs : sB2Str P e x A = some (o, A')) (hx : VR ρ x x') :
    ∃ v, o = .val v ∧ Does P ρ A w (convert src dst x') v A' := by
  unfold sB2Str at hs
  split at hs
  · rename_i hu
    split at hs
    · cases hs
      cases hx
      refine ⟨_, rfl, _, w, ρ, ?_, .string _, ST.refl h⟩
      unfold convert
      simp only [Sem.run_bind, run_underlying hus, run_underlying hud, run_underlying hu, Result.andThen_ok]
      rfl
    · rename_i b off n cap
      cases hx with
      | sl _ _ _ c' hi hc hn =>
      cases hl : A.loadN b off n with
      | none => rw [hl] at hs; cases hs
      | some c =>
        rw [hl] at hs
        simp only at hs
        cases hb : bytesOf c with
        | none => rw [hb] at hs; cases hs
        | some bs =>
          rw [hb] at hs
          simp only [Option.map_some, Option.some.injEq, Prod.mk.injEq] at hs
          obtain ⟨rfl, rfl⟩ := hs
          obtain ⟨l', h1, h2⟩ := loadN_rel (P := P) h hi hl
          obtain ⟨ns, rfl, rfl⟩ := bytes_ints h2 hb
          refine ⟨_, rfl, _, w, ρ, ?_, .string _, ST.refl h⟩
          unfold convert
          simp only [Sem.run_bind, run_underlying hus, run_underlying hud, run_underlying hu, Result.andThen_ok]
          rw [run_bytesToString w _ n c' ns h1, foldl_push]
          rfl
    · cases hs
      cases hx
      refine ⟨_, rfl, _, w, ρ, ?_, .string _, ST.refl h⟩
      unfold convert
      simp only [Sem.run_bind, run_underlying hus, run_underlying hud, run_underlying hu, Result.andThen_ok]
      rw [run_bytesToString w _ 0 _ [] rfl]
      rfl
    · cases hs
  · cases hs

theorem sConv_run (h : HR P ρ A.get A.nx w) {src dst : TypeId} {x x' : Value} {o : OR} (hs : sConv P src dst x A = some (o, A')) (hx : VR ρ x x') :
    ∃ v, o = .val v ∧ Does P ρ A w (convert src dst x') v A' := by
  unfold sConv at hs
  split at hs
  · rename_i d k k' n hus hud
    cases hs
    cases hx
    refine ⟨_, rfl, _, w, ρ, ?_, .int _ _, ST.refl h⟩
    unfold convert
    simp only [Sem.run_bind, run_underlying hus, run_underlying hud, Result.andThen_ok]
    rfl
  · rename_i e s hus hud
    cases hx
    exact sStr2B_run h hus hud hs
  · rename_i e hus hud
    exact sB2Str_run h hus hud hs hx
  · rename_i e' e hus hud
    exact sMarked_run h hus hud hs hx
  · rename_i d s hus hud
    cases hs
    cases hx
    refine ⟨_, rfl, _, w, ρ, ?_, .string _, ST.refl h⟩
    unfold convert
    simp only [Sem.run_bind, run_underlying hus, run_underlying hud, Result.andThen_ok]
    rfl
  · rename_i d k n hus hud
    cases hs
    cases hx
    refine ⟨_, rfl, _, w, ρ, ?_, .string _, ST.refl h⟩
    unfold convert
    simp only [Sem.run_bind, run_underlying hus, run_underlying hud, Result.andThen_ok]
    rfl
  · cases hs

end
end Go.Mini
