/- Mini, part 11: append. -/
import Derived.Test.YtfobiikidbffgaaGreatDoorM10
namespace Go.Mini

section
variable {ρ ρ' : Ren} {A A' : AS} {w : World} {P : Program}

theorem zerosOf_some {u : TypeId} {zs : Bool} (h : zerosOf P u = some zs) : (zs = true ∧ ∃ k, P.underlying u = some (.int k)) ∨ (zs = false ∧ ((∃ e, P.underlying u = some (.slice e)) ∨ P.underlying u = some .string)) := by
  unfold zerosOf at h
  split at h <;> cases h
  · rename_i k hk; exact .inl ⟨rfl, k, hk⟩
  · rename_i e hk; exact .inr ⟨rfl, .inl ⟨e, hk⟩⟩
  · rename_i hk; exact .inr ⟨rfl, .inr hk⟩

/-- What append's second argument yields. -/
theorem appSrc_run (h : HR P ρ A.get A.nx w) {u : TypeId} {zs : Bool} {i : TypeInfo} {z x x' : Value} {new : List Value} {n size bytes : Nat} (hz : zerosOf P u = some zs) (hi1 : i.size = size) (hi2 : i.bytes = bytes) (hi3 : i.zero = some z) (hp : plain z = true)
    (hzl : (vcells z).length = size) (hnl : new.length = n * size) (hs : appSrc zs z size bytes A x = some (new, n)) (hx : VR ρ x x') :
    ∃ news newd, VRL ρ new news ∧ VRL ρ new newd ∧ Sr P i u x' n news newd w := by
  rcases zerosOf_some hz with ⟨rfl, k, hk⟩ | ⟨rfl, hk⟩
  · unfold appSrc at hs
    simp only [if_true] at hs
    split at hs
    · rename_i m
      cases hx
      split at hs
      · rename_i hc
        obtain ⟨h0, h1, h2⟩ := hc
        cases hs
        have hab : appendBound = 35184372088832 := rfl
        have e0 : (m.toNat : Int) = m := Int.toNat_of_nonneg h0
        refine ⟨_, _, zeroCells_rel hp _, zeroCells_rel hp _, ?_⟩
        have := Sr.ofZeros (P := P) (w := w) (i := i) (tx := u) (k := k) (m := m.toNat) (z := z) hk hi3 (by rw [hi1, ← hzl, ← vcells_cells]; simp) (by omega) (by rw [e0, hi2]; rw [hab] at h1; omega)
        rwa [e0] at this
      · cases hs
    · cases hs
  · unfold appSrc at hs
    simp only [Bool.false_eq_true, if_false] at hs
    obtain ⟨h1, h2⟩ := src_run (P := P) h hs hx
    obtain ⟨l1, h3, h4⟩ := h2 n (Nat.le_refl _)
    obtain ⟨h1d, h2d⟩ := src_run (P := P) h.drew hs hx
    obtain ⟨l2, h5, h6⟩ := h2d n (Nat.le_refl _)
    rw [List.take_of_length_le (by omega)] at h4 h6
    subst hi1
    exact ⟨l1, l2, h4, h6, Sr.ofSrc hk h1 h3 h5⟩

/-- The new row of an append that outgrew its room. -/
theorem grow_rel (h : HR P ρ A.get A.nx w) {e : TypeId} {old new : List Value} {olds : Array Value} {newd : List Value} {z : Value} {size len n cap : Nat} (hsz : sizeT P e = some size) (hzl : (vcells z).length = size)
    (ho : VRL ρ old olds.toList) (hn : VRL ρ new newd) (hol : old.length = len * size) (hnl : new.length = n * size) :
    ∃ ρ', ST P ρ A.get A.nx w ρ' (A.push (.cells (old ++ new) e)).get (A.nx + 1) (w.drew.alloc (.cells (olds ++ newd.toArray ++ Builtin.zeroCells z.cells (grownCap w (len + n) cap e - (len + n))) e)) ∧
      ρ' A.nx = some (w.heap.size, 0, grownCap w (len + n) cap e) := by
  have hge := grownCap_ge w (len + n) cap e
  have hzs : z.cells.size = size := by rw [← hzl, ← vcells_cells]; simp
  have l1 := ho.length
  have l2 := hn.length
  have hsize : (olds ++ newd.toArray ++ Builtin.zeroCells z.cells (grownCap w (len + n) cap e - (len + n))).size = grownCap w (len + n) cap e * size := by
    simp only [Array.size_append, zeroCells_size, hzs]
    simp only [Array.length_toList] at l1
    rw [l1, hol]
    simp only [List.size_toArray]
    rw [l2, hnl, ← Nat.add_mul, ← Nat.add_mul]
    congr 1; omega
  have hv : VRL ρ (old ++ new) ((olds ++ newd.toArray ++ Builtin.zeroCells z.cells (grownCap w (len + n) cap e - (len + n))).toList.take (old ++ new).length) := by
    have : (olds ++ newd.toArray ++ Builtin.zeroCells z.cells (grownCap w (len + n) cap e - (len + n))).toList.take (old ++ new).length = olds.toList ++ newd := by
      simp only [Array.toList_append]
      rw [List.take_append_of_le_length (by simp at l1 l2 ⊢; omega), List.take_of_length_le (by simp at l1 l2 ⊢; omega)]
    rw [this]; exact ho.append hn
  obtain ⟨ρ', h3, h4, h5⟩ := newRow_rel (P := P) (A := A) h.drew (e := e) (grownCap w (len + n) cap e) (fun z' hz' => by rw [hsz] at hz'; cases hz'; rw [hsize]; exact Nat.le_refl _)
    (by rw [hsize]; simp only [List.length_append, hol, hnl, ← Nat.add_mul]; exact Nat.mul_le_mul_right _ hge) hv
  exact ⟨ρ', ST.trans h.lt (ST.drew h) h4, h5⟩

theorem room_fits {need old b : Nat} (h : old < need) (hb : need * b ≤ appendBound) : Builtin.nextslicecap need old * b ≤ 281474976710656 := by
  have h1 : Builtin.nextslicecap need old * b ≤ 2 * need * b := Nat.mul_le_mul_right _ (Room.nextslicecap_le' h)
  have hab : appendBound = 35184372088832 := rfl
  rw [Nat.mul_assoc] at h1
  omega

/-- A row whose room was not known turns out to have room. -/
theorem room_rel (h : HR P ρ A.get A.nx w) {i b : Nat} {d : Nat × Nat} {c : List Value} {e : TypeId} {size len n : Nat} {old new news : List Value} (hi : ρ i = some (b, d)) (hg : A.get i = some (.cells c e)) (hsz : sizeT P e = some size)
    (hroom : len + n ≤ d.2) (hol : A.loadN i 0 (len * size) = some old) (hnl : new.length = n * size) (h1 : new.all one = true) (hn : VRL ρ new news) :
    ∃ w' ρ', (storeCells ⟨b, d.1 + len * size, none⟩ news).run P w = .ok () w' ∧ ST P ρ A.get A.nx w ρ' ((A.kill i).push (.cells (old ++ new) e)).get (A.nx + 1) w' ∧ ρ' A.nx = some (b, d) := by
  obtain ⟨c', fz, h2, hf, h3, h4, hk⟩ := h.row hi hg
  obtain ⟨c0, e0, k1, k2, rfl⟩ := loadN_get hol
  rw [hg] at k1; cases k1
  have hks := hk size hsz
  have hl := hn.length
  have hcap : (len + n) * size ≤ d.2 * size := Nat.mul_le_mul_right _ hroom
  rw [Nat.add_mul] at hcap
  obtain ⟨c2, r1, r2, r3⟩ := run_storeCells (P := P) news 0 w c' h2 hf (hn.one_of h1) (o := d.1 + len * size) (by omega)
  have hlc : ((c.drop 0).take (len * size)).length = len * size := by simp; omega
  have hlen : ((c.drop 0).take (len * size) ++ new).length = len * size + n * size := by rw [List.length_append, hlc, hnl]
  have hwin : (c2.toList.drop d.1).take (len * size + n * size) = ((c'.toList.drop d.1).take (len * size)) ++ news := by
    rw [r3, Nat.add_zero, show d.1 + len * size = len * size + d.1 by omega, splice_window _ _ _ _ _ (by simp; omega) (by omega)]
    unfold splice
    rw [List.take_take, show min (len * size) (len * size + n * size) = len * size by omega]
    have hend : ((c'.toList.drop d.1).take (len * size + n * size)).drop (len * size + news.length) = [] := List.drop_of_length_le (by rw [hl, hnl]; exact List.length_take_le _ _)
    rw [hend, List.append_nil]
  have hrow : VRL ρ ((c.drop 0).take (len * size) ++ new) ((c2.toList.drop d.1).take ((c.drop 0).take (len * size) ++ new).length) := by
    rw [hlen, hwin]
    refine VRL.append ?_ hn
    have := h4.take (len * size)
    rw [List.take_take, show min (len * size) c.length = len * size by omega] at this
    simpa using this
  obtain ⟨k3, k4⟩ := ST.handOn (g' := ((A.kill i).push (.cells ((c.drop 0).take (len * size) ++ new) e)).get) h hi (by rw [hg]; simp) (ob := .cells c2 e fz) (.cells d (by rw [hlen, r2]; omega) (by unfold NF at *; rw [r2]; exact hf) hrow (fun z hz => by rw [r2]; exact hk z hz))
    (fun j => by
      rw [AS.get_push, AS.nx_kill]
      by_cases c : j = A.nx
      · rw [if_pos c, if_pos c]
      · rw [if_neg c, if_neg c, AS.get_kill])
  exact ⟨_, _, r1, k3, k4⟩

theorem sAppend_run (h : HR P ρ A.get A.nx w) {t u ty : TypeId} {s s' x x' : Value} {o : OR} (hs : sAppend P t u A s x = some (o, A')) (hsv : VR ρ s s') (hx : VR ρ x x') :
    ∃ v, o = .val v ∧ Does P ρ A w (Builtin.append_ #[t, u] ty #[s', x']) v A' := by
  unfold sAppend at hs
  split at hs
  · rename_i e zs hu hz
    split at hs
    · rename_i size bytes z hsz hby hze
      split at hs
      · rename_i new n hsrc
        split at hs
        · rename_i hc
          obtain ⟨c1, c2, c3, c4⟩ := hc
          obtain ⟨i, i1, i2, i3, i4, i5⟩ := info_of hsz hby hze
          obtain ⟨news, newd, n1, n2, sr⟩ := appSrc_run (P := P) h hz i2 i3 i4 i5 c1 c2 hsrc hx
          have run := sr.run t ty e z hu i1 i4
          have hab : appendBound = 35184372088832 := rfl
          cases hap : appendA e size bytes A s new n with
          | none => rw [hap] at hs; cases hs
          | some r =>
          rw [hap] at hs
          simp only [Option.map_some, Option.some.injEq, Prod.mk.injEq] at hs
          obtain ⟨rfl, rfl⟩ := hs
          refine ⟨_, rfl, ?_⟩
          unfold appendA at hap
          split at hap
          · -- a nil base
            cases hsv
            split at hap
            · rename_i h0
              cases hap
              subst h0
              exact ⟨_, w, ρ, (run none 0 0).2.1 (Nat.le_refl _) rfl, .slN _ _, ST.refl h⟩
            · rename_i h0
              unfold appendNew at hap
              split at hap
              · rename_i hb
                cases hap
                obtain ⟨ρ', g1, g2⟩ := grow_rel (P := P) h (e := e) (old := []) (olds := #[]) (cap := 0) (len := 0) hsz c1 .nil n2 (by simp) c2
                have r := (run none 0 0).2.2 (by omega) (by rw [i3, Nat.zero_add]; exact room_fits (by omega) hb.1) (by omega) #[] (by simp [Builtin.firstCells])
                refine ⟨_, _, ρ', r, ?_, g1⟩
                have hge := grownCap_ge w (0 + n) 0 e
                rw [Nat.zero_add] at hge g2 ⊢
                exact .sl 0 _ _ _ g2 (.inr ⟨rfl, fun _ => Nat.le_refl _⟩) hge
              · cases hap
          · -- a row
            rename_i b o len cap
            cases hsv with
            | sl _ _ _ c' hi hcc hlc =>
            rename_i rb d
            cases hold : A.loadN b o (len * size) with
            | none => rw [hold] at hap; cases hap
            | some old =>
            rw [hold] at hap
            simp only at hap
            have hol : old.length = len * size := by
              obtain ⟨c, e', q1, q2, rfl⟩ := loadN_get hold
              simp; omega
            have hsrc2 : srcCells size A (.slice (some ⟨b, o, none⟩) len cap) = some (old, len) := by
              show (A.loadN b o (len * size)).map (·, len) = _
              rw [hold]; rfl
            have hsv2 : VR ρ (.slice (some ⟨b, o, none⟩) len cap) (.slice (some ⟨rb, o + d.1, none⟩) len c') := .sl o len cap c' hi hcc hlc
            obtain ⟨_, f2⟩ := src_run (P := P) h.drew hsrc2 hsv2
            obtain ⟨olds, f3, f4⟩ := f2 len (Nat.le_refl _)
            rw [List.take_of_length_le (by omega)] at f4
            subst i2
            have nw : ∀ (A2 : AS), HR P ρ A2.get A2.nx w → ST P ρ A.get A.nx w ρ A2.get A2.nx w → appendNew e i.size bytes A2 (old ++ new) (len + n) = some r → c' < len + n →
                Does P ρ A w (Builtin.append_ #[t, u] ty #[.slice (some ⟨rb, o + d.1, none⟩) len c', x']) r.1 r.2 := by
              intro A2 h2 st hap hlt
              unfold appendNew at hap
              split at hap
              · rename_i hb
                cases hap
                obtain ⟨ρ', g1, g2⟩ := grow_rel (P := P) h2 (e := e) (old := old) (olds := ⟨olds⟩) (cap := c') (len := len) hsz c1 f4 n2 hol c2
                have r := (run (some ⟨rb, o + d.1, none⟩) len c').2.2 hlt (by rw [i3]; exact room_fits hlt hb.1) (by omega) ⟨olds⟩ f3
                refine ⟨_, _, ρ', r, ?_, ST.trans h.lt st g1⟩
                have hge := grownCap_ge w (len + n) c' e
                exact .sl 0 _ _ _ g2 (.inr ⟨rfl, fun _ => Nat.le_refl _⟩) hge
              · cases hap
            split at hap
            · rename_i hcu
              have hcap : c' = cap := by rcases hcc with ⟨_, q⟩ | ⟨q, _⟩; exact q; omega
              subst hcap
              split at hap
              · rename_i hroom
                cases hst : A.storeN b (o + len * i.size) new with
                | none => rw [hst] at hap; cases hap
                | some A2 =>
                rw [hst] at hap
                simp only [Option.map_some, Option.some.injEq] at hap
                subst hap
                obtain ⟨w', p1, p2⟩ := storeN_rel (P := P) h hi hst n1
                refine ⟨_, w', ρ, (run (some ⟨rb, o + d.1, none⟩) len c').1 hroom _ w' rfl ?_, .sl o _ _ _ hi (.inl ⟨hcu, rfl⟩) hroom, p2⟩
                rw [add_plain, show o + d.1 + len * i.size = o + len * i.size + d.1 by omega]
                exact p1
              · rename_i hroom
                exact nw A h (ST.refl h) hap (by omega)
            · rename_i hcu
              have hcap : cap = unk ∧ (o = 0 → c' ≤ d.2) := by rcases hcc with ⟨q, _⟩ | q; exact absurd q hcu; exact q
              split at hap
              · rename_i c0 e' hcell
                split at hap
                · rename_i hcond
                  obtain ⟨rfl, rfl, _⟩ := hcond
                  have hg := cellsAt_get hcell
                  by_cases hroom : len + n ≤ c'
                  · unfold appendNew at hap
                    split at hap
                    · cases hap
                      have hd2 := hcap.2 rfl
                      obtain ⟨w', ρ', p1, p2, p3⟩ := room_rel (P := P) h hi hg hsz (by omega) hold c2 c3 n1
                      refine ⟨_, w', ρ', (run (some ⟨rb, 0 + d.1, none⟩) len c').1 hroom _ w' rfl ?_, ?_, p2⟩
                      · rw [add_plain, Nat.zero_add]; exact p1
                      · exact .sl 0 _ _ _ p3 (.inr ⟨rfl, fun _ => hd2⟩) hroom
                    · cases hap
                  · have st := ST.kill (g' := (A.kill b).get) h b (fun j => AS.get_kill ..)
                    exact nw (A.kill b) st.hr st hap (by omega)
                · cases hap
              · cases hap
          · cases hap
        · cases hs
      · cases hs
    · cases hs
  · cases hs

end
end Go.Mini
