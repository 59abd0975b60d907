/- Proved here: what composites and appends do; no condition. -/
import Derived.Test.YtbpeidblbebjpaaGreatWd
namespace Go.Mw
set_option linter.unusedVariables false
set_option linter.unusedSimpArgs false
open Go
/-! ## Composites -/
def vcells : Value → List Value
  | .agg cs => cs.toList
  | v => [v]
theorem vcells_eq (v : Value) : v.cells = (vcells v).toArray := by cases v <;> simp [vcells, Value.cells]
def setAll (zs : List (List Value)) : List (Nat × Value) → List (List Value)
  | [] => zs
  | (i, v) :: ps => setAll (zs.set i (vcells v)) ps
/-- Each part has its size. -/
def okp (szs : List Nat) : List (Nat × Value) → Prop
  | [] => True
  | (i, v) :: ps => szs[i]? = some (vcells v).length ∧ okp szs ps
def placesOf : Nat → List Nat → List (Nat × Nat)
  | _, [] => []
  | o, z :: zs => (o, z) :: placesOf (o + z) zs
theorem placesOf_get : ∀ (szs : List Nat) (o i z : Nat), szs[i]? = some z → (placesOf o szs)[i]? = some (o + (szs.take i).sum, z)
  | [], _, i, z, h => by simp at h
  | s :: szs, o, 0, z, h => by simp at h; subst h; simp [placesOf]
  | s :: szs, o, i + 1, z, h => by
    simp only [List.getElem?_cons_succ] at h
    simp [placesOf, placesOf_get szs (o + s) i z h, Nat.add_assoc]
theorem foldl_splice : ∀ (vs : List Value) (k o : Nat) (cs : List Value),
    (vs.zipIdx k).foldl (fun (cs : Array Value) (x : Value × Nat) => cs.setIfInBounds (o + x.2) x.1) cs.toArray = (splice cs (o + k) vs).toArray
  | [], k, o, cs => by simp [splice]
  | v :: vs, k, o, cs => by
    simp only [List.zipIdx_cons, List.foldl_cons, splice]
    rw [List.setIfInBounds_toArray]
    have := foldl_splice vs (k + 1) o (cs.set (o + k) v)
    rw [show o + (k + 1) = o + k + 1 from rfl] at this
    exact this
theorem splice_flat : ∀ (zs : List (List Value)) (i : Nat) (vs : List Value), (zs[i]?).map (·.length) = some vs.length → splice zs.flatten ((zs.map (·.length)).take i).sum vs = (zs.set i vs).flatten
  | [], i, vs, h => by simp at h
  | z :: zs, 0, vs, h => by
    simp at h
    have := splice_mid vs z [] zs.flatten h.symm
    simpa using this
  | z :: zs, i + 1, vs, h => by
    simp only [List.getElem?_cons_succ] at h
    have ih := splice_flat zs i vs h
    simp only [List.flatten_cons, List.map_cons, List.take_succ_cons, List.sum_cons, List.set_cons_succ]
    rw [← ih]
    have key : ∀ (vs : List Value) (l : List Value) (o : Nat), splice (z ++ l) (z.length + o) vs = z ++ splice l o vs := by
      intro vs
      induction vs with
      | nil => intro l o; rfl
      | cons v vs ihv =>
        intro l o
        simp only [splice]
        rw [List.set_append_right _ _ (by omega), show z.length + o - z.length = o by omega]
        exact ihv _ (o + 1)
    exact key vs zs.flatten _
theorem fill_flat {szs : List Nat} {place : Nat → Option (Nat × Nat)} (hp : ∀ i z, szs[i]? = some z → place i = some ((szs.take i).sum, z)) :
    ∀ (ps : List (Nat × Value)) (zs : List (List Value)), zs.map (·.length) = szs → okp szs ps → Instr.fill place zs.flatten.toArray ps = some (setAll zs ps).flatten.toArray
  | [], zs, _, _ => rfl
  | (i, v) :: ps, zs, hz, hk => by
    obtain ⟨h1, h2⟩ := hk
    have hpl := hp i _ h1
    have hi : (zs[i]?).map (·.length) = some (vcells v).length := by rw [← List.getElem?_map, hz]; exact h1
    have hlen : (szs.take i).sum + (vcells v).length ≤ zs.flatten.length := by
      have hfl : zs.flatten.length = szs.sum := by rw [List.length_flatten]; exact congrArg List.sum hz
      rw [hfl]
      have : szs = szs.take i ++ szs.drop i := (List.take_append_drop i szs).symm
      have hs : szs.sum = (szs.take i).sum + (szs.drop i).sum := by rw [← List.sum_append, List.take_append_drop]
      rw [hs]
      have hlt := (List.getElem?_eq_some_iff.1 h1).1
      rw [List.drop_eq_getElem_cons hlt]
      have := (List.getElem?_eq_some_iff.1 h1).2
      simp only [List.sum_cons, this]
      omega
    unfold Instr.fill
    simp only [hpl, vcells_eq v, List.size_toArray]
    have hc : ¬ ((vcells v).length ≠ (vcells v).length || (szs.take i).sum + (vcells v).length > zs.flatten.length) = true := by
      rw [List.length_flatten] at hlen
      simp; omega
    rw [if_neg hc]
    have hf := foldl_splice (vcells v) 0 (szs.take i).sum zs.flatten
    simp only [Nat.add_zero] at hf
    have : ((vcells v).toArray.zipIdx.foldl (fun cs x => cs.setIfInBounds ((szs.take i).sum + x.snd) x.fst) zs.flatten.toArray) = (zs.set i (vcells v)).flatten.toArray := by
      rw [← splice_flat zs i (vcells v) hi, hz, ← hf]
      simp
    rw [this]
    exact fill_flat hp ps _ (by
      rw [List.map_set]
      apply List.ext_getElem?; intro j
      rw [List.getElem?_set]
      split
      · rename_i e; subst e
        have hlt := (List.getElem?_eq_some_iff.1 h1).1
        rw [if_pos (by rw [hz]; exact hlt), h1]
      · rw [hz]) h2
def evp (e : Env) : List (Nat × Operand) → Option (List (Nat × Value))
  | [] => some []
  | (i, x) :: l => match ev e x, evp e l with
    | some v, some vs => some ((i, v) :: vs)
    | _, _ => none
section
variable {P : Program} {n : Nat} {e : Env} {h : Heap} {d : Option Tmp} {t : TypeId} {p : String} {af : Array Edge} {gd : Option (Nat × Bool)} {x y c : Operand} {T U : TypeId}
theorem Sat.evp {a : Act} (ha : Sat n e a) : ∀ {l : List (Nat × Operand)} {vs : List (Nat × Value)}, Mw.evp e l = some vs → l.map (fun (i, x) => (i, a.eval x)) = vs := by
  intro l
  induction l with
  | nil => intro vs h; simpa [Mw.evp] using h
  | cons x l ih =>
    obtain ⟨i, x⟩ := x
    intro vs h
    simp only [Mw.evp] at h
    cases hx : Mw.ev e x with
    | none => rw [hx] at h; simp at h
    | some v =>
      cases hl : Mw.evp e l with
      | none => rw [hx, hl] at h; simp at h
      | some us =>
        rw [hx, hl] at h
        simp only [Option.some.injEq] at h
        subst h
        simp [ha.ev hx, ih hl]
theorem yBuild {parts : Array (Nat × Operand)} {z : Value} {out : List Value} {ps : List (Nat × Value)} (szs : List Nat) (zs : List (List Value)) (hz : ∀ w, (zeroValue T).run P w = .ok z w) (hzc : z.cells = zs.flatten.toArray)
    (hpl : ∃ fs, P.underlying T = some (.struct fs) ∧ ∀ w, Sem.run P (fs.mapM fun f => do pure (f.offset, ← sizeOf f.type)) w = .ok (placesOf 0 szs).toArray w) (hs : zs.map (·.length) = szs)
    (hev : evp e parts.toList = some ps) (hk : okp szs ps) (hc : (setAll zs ps).flatten = out) : Yl P n e ⟨d, .build T parts, t, p, af, gd⟩ (.agg out.toArray) h := fun a w ha _ => by
  obtain ⟨fs, hu, hm⟩ := hpl
  have hparts : (parts.map fun (i, x) => (i, a.eval x)) = ps.toArray := by apply Array.ext'; simpa using ha.evp hev
  have hf := fill_flat (place := ((placesOf 0 szs).toArray[·]?)) (fun i z hi => by have := placesOf_get szs 0 i z hi; simpa using this) ps zs hs hk
  subst hc
  simp only [execOp, hparts, Instr.build, Sem.run_bind, hz w, Result.andThen_ok, hzc, run_underlying hu w, hm w, Sem.run_pure]
  rw [hf]
  rfl
theorem eBuildSlice {len : Nat} {parts : Array (Nat × Operand)} {z : Value} {E size : Nat} {out : List Value} {ps : List (Nat × Value)} (hu : P.underlying T = some (.slice E)) (hsz : ∀ w, (sizeOf E).run P w = .ok size w)
    (zs : List (List Value)) (hz : ∀ w, (zeroValue E).run P w = .ok z w) (hle : Nat.ble (len * size) (2 ^ 24) = true) (hz0 : ((Array.range (len * size)).map (z.cells[· % z.cells.size]!)) = zs.flatten.toArray) (h0 : Nat.beq (len * size) 0 = false) (hs : zs.map (·.length) = List.replicate len size)
    (hev : evp e parts.toList = some ps) (hk : okp (List.replicate len size) ps) (hc : (setAll zs ps).flatten = out) :
    Ef P n e ⟨d, .buildSlice T len parts, t, p, af, gd⟩ (fun v h' => v = .slice (some ⟨h.size, 0, none⟩) len len ∧ h' = h.push (.cells out.toArray E (0, 0))) h := fun a w ha hw => by
  subst hw
  have hparts : (parts.map fun (i, x) => (i, a.eval x)) = ps.toArray := by apply Array.ext'; simpa using ha.evp hev
  have hsum : ∀ i, ((List.replicate len size).take i).sum = min i len * size := fun i => by
    rw [List.take_replicate, List.sum_replicate_nat]
  have hf := fill_flat (szs := List.replicate len size) (place := fun i => some (i * size, size)) (fun i z hi => by
    have hlt := (List.getElem?_eq_some_iff.1 hi).1
    simp at hlt
    rw [hsum, Nat.min_eq_left (Nat.le_of_lt hlt)]
    simp [hlt] at hi
    subst hi; rfl) ps zs hs hk
  have hn0 : ¬ (len * size = 0) := fun e => by rw [e] at h0; cases h0
  have hle' : ¬ (len * size > 2 ^ 24) := Nat.not_lt_of_le (Nat.le_of_ble_eq_true hle)
  refine .inl ⟨.slice (some ⟨w.heap.size, 0, none⟩) len len, { w with heap := w.heap.push (.cells out.toArray E (0, 0)) }, ?_, ⟨rfl, rfl⟩, rfl, rfl⟩
  subst hc
  simp only [execOp, hparts, Instr.buildSlice, Sem.run_bind, Result.andThen_ok, run_underlying hu w, hsz w, Sem.run_pure, hle', hn0, if_false, hz w]
  rw [hz0, hf]
  simp [newRow]
end

/-! ## append -/
section
variable {P : Program} {n : Nat} {e : Env} {h : Heap} {d : Option Tmp} {t : TypeId} {p : String} {af : Array Edge} {gd : Option (Nat × Bool)} {x y : Operand} {T E : TypeId}
/-- What is appended: cells that are read. -/
def Src {α : Type} (k : Kd α) (I : Nat → Prop) (h : Heap) (u : Value) (ys : List α) : Prop :=
  (∃ a, u = .slice a 0 0 ∧ ys = []) ∨ ∃ b off cap cs, u = .slice (some ⟨b, off, none⟩) ys.length cap ∧ rows k I h cs ys ∧ Rd h b off cs
theorem Src.sl {α : Type} {k : Kd α} {I : Nat → Prop} {u : Value} {ys : List α} (r : SlR k I h u ys) : Src k I h u ys := by
  rcases r with ⟨a, rfl, rfl⟩ | ⟨b, off, cap, cs, rfl, _, _, h3, h4⟩
  · exact .inl ⟨a, rfl, rfl⟩
  · exact .inr ⟨b, off, cap, cs, rfl, h3, h4.rd⟩
theorem Src.own {α : Type} {k : Kd α} {I : Nat → Prop} {u : Value} {ys : List α} {T' : TypeId} (r : Own k T' h I u ys) : Src k I h u ys := by
  obtain ⟨cs, hr, ⟨rfl, rfl⟩ | ⟨g, cap, cur, rfl, h1, _, _, _, h5⟩⟩ := r
  · exact .inl ⟨none, rfl, rfl⟩
  · refine .inr ⟨g, 0, cap, cs, rfl, hr, ?_⟩
    subst h5
    exact (Cells.of_take (I := fun _ => True) trivial h1).rd
theorem Src.box {α : Type} {k : Kd α} {I : Nat → Prop} {ys : List α} {b T' : Nat} {cs : List Value} {m c : Nat} (r : Box h b T' cs) (hr : rows k I h cs ys) (hm : ys.length = m) : Src k I h (.slice (some ⟨b, 0, none⟩) m c) ys := by
  subst hm
  exact .inr ⟨b, 0, c, cs, rfl, hr, r.all⟩

theorem eAppend {α : Type} {k : Kd α} {I : Nat → Prop} {v u z : Value} {xs ys : List α} {i : TypeInfo} {bytes : Nat}
    (ht : P.underlying T = some (.slice E)) (hi : P.types[E]? = some i) (hz : i.zero = some z) (hsize : i.size = k.sz) (hby : i.bytes = bytes) (hzs : z.cells.size = k.sz) (hsz : Nat.ble 1 k.sz = true) (hb0 : Nat.ble 1 bytes = true)
    (hx : ev e x = some v) (hy : ev e y = some u) (own : Own k E h I v xs) (src : Src k I h u ys) (hdis : ∀ b, I b → b < h.size ∧ some b ≠ v.ownBlock)
    (hlim : (xs.length + ys.length) * bytes ≤ 140737488355328) :
    Ef P n e ⟨d, .call ⟨.builtin .append, #[x, y], #[T, T]⟩, t, p, af, gd⟩ (fun v' h' => Own k E h' I v' (xs ++ ys) ∧ Stp [v.ownBlock] h h' ∧ (v'.ownBlock = v.ownBlock ∨ New h h' v'.ownBlock)) h := by
  intro a w ha hw
  subst hw
  have hi : P.info? E = some i := by unfold Tables.info?; rw [if_pos (Array.getElem?_eq_some_iff.1 hi).1]; exact hi
  have hb0' : 0 < bytes := Nat.le_of_ble_eq_true hb0
  have hsz' : 0 < k.sz := Nat.le_of_ble_eq_true hsz
  have hlim' : xs.length + ys.length ≤ 140737488355328 := Nat.le_trans (Nat.le_mul_of_pos_right _ hb0') hlim
  have hexec : ∀ r, (Builtin.append_ #[T, T] t #[v, u]).run P w = r → (execOp a.eval ⟨d, .call ⟨.builtin .append, #[x, y], #[T, T]⟩, t, p, af, gd⟩).run P w = r.andThen fun v w => .ok (.value v) w := by
    intro r hr
    simp only [execOp, resolve, invoke, builtin, List.map_toArray, List.map_cons, List.map_nil, ha.ev hx, ha.ev hy, Sem.run_bind, Sem.run_pure, Result.andThen_ok, hr]
  -- the whole of the proof: a run, and what it leaves
  have fin : ∀ v' w', (Builtin.append_ #[T, T] t #[v, u]).run P w = .ok v' w' → w.grownBy w' v.ownBlock → (v'.ownBlock = v.ownBlock ∨ New w.heap w'.heap v'.ownBlock) →
      (∀ cs ds, rows k I w.heap cs xs → rows k I w.heap ds ys → rows k I w'.heap (cs ++ ds) (xs ++ ys) → True) →
      (Tr I w.heap I w'.heap → Own k E w'.heap I v' (xs ++ ys)) →
      (∃ v' w', (execOp a.eval ⟨d, .call ⟨.builtin .append, #[x, y], #[T, T]⟩, t, p, af, gd⟩).run P w = .ok (.value v') w' ∧ (Own k E w'.heap I v' (xs ++ ys) ∧ Stp [v.ownBlock] w.heap w'.heap ∧ (v'.ownBlock = v.ownBlock ∨ New w.heap w'.heap v'.ownBlock)) ∧ Same w w') := by
    intro v' w' hr hg hn _ ho
    have hs : Stp [v.ownBlock] w.heap w'.heap := ⟨hg.size, fun b hb hne => hg.block b hb (by simpa using hne)⟩
    refine ⟨v', w', by rw [hexec _ hr]; rfl, ⟨ho ?_, hs, hn⟩, hg.os, hg.output⟩
    exact fun b hb => ⟨hb, hg.block b (hdis b hb).1 (hdis b hb).2⟩
  refine .inl ?_
  obtain ⟨cs, hr, own⟩ := own
  have hcl := hr.len
  rcases src with ⟨ua, rfl, rfl⟩ | ⟨ub, uo, uc, ds, rfl, hds, hrd⟩
  · -- nothing is appended
    have hsame : (Builtin.append_ #[T, T] t #[v, .slice ua 0 0]).run P w = .ok v w := by
      rcases own with ⟨rfl, rfl⟩ | ⟨g, cap, cur, rfl, h1, h2, h3, h4, h5⟩
      · cases ua <;> simp [Builtin.append_, run_underlying ht, sizeOf, typeInfo, hi, Builtin.lenOf, Builtin.firstCells, loadCells, loadCellsFrom]
      · cases ua <;> simp [Builtin.append_, run_underlying ht, sizeOf, typeInfo, hi, Builtin.lenOf, Builtin.firstCells, h2, storeCells, loadCells, loadCellsFrom]
    refine fin v w hsame ⟨rfl, rfl, rfl, Nat.le_refl _, fun _ _ _ => rfl⟩ (.inl rfl) (fun _ _ _ _ _ => trivial) fun _ => ?_
    rw [List.append_nil]
    exact ⟨cs, hr, own⟩
  · have hdl := hds.len
    have hnews : ∀ j u, ds[j]? = some u → w.cell? ((⟨ub, uo, none⟩ : Addr).add j) = some u := fun j u hj => by rw [Addr.add_at]; exact hrd.cell hj
    have h1s : ∀ u ∈ ds, u.oneCell' = true := fun u hu => by rw [← one_eq]; exact ones_mem hds.one u hu
    have hdl' : ds.length = ys.length * i.size := by rw [hdl, hsize]
    rcases own with ⟨rfl, rfl⟩ | ⟨g, cap, cur, rfl, hg, hnc, hcm, hcs, htake⟩
    · have hcs0 : cs = [] := hr
      subst hcs0
      by_cases hm : ys.length = 0
      · have hy0 : ys = [] := List.length_eq_zero_iff.1 hm
        subst hy0
        have hds0 : ds = [] := hds
        subst hds0
        have hrun : (Builtin.append_ #[T, T] t #[.slice none 0 0, .slice (some ⟨ub, uo, none⟩) 0 uc]).run P w = .ok (.slice none 0 0) w := by
          simp [Builtin.append_, run_underlying ht, sizeOf, typeInfo, hi, Builtin.lenOf, Builtin.firstCells, loadCells, loadCellsFrom]
        exact fin _ _ hrun ⟨rfl, rfl, rfl, Nat.le_refl _, fun _ _ _ => rfl⟩ (.inl rfl) (fun _ _ _ _ _ => trivial) fun _ => Own.nil
      · have hrun := run_append_nil (P := P) w T t E i z ht hi hz ⟨ub, uo, none⟩ ys.length uc ds hdl' hnews (by omega) (by omega) (by rw [hby]; simp only [List.length_nil, Nat.zero_add] at hlim; omega)
        refine fin _ _ hrun ⟨rfl, rfl, rfl, by simp, fun k hk _ => heap_alloc_old w.drew _ k hk⟩ (.inr ?_) (fun _ _ _ _ _ => trivial) fun tr => ?_
        · intro b hb
          simp only [Value.ownBlock, Option.some.injEq] at hb
          subst hb
          exact ⟨Nat.le_refl _, by simp⟩
        · have hge := grownCap_ge w ys.length 0 E
          have hcm : grownCap w ys.length 0 E ≤ maxLen := grownCap_le_maxLen w ys.length 0 E (by simp only [maxLen]; omega)
          refine ⟨ds, by simpa using hds.mono tr, .inr ⟨w.heap.size, grownCap w ys.length 0 E, _, by simp, heap_alloc_new w.drew _, by simpa using hge, by simpa [maxLen] using hcm, ?_, ?_⟩⟩
          · simp only [Array.size_append, List.size_toArray, size_zeroCells, hzs, hdl, ← Nat.add_mul]
            congr 1; omega
          · simp only [Array.toList_append, List.nil_append]
            rw [← hdl]; exact List.take_left
    · by_cases hroom : xs.length + ys.length ≤ cap
      · have hfit : xs.length * i.size + ds.length ≤ cur.size := by rw [hdl', hsize, hcs, ← Nat.add_mul]; exact Nat.mul_le_mul_right _ hroom
        have hrun := run_append_room (P := P) w T t E i ht hi g xs.length cap cur hg ⟨ub, uo, none⟩ ys.length uc ds hdl' hnews h1s hroom hfit
        refine fin _ _ hrun ⟨rfl, rfl, rfl, by simp, fun k _ hk => setRow_other w g k _ (fun e => hk (by simp [Value.ownBlock, e]))⟩ (.inl rfl) (fun _ _ _ _ _ => trivial) fun tr => ?_
        refine ⟨cs ++ ds, rows.append (hds.mono tr) (hr.mono tr), .inr ⟨g, cap, _, by simp, setRow_heap w g cur _ E _ hg, by simpa using hroom, hcm, ?_, ?_⟩⟩
        · rw [hsize] at hfit ⊢
          simp only [List.size_toArray, List.length_append, List.length_take, List.length_drop, Array.length_toList]
          omega
        · rw [hsize, htake]
          have : (xs ++ ys).length * k.sz = (cs ++ ds).length := by rw [List.length_append, List.length_append, hcl, hdl, Nat.add_mul]
          rw [this]
          exact List.take_left
      · have holds : ∀ j u, cs[j]? = some u → w.cell? ((⟨g, 0, none⟩ : Addr).add j) = some u := fun j u hj => by
          rw [Addr.add_at]
          subst htake
          have := (Cells.of_take (I := fun _ => True) (k := xs.length * k.sz) trivial hg).rd
          exact this.cell hj
        have hlo : cs.length = xs.length * i.size := by rw [hcl, hsize]
        have hrun := run_append_grow (P := P) w T t E i z ht hi hz ⟨g, 0, none⟩ xs.length cap cs hlo holds ⟨ub, uo, none⟩ ys.length uc ds hdl' hnews (by omega) (by omega) (growslice_fits (by omega) (by rw [hby]; exact hlim))
        refine fin _ _ hrun ⟨rfl, rfl, rfl, by simp, fun k hk _ => heap_alloc_old w.drew _ k hk⟩ (.inr ?_) (fun _ _ _ _ _ => trivial) fun tr => ?_
        · intro b hb
          simp only [Value.ownBlock, Option.some.injEq] at hb
          subst hb
          exact ⟨Nat.le_refl _, by simp⟩
        · have hge := grownCap_ge w (xs.length + ys.length) cap E
          have hcm' : grownCap w (xs.length + ys.length) cap E ≤ maxLen := grownCap_le_maxLen w _ cap E (by simp only [maxLen]; omega)
          refine ⟨cs ++ ds, rows.append (hds.mono tr) (hr.mono tr), .inr ⟨w.heap.size, grownCap w (xs.length + ys.length) cap E, _, by simp, heap_alloc_new w.drew _, by simpa using hge, by simpa [maxLen] using hcm', ?_, ?_⟩⟩
          · simp only [Array.size_append, List.size_toArray, size_zeroCells, hzs, hcl, hdl, ← Nat.add_mul]
            congr 1; omega
          · simp only [Array.toList_append, List.append_assoc]
            have : (xs ++ ys).length * k.sz = (cs ++ ds).length := by rw [List.length_append, List.length_append, hcl, hdl, Nat.add_mul]
            rw [this, ← List.append_assoc]
            exact List.take_left
theorem St.addNone {h0 : Heap} {I0 I : Nat → Prop} {X0 M : List (Option Nat)} (s : St X0 h0 I0 h I M) : St X0 h0 I0 h I (none :: M) := by
  have hm : ∀ m, some m ∈ (none :: M) → some m ∈ M := fun m hm => by simpa using hm
  refine ⟨s.ib, s.sub, s.low, fun m h => s.mb m (hm m h), fun m h => s.mg m (hm m h), fun m h => s.dis m (hm m h), fun i j m hi hj => ?_, s.stp⟩
  cases i with
  | zero => simp at hi
  | succ i =>
    cases j with
    | zero => simp at hj
    | succ j => simp only [List.getElem?_cons_succ] at hi hj; rw [s.nd i j m hi hj]
/-- A row that was just built. -/
theorem Own.row {α : Type} {k : Kd α} {I : Nat → Prop} {b m : Nat} {cs : List Value} {ys : List α} (r : Box h b E cs) (hr : rows k I h cs ys) (hm : ys.length = m) (hle : Nat.ble m 9223372036854775807 = true) : Own k E h I (.slice (some ⟨b, 0, none⟩) m m) ys := by
  subst hm
  refine ⟨cs, hr, .inr ⟨b, _, cs.toArray, rfl, r, Nat.le_refl _, Nat.le_of_ble_eq_true hle, by simpa using hr.len, ?_⟩⟩
  rw [← hr.len]; simp
theorem eBuildSlice0 {parts : Array (Nat × Operand)} {size : Nat} (hu : P.underlying T = some (.slice E)) (hsz : ∀ w, (sizeOf E).run P w = .ok size w) (hp : parts.toList = []) :
    Ef P n e ⟨d, .buildSlice T 0 parts, t, p, af, gd⟩ (fun v h' => v = .slice (some ⟨h.size, 0, none⟩) 0 0 ∧ h' = h.push (.cells ([] : List Value).toArray E (0, 0))) h := fun a w ha hw => by
  subst hw
  have hparts : (parts.map fun (i, x) => (i, a.eval x)) = #[] := by apply Array.ext'; simp [hp]
  refine .inl ⟨.slice (some ⟨w.heap.size, 0, none⟩) 0 0, { w with heap := w.heap.push (.cells ([] : List Value).toArray E (0, 0)) }, ?_, ⟨rfl, rfl⟩, rfl, rfl⟩
  simp only [execOp, hparts, Instr.buildSlice, Sem.run_bind, Result.andThen_ok, run_underlying hu w, hsz w, Sem.run_pure]
  have h0 : Array.range 0 = #[] := rfl
  simp [Instr.fill, newRow, h0]
theorem rows.nil {α : Type} {k : Kd α} {I : Nat → Prop} : rows k I h [] ([] : List α) := rfl
theorem rows.cons {α : Type} {k : Kd α} {I : Nat → Prop} {c cs : List Value} {y : α} {ys : List α} (h1 : k.rp I h c y) (h2 : rows k I h cs ys) : rows k I h (c ++ cs) (y :: ys) := ⟨c, cs, rfl, h1, h2⟩
/-- A list with another one at a place, by an int. -/
def wr {α : Type} (xs : List α) (i : Int) (y : α) : List α := xs.set i.toNat y
theorem arrFit {α : Type} {k : Kd α} {I : Nat → Prop} {m o : Nat} {c : List Value} {xs : List α} {i : Int} (a : (kArr m k).rp I h c xs) (h0 : 0 ≤ i) (hi : i < m) : o + i.toNat * k.sz + k.sz ≤ o + c.length := by
  have := (kArr m k).len a
  rw [this]
  show o + i.toNat * k.sz + k.sz ≤ o + m * k.sz
  have : (i.toNat + 1) * k.sz ≤ m * k.sz := Nat.mul_le_mul_right _ (by omega)
  rw [Nat.add_mul] at this; omega
theorem arrSet {α : Type} {k : Kd α} {I : Nat → Prop} {m : Nat} {c new : List Value} {xs : List α} {y : α} {i : Int} (a : (kArr m k).rp I h c xs) (h0 : 0 ≤ i) (hi : i < m) (hy : k.rp I h new y) :
    (kArr m k).rp I h (splice c (0 + i.toNat * k.sz) new) (wr xs i y) := by
  have hlt : i.toNat < xs.length := by rw [a.2]; omega
  obtain ⟨hr, hl⟩ := a
  have : ∃ pre mid post, c = pre ++ (mid ++ post) ∧ pre.length = i.toNat * k.sz ∧ mid.length = k.sz := by
    have key : ∀ (xs : List α) (c : List Value) (j : Nat), rows k I h c xs → j < xs.length → ∃ pre mid post, c = pre ++ (mid ++ post) ∧ pre.length = j * k.sz ∧ mid.length = k.sz := by
      intro xs
      induction xs with
      | nil => intro c j _ hj; simp at hj
      | cons x xs ih =>
        intro c j ⟨c1, c2, e, h1, h2⟩ hj
        cases j with
        | zero => exact ⟨[], c1, c2, by simpa using e, by simp, k.len h1⟩
        | succ j =>
          obtain ⟨pre, mid, post, e2, hp, hm⟩ := ih c2 j h2 (by simpa using hj)
          exact ⟨c1 ++ pre, mid, post, by subst e; subst e2; simp, by simp [k.len h1, hp, Nat.succ_mul, Nat.add_comm], hm⟩
    exact key xs c _ hr hlt
  obtain ⟨pre, mid, post, rfl, hp, hm⟩ := this
  have hs := splice_mid new mid pre post (by rw [hm, k.len hy])
  rw [Nat.zero_add, ← hp, hs]
  exact ⟨hr.set hy i.toNat hlt hp hm, by simp [wr, hl]⟩
def rdB (s : List UInt8) (i : Int) : Int := ((s.getD i.toNat 0).toNat : Int)
theorem yIdxStr {s : List UInt8} {k : IntKind} {i : Int} (hu : P.underlying T = some .string) (hx : ev e x = some (.string ⟨s.toArray⟩)) (hy : ev e y = some (.int k i)) (h0 : 0 ≤ i) (hi : i < s.length) :
    Yl P n e ⟨d, .index T x y, t, p, af, gd⟩ (.int .u8 (rdB s i)) h := fun a w ha _ => by
  have hlt : i.toNat < s.length := by omega
  have hg : (⟨s.toArray⟩ : ByteArray)[i.toNat]? = some s[i.toNat] := by
    have hsz : i.toNat < (⟨s.toArray⟩ : ByteArray).size := by
      show i.toNat < s.toArray.size
      rw [List.size_toArray]; exact hlt
    show decidableGetElem? _ _ = _
    unfold decidableGetElem?
    rw [dif_pos hsz]
    rfl
  simp [execOp, Instr.index, asIntOf, ha.ev hx, ha.ev hy, run_underlying hu w, h0, hg, rdB, List.getElem?_eq_getElem hlt]
theorem St.at_ {h0 : Heap} {I0 I : Nat → Prop} {X0 M : List (Option Nat)} (s : St X0 h0 I0 h I M) (i : Nat) {o : Option Nat} {b : Nat} (e : some b = o) (hi : M[i]? = some o) : b < h.size := s.mb b (by rw [e]; exact List.mem_of_getElem? hi)
theorem St.disOf {h0 : Heap} {I0 I : Nat → Prop} {X0 M : List (Option Nat)} (s : St X0 h0 I0 h I M) (i : Nat) {o : Option Nat} (hi : M[i]? = some o) : ∀ b, I b → b < h.size ∧ some b ≠ o := fun b hb =>
  ⟨s.ib b hb, fun e => s.dis b (by rw [e]; exact List.mem_of_getElem? hi) hb⟩
end
end Go.Mw
