/- Maps from numbers to numbers or truth values: what the operations do. No condition on any program. -/
import Derived.Test.YtonjbhdfimcedaaRegion
namespace Go.Proofs.Ytonjbhdfimcedaa
set_option linter.unusedSimpArgs false
set_option linter.unusedSectionVars false
set_option linter.unusedVariables false
/-- A map: are its values truth values (1: true)? Its keys and values, in the order in which they came. -/
structure MpD where
  bl : Bool
  es : List (Int × Int)
def mpV : Bool → Int → Value
  | true, v => .bool (decide (v = 1))
  | false, v => .int .i64 v
def mpGet : List (Int × Int) → Int → Option Int
  | [], _ => none
  | (a, v) :: l, n => if n = a then some v else mpGet l n
def mpSet : List (Int × Int) → Int → Int → List (Int × Int)
  | [], n, v => [(n, v)]
  | (a, u) :: l, n, v => if n = a then (n, v) :: l else (a, u) :: mpSet l n v
def mpDel : List (Int × Int) → Int → List (Int × Int)
  | [], _ => []
  | (a, u) :: l, n => if n = a then l else (a, u) :: mpDel l n
def mpE (d : MpD) (arr : Array MapEntry) (cl : Nat) : Prop := arr.toList.map (fun e => (e.key, e.val)) = (d.es.map fun p => (.int .i64 p.1, mpV d.bl p.2)) ∧ (arr.toList.map (·.born)).Nodup ∧ (∀ e ∈ arr.toList, e.born < cl) ∧ (d.es.map Prod.fst).Nodup
theorem map_erase {α β : Type} (f : α → β) : ∀ (l : List α) (j : Nat), (l.eraseIdx j).map f = (l.map f).eraseIdx j
  | [], _ => rfl
  | _ :: _, 0 => rfl
  | a :: l, j + 1 => by simp [map_erase f l j]
theorem findNow_mp {bl : Bool} {n : Int} : ∀ {l : List MapEntry} {es : List (Int × Int)} {i : Nat}, l.map (fun e => (e.key, e.val)) = es.map (fun p => (Value.int .i64 p.1, mpV bl p.2)) →
    (mpGet es n = none ∧ Instr.findNow (.int .i64) (.int .i64 n) l i = some none ∧ (mpSet es n = fun v => es ++ [(n, v)]) ∧ mpDel es n = es) ∨
    ∃ j v e, mpGet es n = some v ∧ Instr.findNow (.int .i64) (.int .i64 n) l i = some (some (i + j, mpV bl v)) ∧ l[j]? = some e ∧ e.key = .int .i64 n ∧ (∀ u, mpSet es n u = es.set j (n, u)) ∧ mpDel es n = es.eraseIdx j
  | [], [], i, _ => .inl ⟨rfl, rfl, rfl, rfl⟩
  | [], _ :: _, i, h => by simp at h
  | _ :: _, [], i, h => by simp at h
  | e :: l, (a, v) :: es, i, h => by
    simp only [List.map_cons, List.cons.injEq, Prod.mk.injEq] at h
    obtain ⟨⟨h1, h2⟩, h3⟩ := h
    by_cases hn : n = a
    · subst hn
      refine .inr ⟨0, v, e, by simp [mpGet], ?_, rfl, h1, fun u => by simp [mpSet], by simp [mpDel]⟩
      unfold Instr.findNow
      simp [Instr.sameNow, h1, h2]
    · have hs : Instr.findNow (.int .i64) (.int .i64 n) (e :: l) i = Instr.findNow (.int .i64) (.int .i64 n) l (i + 1) := by
        conv => lhs; unfold Instr.findNow
        have hb : (n == a) = false := by simpa using hn
        simp [Instr.sameNow, h1, hb]
      rcases findNow_mp (n := n) (i := i + 1) h3 with ⟨g1, g2, g3, g6⟩ | ⟨j, u, e', g1, g2, g3, g4, g5, g6⟩
      · refine .inl ⟨by simp [mpGet, hn, g1], by rw [hs, g2], funext fun w => ?_, by simp [mpDel, hn, g6]⟩
        simp [mpSet, hn, g3]
      · refine .inr ⟨j + 1, u, e', by simp [mpGet, hn, g1], by rw [hs, g2, show i + 1 + j = i + (j + 1) by omega], by simpa using g3, g4, fun w => ?_, by simp [mpDel, hn, g6]⟩
        simp [mpSet, hn, g5]
theorem mpSet_mem : ∀ {l : List (Int × Int)} {n u a : Int}, a ∈ (mpSet l n u).map Prod.fst → a ∈ l.map Prod.fst ∨ a = n
  | [], n, u, a, h => by simpa [mpSet] using h
  | (b, v) :: l, n, u, a, h => by
    unfold mpSet at h
    split at h
    · rename_i e
      simp only [List.map_cons, List.mem_cons] at h ⊢
      rcases h with h | h
      · exact .inr h
      · exact .inl (.inr h)
    · simp only [List.map_cons, List.mem_cons] at h ⊢
      rcases h with h | h
      · exact .inl (.inl h)
      · rcases mpSet_mem h with h | h
        · exact .inl (.inr h)
        · exact .inr h
theorem mpSet_keys : ∀ {l : List (Int × Int)} {n u : Int}, (l.map Prod.fst).Nodup → ((mpSet l n u).map Prod.fst).Nodup
  | [], n, u, h => by simp [mpSet]
  | (a, v) :: l, n, u, h => by
    simp only [List.map_cons, List.nodup_cons] at h
    unfold mpSet
    split
    · rename_i e; subst e; simpa using h
    · rename_i e
      simp only [List.map_cons, List.nodup_cons]
      exact ⟨fun q => (mpSet_mem q).elim h.1 (fun q => e q.symm), mpSet_keys h.2⟩
theorem mpDel_sub : ∀ {l : List (Int × Int)} {n : Int}, (mpDel l n).Sublist l
  | [], n => List.Sublist.refl _
  | (a, v) :: l, n => by
    unfold mpDel
    split
    · exact List.sublist_cons_self _ _
    · exact mpDel_sub.cons_cons _
theorem mpDel_keys {l : List (Int × Int)} {n : Int} (h : (l.map Prod.fst).Nodup) : ((mpDel l n).map Prod.fst).Nodup := (mpDel_sub.map Prod.fst).nodup h
theorem born_modify {f : MapEntry → MapEntry} (hf : ∀ e, (f e).born = e.born) {arr : Array MapEntry} {j : Nat} : (arr.modify j f).toList.map (·.born) = arr.toList.map (·.born) := by
  apply List.ext_getElem?
  intro q
  simp only [Array.toList_modify, List.getElem?_map, List.getElem?_modify]
  split <;> cases arr.toList[q]? <;> simp [hf]
theorem lt_of_map {l l' : List MapEntry} {cl : Nat} (e : l.map (·.born) = l'.map (·.born)) (h : ∀ x ∈ l', x.born < cl) : ∀ x ∈ l, x.born < cl := by
  intro x hx
  have : x.born ∈ l.map (·.born) := List.mem_map_of_mem hx
  rw [e] at this
  obtain ⟨y, hy, q⟩ := List.mem_map.1 this
  rw [← q]; exact h y hy
section
variable {P : Program} {w : World} {T kt e b n : Nat} {arr : Array MapEntry} {cl : Nat} {d : MpD}
theorem mp_getObj (hb : w.heap[b]? = some (.map arr cl)) : (getObj b).run P w = .ok (.map arr cl) w := by
  simp [getObj, Sem.run, hb]
theorem mp_setObj (o : Obj) (hb : w.heap[b]? = some (.map arr cl)) : (setObj b o).run P w = .ok () { w with heap := w.heap.setIfInBounds b o } := by
  simp [setObj, Sem.run, hb]
theorem mp_under {t : TypeId} {x : TypeDesc} (h : P.underlying t = some x) : (underlying t).run P w = .ok x w := by
  show (match P.underlying t with | some d => (pure d : Sem TypeDesc) | none => stuck _).run P w = _
  rw [h]; rfl
theorem mp_checkKey {emp : Bool} {m : Nat} {z : Int} (hk : P.underlying kt = some (.int .i64)) : (Instr.checkKey emp (m + 1) kt (.int .i64 z)).run P w = .ok () w := by
  unfold Instr.checkKey
  simp only [Sem.run_bind, mp_under hk, Result.andThen_ok]
  rfl
theorem mp_findKey {z : Int} {es : List MapEntry} {r : Option (Nat × Value)} (hk : P.underlying kt = some (.int .i64)) (h : Instr.findNow (.int .i64) (.int .i64 z) es 0 = some r) : (Instr.findKey kt (.int .i64 z) es).run P w = .ok r w := by
  unfold Instr.findKey
  simp only [Sem.run_bind, mp_under hk, Result.andThen_ok, h, Sem.run_pure]
theorem mp_look {z : Int} (hT : P.underlying T = some (.map kt e)) (hk : P.underlying kt = some (.int .i64)) (hz : (zeroValue e).run P w = .ok (mpV d.bl 0) w) (hb : w.heap[b]? = some (.map arr cl)) (he : mpE d arr cl) (c : Bool) :
    (Instr.lookup T (.map (some b)) (.int .i64 z) c).run P w = .ok (if c then .tuple #[mpV d.bl ((mpGet d.es z).getD 0), .bool (mpGet d.es z).isSome] else mpV d.bl ((mpGet d.es z).getD 0)) w := by
  unfold Instr.lookup
  simp only [Sem.run_bind, mp_under hT, Result.andThen_ok, mp_getObj hb, Sem.run_pure, mp_checkKey hk]
  rcases findNow_mp (n := z) (i := 0) he.1 with ⟨g1, g2, _⟩ | ⟨j, v, e', g1, g2, _⟩
  · simp only [mp_findKey hk g2, Result.andThen_ok, Sem.run_bind, hz, Sem.run_pure, g1]
    rfl
  · simp only [mp_findKey hk g2, Result.andThen_ok, Sem.run_bind, Sem.run_pure, g1]
    rfl
theorem mp_put {z u : Int} (hT : P.underlying T = some (.map kt e)) (hk : P.underlying kt = some (.int .i64)) (hb : w.heap[b]? = some (.map arr cl)) (he : mpE d arr cl) :
    ∃ arr' cl', (Instr.mapUpdate T (.map (some b)) (.int .i64 z) (mpV d.bl u)).run P w = .ok () { w with heap := w.heap.setIfInBounds b (.map arr' cl') } ∧ mpE ⟨d.bl, mpSet d.es z u⟩ arr' cl' := by
  unfold Instr.mapUpdate
  simp only [Sem.run_bind, mp_under hT, Result.andThen_ok, mp_getObj hb, Sem.run_pure, mp_checkKey hk]
  rcases findNow_mp (n := z) (i := 0) he.1 with ⟨g1, g2, g3, _⟩ | ⟨j, v, e', g1, g2, g3, g4, g5, _⟩
  · simp only [mp_findKey hk g2, Result.andThen_ok, mp_setObj _ hb]
    refine ⟨_, _, rfl, ?_⟩
    obtain ⟨h1, h2, h3, h4⟩ := he
    refine ⟨by rw [g3]; simp [h1], ?_, ?_, mpSet_keys h4⟩
    · simp only [Array.toList_push, List.map_append, List.map_cons, List.map_nil]
      refine List.nodup_append.2 ⟨h2, by simp, ?_⟩
      intro a ha b hb e
      simp only [List.mem_singleton] at hb
      obtain ⟨y, hy, q⟩ := List.mem_map.1 ha
      have := h3 y hy
      omega
    · intro e he
      simp only [Array.toList_push, List.mem_append, List.mem_singleton] at he
      rcases he with he | rfl
      · have := h3 e he; omega
      · exact Nat.lt_succ_self _
  · simp only [mp_findKey hk g2, Result.andThen_ok, Sem.run_bind, Nat.zero_add]
    have hk2 : (((arr[j]?).map (·.key)).getD (.int .i64 z)) = .int .i64 z := by
      have : arr[j]? = some e' := by rw [← g3]; simp
      rw [this]; simp [g4]
    simp only [hk2]
    have hs : (Instr.keyThatStays (.int .i64 z) (.int .i64 z)).run P w = .ok (.int .i64 z) w := by
      unfold Instr.keyThatStays
      rw [if_pos (by simp [Instr.sameBits])]; rfl
    simp only [hs, Result.andThen_ok, mp_setObj _ hb]
    refine ⟨_, _, rfl, ?_⟩
    obtain ⟨h1, h2, h3, h4⟩ := he
    have hbm : (arr.modify j fun e => { e with key := .int .i64 z, val := mpV d.bl u }).toList.map (·.born) = arr.toList.map (·.born) := born_modify (f := fun e => { e with key := .int .i64 z, val := mpV d.bl u }) (fun _ => rfl)
    refine ⟨?_, by rw [hbm]; exact h2, lt_of_map hbm h3, mpSet_keys h4⟩
    rw [g5]
    simp only [Array.toList_modify]
    rw [List.map_set, ← h1]
    apply List.ext_getElem?
    intro q
    simp only [List.getElem?_map, List.getElem?_modify, List.getElem?_set]
    by_cases hq : j = q
    · subst hq
      have hlt := (List.getElem?_eq_some_iff.1 g3).1
      simp [g3, hlt]
      simpa using hlt
    · simp [hq]
theorem mp_del {z : Int} {ts : Array TypeId} {ty : TypeId} (h0 : ts[0]? = some T) (hT : P.underlying T = some (.map kt e)) (hk : P.underlying kt = some (.int .i64)) (hb : w.heap[b]? = some (.map arr cl)) (he : mpE d arr cl) :
    ∃ arr' cl', (Builtin.delete_ ts ty #[.map (some b), .int .i64 z]).run P w = .ok (.tuple #[]) { w with heap := w.heap.setIfInBounds b (.map arr' cl') } ∧ mpE ⟨d.bl, mpDel d.es z⟩ arr' cl' := by
  unfold Builtin.delete_
  have a0 : (#[Value.map (some b), .int .i64 z] : Array Value)[0]? = some (.map (some b)) := rfl
  have a1 : (#[Value.map (some b), .int .i64 z] : Array Value)[1]? = some (.int .i64 z) := rfl
  simp only [h0, a0, a1, Sem.run_bind, mp_under hT, Result.andThen_ok, mp_getObj hb, mp_checkKey hk, Sem.run_pure]
  rcases findNow_mp (n := z) (i := 0) he.1 with ⟨g1, g2, g3, g6⟩ | ⟨j, v, e', g1, g2, g3, g4, g5, g6⟩
  · simp only [mp_findKey hk g2, Result.andThen_ok, mp_setObj _ hb, Sem.run_bind, Sem.run_pure]
    refine ⟨_, _, rfl, ?_⟩
    obtain ⟨h1, h2, h3, h4⟩ := he
    exact ⟨by rw [g6]; exact h1, h2, h3, mpDel_keys h4⟩
  · simp only [mp_findKey hk g2, Result.andThen_ok, Sem.run_bind, Nat.zero_add, mp_setObj _ hb, Sem.run_pure]
    refine ⟨_, _, rfl, ?_⟩
    have hlt : j < arr.size := by have := (List.getElem?_eq_some_iff.1 g3).1; simpa using this
    obtain ⟨h1, h2, h3, h4⟩ := he
    have hsub : (arr.eraseIdx j hlt).toList.Sublist arr.toList := by rw [Array.toList_eraseIdx]; exact List.eraseIdx_sublist _ _
    refine ⟨?_, ?_, ?_, mpDel_keys h4⟩
    · rw [g6]
      simp only [Array.eraseIdxIfInBounds, hlt, dif_pos, Array.toList_eraseIdx]
      rw [map_erase, map_erase, h1]
    · simp only [Array.eraseIdxIfInBounds, hlt, dif_pos]
      exact (hsub.map _).nodup h2
    · simp only [Array.eraseIdxIfInBounds, hlt, dif_pos]
      exact fun e he => h3 e (hsub.subset he)
end
end Go.Proofs.Ytonjbhdfimcedaa
