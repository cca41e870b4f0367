/- Walks over lists, twelfth part: rules for use. No condition on any program. -/
import Derived.Test.YtjhjhjmdbhackaaZ11
import Derived.KernelRfl
namespace Go.Proofs.Ytjhjhjmdbhackaa
set_option linter.unusedSimpArgs false
set_option linter.unusedSectionVars false
set_option linter.unusedVariables false
open Go.RowKit

/-- Entries that say what is known. -/
def sameB (mem : List (Nat × MB)) : List (Nat × MB) → Bool
  | [] => true
  | (k, .deck d) :: l => match find mem k with
    | some (.deck d') => match Nat.beq d d' with
      | true => sameB mem l
      | false => false
    | _ => false
  | _ => false
theorem sameB_find {mem : List (Nat × MB)} : ∀ {mm : List (Nat × MB)}, sameB mem mm = true → ∀ k, find (mm ++ mem) k = find mem k
  | [], _, k => rfl
  | (a, c) :: l, hb, k => by
    cases c <;> first | (simp [sameB] at hb; done) | skip
    case deck d =>
      unfold sameB at hb
      split at hb
      · rename_i d' hd'
        split at hb
        · rename_i he
          have := Nat.eq_of_beq_eq_true he
          subst this
          rw [List.cons_append, find_cons, sameB_find hb k]
          split
          · rename_i e; subst e; exact hd'.symm
          · rfl
        · cases hb
      · cases hb
theorem Ents.memEq {D0 : Nat → Prop} {V : Vl} {e e' : List (Nat × SV)} {M M' : List (Nat × MB)} {r : List (Nat × RO)} {nb : Nat} {w : World} (h : Ents D0 V ⟨e, M, r, nb⟩ w) (hM : ∀ k, find M k = find M' k) : Ents D0 V ⟨e', M', r, nb⟩ w := by
  have lv : ∀ k, Lv V M' k ↔ Lv V M k := fun k => by unfold Lv; simp only [hM]
  have dl : Dl V M' = Dl V M := funext fun b => propext ⟨fun ⟨k, h1, h2⟩ => ⟨k, (lv k).1 h1, h2⟩, fun ⟨k, h1, h2⟩ => ⟨k, (lv k).2 h1, h2⟩⟩
  refine ⟨h.one, fun k m hk => ?_, fun k m hk => h.memOk k m (by rw [hM]; exact hk), fun k q hq => ?_, h.roOk, fun i j hi hj => h.inj i j ((lv i).1 hi) ((lv j).1 hj), fun k hk => h.lt k ((lv k).1 hk)⟩
  · have := h.mem k m (by rw [hM]; exact hk)
    simp only [dl]; exact this
  · have := h.ro k q hq
    simp only [dl]; exact this
theorem Rep.memEq {x : Cx} {V : Vl} {e : List (Nat × SV)} {M M' : List (Nat × MB)} {r : List (Nat × RO)} {nb : Nat} {a : Act} {w : World} (h : Rep x V ⟨e, M, r, nb⟩ a w) (hM : ∀ k, find M k = find M' k) : Rep x V ⟨e, M', r, nb⟩ a w :=
  ⟨h.defers, h.size, h.env, h.envOk, h.ents.memEq hM, h.frame, fun k ⟨m, hm, ha⟩ => h.own k ⟨m, by rw [hM]; exact hm, ha⟩, h.pin, h.d0⟩
section
variable {x : Cx} {ops l : List Oper} {env : List (Nat × SV)} {mem : List (Nat × MB)} {ro : List (Nat × RO)} {nb t : Nat} {K : St → Prop} {ty : TypeId} {pos : String} {after : Array Edge} {g : Option (Nat × Bool)}
/-- A call that makes nothing that is handed back and writes decks alone. -/
theorem q_tripD {f : Operand} {as : Array Operand} {ts : Array TypeId} {gf : FuncId} {caps q aas : List SV} {pre : St} {Z : Type} {ψ : Z → Prop} {res : Z → SV} {post : Z → St} (lo : List (Nat × Nat)) (lr : List (Nat × SV)) {u : Z → SV} {mm : Z → List (Nat × MB)} (T : Trip x.P gf aas pre ψ res post) (hg : goes ops env g = some true) (hf : (⟨env, mem, ro, nb⟩ : St).get f = some (.clo gf caps)) (hq : argsS ⟨env, mem, ro, nb⟩ as.toList = some q)
    (haas : renL (Rn.of lo lr) aas = some (q ++ caps)) (hsub : HSub x (Rn.of lo lr) ⟨env, pre.mem, pre.ro, pre.nb⟩ ⟨env, mem, ro, nb⟩) (hfit : fitB nb lo lr = true)
    (hu : ∀ z, ren (shR (Rn.of lo lr) pre.nb nb) (res z) = some (u z)) (hmm : ∀ z, renMs (shR (Rn.of lo lr) pre.nb nb) (post z).mem = some (mm z)) (hrr : ∀ z, (post z).ro = []) (hall : ∀ z, allK (post z).mem pre.mem = true)
    (hN : ∀ z, (post z).nb = pre.nb) (hok : ∀ z, okV nb (u z) = true) (hsame : ∀ z, sameB mem (mm z) = true) (h1 : Nat.blt t x.n = true)
    (hk : ∀ z, ψ z → Sq x ops l ⟨(t, u z) :: env, mem, ro, nb⟩ K) : Sq x ops (⟨some t, .call ⟨.value f, as, ts⟩, ty, pos, after, g⟩ :: l) ⟨env, mem, ro, nb⟩ K :=
  sq_step (fun s' => ∃ z, ψ z ∧ s' = ⟨(t, u z) :: env, mem, ro, nb⟩) hg (fun hL Q V a w hr => by
    have hokm : ∀ z, okMs nb (mm z) = true := fun z => by
      have key : ∀ l : List (Nat × MB), sameB mem l = true → okMs nb l = true := by
        intro l
        induction l with
        | nil => intro _; rfl
        | cons p l ih =>
          obtain ⟨k, c⟩ := p
          intro hb
          cases c <;> first | (simp [sameB] at hb; done) | skip
          case deck d =>
            unfold sameB at hb
            split at hb
            · rename_i d' hd'
              split at hb
              · rename_i he
                have := Nat.eq_of_beq_eq_true he
                subst this
                obtain ⟨a1, a2⟩ := hr.ents.memOk k _ hd'
                have b1 : Nat.blt k nb = true := by simpa [Nat.blt_eq] using a1
                unfold okMs
                simp only [b1, a2]
                exact ih hb
              · cases hb
            · cases hb
      exact key _ (hsame z)
    refine call_wp (rr := fun _ => []) (N := fun _ => nb) lo lr hf hq T haas hsub hfit hu hmm (fun z => by rw [hrr z]; rfl) hall (fun z => by simp) hok hokm (fun z => rfl) hr fun z V' w' hz hr' ho => ?_
    refine ⟨_, V', ⟨z, hz, rfl⟩, ?_⟩
    have := hr'.memEq (sameB_find (hsame z))
    exact this.put h1 ho) (fun s' ⟨z, hz, e⟩ => by subst e; exact hk z hz)
end
section
variable {x : Cx} {σ : Rn} {nb k : Nat} {e l : List (Nat × MB)}
theorem sm_deck {k' m m' : Nat} (ho : σ.own k = some k') (hf : find e k' = some (.deck m')) (hr : σ.ro m = some (.ro m')) (hk : Nat.blt k nb = true) (hok : Nat.blt m nb = true) (h : SubM σ nb e l) : SubM σ nb e ((k, .deck m) :: l) :=
  sm_cons ho hf (by simp only [renM, hr]) rfl hk hok h
end
theorem get_map {α β : Type} {f : α → β} {l : List α} {i : Nat} {a : α} (h : l[i]? = some a) : (l.map f)[i]? = some (f a) := by rw [List.getElem?_map, h]; rfl
theorem get_at {α : Type} {l : List α} {i : Nat} (h : i < l.length) : l[i]? = some l[i] := List.getElem?_eq_getElem h
theorem get_app_l {α : Type} {l m : List α} {i : Nat} {a : α} (h : l[i]? = some a) : (l ++ m)[i]? = some a := by rw [List.getElem?_append_left (List.getElem?_eq_some_iff.1 h).1]; exact h
theorem get_last {α : Type} {l : List α} {a : α} : (l ++ [a])[l.length]? = some a := by simp
theorem all_map {α : Type} {f : α → List DV} {l : List α} {n : Nat} (h : ∀ a, (f a).length = n) : ∀ (i : Nat) (row : List DV), (l.map f)[i]? = some row → row.length = n := by
  intro i row hr
  rw [List.getElem?_map] at hr
  cases hl : l[i]? with
  | none => simp [hl] at hr
  | some a => simp [hl] at hr; subst hr; exact h a
/-- So many rounds at most. -/
def TrR (x : Cx) (c : Code) (Q : Exit → St → Prop) : Nat → St → Prop
  | 0, _ => False
  | n + 1, s => Tr x c (thenS (TrR x c Q n) Q) s
theorem rounds_of {x : Cx} {Q : Exit → St → Prop} {c : Code} (hL : LayOk x.P x.L) : ∀ (n : Nat) (s : St) (V : Vl) (a : Act) (w : World), TrR x c Q n s → Rep x V s a w → Code.rounds x.P c (QR x Q) n a w
  | 0, _, _, _, _, h, _ => h.elim
  | n + 1, s, V, a, w, h, hr => Go.wp_mono (Tr.run h hL V a w hr) fun e a' w' ⟨s', V', hq, hr'⟩ => by
    cases e with
    | normal => exact rounds_of hL n s' V' a' w' hq hr'
    | _ => exact ⟨s', V', hq, hr'⟩
theorem tr_rounds {x : Cx} {Q : Exit → St → Prop} {s : St} {c : Code} (n : Nat) (h : TrR x c Q n s) : Tr x (.loop c) Q s := ⟨fun hL V a w hr => wp_loop_rounds n (rounds_of hL n s V a w h hr)⟩
theorem k_rounds {x : Cx} {Q : Exit → St → Prop} {s : St} {c : Code} {n : Nat} (h : Tr x c (thenS (TrR x c Q n) Q) s) : TrR x c Q (n + 1) s := h
/-! ### Decks -/
theorem ro_len {D0 : Nat → Prop} {V : Vl} {s : St} {w : World} (h : Ents D0 V s w) {m : Nat} {fz : Bool} {rows : List (List DV)} (hm : find s.ro m = some ⟨fz, rows⟩) : ∃ a c, V.ro m = .slice a rows.length c := by
  rcases h.ro m _ hm with ⟨e, a, c, e2⟩ | ⟨es, b, o, c, cs, t, fz', e2, _⟩
  · simp only at e; subst e; exact ⟨a, c, e2⟩
  · exact ⟨_, c, e2⟩
section
variable {x : Cx} {c : Code} {Q : Exit → St → Prop} {env : List (Nat × SV)} {mem : List (Nat × MB)} {ro : List (Nat × RO)} {nb k m : Nat} {fz : Bool} {rows : List (List DV)}
/-- A deck is looked into. -/
theorem tr_openDeck (hk : find mem k = some (.deck m)) (hm : find ro m = some ⟨fz, rows⟩) (h : ∀ p : Int, 0 ≤ p → p ≤ (rows.length : Int) → Tr x c Q ⟨env, (k, .cells [.ro m, .int .i64 p]) :: mem, ro, nb⟩) : Tr x c Q ⟨env, mem, ro, nb⟩ :=
  ⟨fun hL V a w hr => by
    obtain ⟨t, aa, n, cc, p, h0, h1, h2, h3⟩ := hr.ents.mem k _ hk
    obtain ⟨a', c', e⟩ := ro_len hr.ents hm
    have e' : V.ro m = .slice aa n cc := h1
    rw [e] at e'
    cases e'
    have hok := (hr.ents.memOk k _ hk).2
    exact (h p h2 h3).run hL V a w (hr.upd (m' := .cells [.ro m, .int .i64 p]) hk trivial trivial (by simp only [okM, okL, okV] at hok ⊢; simp [hok]) (Nat.le_refl _) (fun _ _ _ => rfl) ⟨t, h0⟩ ⟨rfl, rfl, rfl⟩)⟩
/-- A deck is closed again. -/
theorem tr_closeDeck (k m : Nat) {p : Int} (hk : find mem k = some (.cells [.ro m, .int .i64 p])) (hm : find ro m = some ⟨fz, rows⟩) (h0 : 0 ≤ p) (h1 : p ≤ (rows.length : Int)) (h : Tr x c Q ⟨env, (k, .deck m) :: mem, ro, nb⟩) : Tr x c Q ⟨env, mem, ro, nb⟩ :=
  ⟨fun hL V a w hr => by
    obtain ⟨t, ht⟩ := hr.ents.mem k _ hk
    obtain ⟨a', c', e⟩ := ro_len hr.ents hm
    have hmn := hr.ents.roOk m _ hm
    exact h.run hL V a w (hr.upd (m' := .deck m) hk trivial trivial (by simpa [okM, Nat.blt_eq] using hmn) (Nat.le_refl _) (fun _ _ _ => rfl) ⟨t, a', rows.length, c', p, ht, e, h0, h1⟩ ⟨rfl, rfl, rfl⟩)⟩
end
def encI (n : Int) : List DV := [.int .i64 n]
/-! ### Sums that fit -/
theorem w64 {n : Int} (h1 : -9223372036854775808 ≤ n) (h2 : n ≤ 9223372036854775807) : IntKind.i64.wrap n = n := by
  show (if (true && decide (n % 18446744073709551616 ≥ 9223372036854775808)) = true then n % 18446744073709551616 - 18446744073709551616 else n % 18446744073709551616) = n
  simp only [Bool.true_and, decide_eq_true_eq]
  split <;> omega
theorem w32 {n : Int} (h1 : -2147483648 ≤ n) (h2 : n ≤ 2147483647) : IntKind.i32.wrap n = n := by
  show (if (true && decide (n % 4294967296 ≥ 2147483648)) = true then n % 4294967296 - 4294967296 else n % 4294967296) = n
  simp only [Bool.true_and, decide_eq_true_eq]
  split <;> omega
theorem wu8 {n : Int} (h1 : 0 ≤ n) (h2 : n ≤ 255) : IntKind.u8.wrap n = n := by
  show n % 256 = n
  omega
theorem wu32 {n : Int} (h1 : 0 ≤ n) (h2 : n ≤ 4294967295) : IntKind.u32.wrap n = n := by
  show n % 4294967296 = n
  omega
theorem wu64 {n : Int} (h1 : 0 ≤ n) (h2 : n ≤ 18446744073709551615) : IntKind.u64.wrap n = n := by
  show n % 18446744073709551616 = n
  omega
theorem ne_of_bne {a b : Int} (h : (a != b) = true) : a ≠ b := by simpa using h
theorem eq_of_bne_false {a b : Int} (h : (a != b) = false) : a = b := by simpa using h
theorem ne_of_beq_false {a b : Int} (h : (a == b) = false) : a ≠ b := by simpa using h
theorem not_t {b : Bool} (h : (!b) = true) : b = false := by simpa using h
theorem not_f {b : Bool} (h : (!b) = false) : b = true := by simpa using h
theorem tmod_pos {a b : Int} (h : 0 ≤ a) : a.tmod b = a % b := Int.tmod_eq_emod_of_nonneg h
theorem tdiv_pos {a b : Int} (h : 0 ≤ a) : a.tdiv b = a / b := Int.tdiv_eq_ediv_of_nonneg h
end Go.Proofs.Ytjhjhjmdbhackaa
