/-
  Each operation of the abstract machine against the model's: maps.
-/
import Derived.Test.YtfbnfdcbcobogaaGreatDoorAb7
namespace Go.Ab

section
variable {C : Ctx} {w0 : World} {ds : List Deferred} {ρ : Nat → Option Nat} {O S : Nat → Prop} {s : St} {a : Act} {w : World} {o : Oper} {v : AV} {h h' : Hp}

theorem run_getObj {P : Program} {r : Nat} {o : Obj} (h : w.heap[r]? = some o) (hc : ∀ c t f, o ≠ .cells c t f) : (getObj r).run P w = .ok o w := by
  unfold getObj Sem.run
  rw [h]
  cases o <;> first | rfl | exact absurd rfl (hc _ _ _)
theorem run_setObj {P : Program} {r : Nat} {o o' : Obj} (h : w.heap[r]? = some o) (hc : ∀ c t f, o ≠ .cells c t f) : (setObj r o').run P w = .ok () (w.withObj r o') := by
  unfold setObj Sem.run
  rw [h]
  cases o <;> first | rfl | exact absurd rfl (hc _ _ _)

theorem VRs.wide {cs : List AV} {vs : List Value} (h : VRs O S w (fun _ => none) cs vs) : VRs O S w ρ cs vs :=
  VRs.step (Ext.refl ρ O S w).step (fun _ _ e => by cases e) cs vs h

theorem zip_fst {α β : Type} : ∀ (l : List α) (r : List β), l.length = r.length → (l.zip r).map (·.1) = l
  | [], [], _ => rfl
  | a :: l, b :: r, h => by simp [List.zip_cons_cons, zip_fst l r (by simpa using h)]
  | [], _ :: _, h => by cases h
  | _ :: _, [], h => by cases h
theorem zip_snd {α β : Type} : ∀ (l : List α) (r : List β), l.length = r.length → (l.zip r).map (·.2) = r
  | [], [], _ => rfl
  | a :: l, b :: r, h => by simp [List.zip_cons_cons, zip_snd l r (by simpa using h)]
  | [], _ :: _, h => by cases h
  | _ :: _, [], h => by cases h

theorem mapOf_ok (I : Inv w0 ρ O S h w) {x : AV} {u : Value} {es : List (Value × AV)} (e : mapOf h x = some es) (hx : VR O S w ρ x u) :
    (u = .map none ∧ es = []) ∨ ∃ (r : Nat) (ms : Array MapEntry) (clock : Nat), u = .map (some r) ∧ w.heap[r]? = some (.map ms clock) ∧ ms.toList.map (·.key) = es.map (·.1) ∧ VRs O S w ρ (es.map (·.2)) (ms.toList.map (·.val)) := by
  unfold mapOf at e
  split at e
  · rename_i b
    split at e
    · rename_i c es' hg
      injection e with e
      subst e
      obtain ⟨cb, hcb, hu⟩ := hx
      obtain ⟨_, ms, h1, h2, _, h4⟩ := I.blk b cb _ hcb hg
      refine .inr ⟨cb, ms, c, hu, h1, ?_, ?_⟩
      · rw [h2, mapL_eq]; simp
      · rw [mapL_eq, List.map_map]; exact h4
    · cases e
  · rename_i q ks vs
    injection e with e
    subst e
    obtain ⟨cb, ms, clock, hu, _, hh, hk, hv⟩ := hx
    have hl : ks.length = vs.length := by
      have := hv.length
      rw [← hk]
      simpa using this
    exact .inr ⟨cb, ms, clock, hu, hh, by rw [hk, zip_fst _ _ hl], by rw [zip_snd _ _ hl]; exact hv.wide⟩
  · injection e with e
    subst e
    exact .inl ⟨hx, rfl⟩
  · cases e

theorem bytes_self (a : ByteArray) : (a == a) = true := beq_self_eq_true a.data
theorem bytes_eq {a b : ByteArray} (h : (a == b) = true) : a = b := ByteArray.ext (eq_of_beq (show (a.data == b.data) = true from h))
theorem bytes_beq (a b : ByteArray) : (a.data.toList == b.data.toList) = (a == b) := by
  by_cases h : a = b
  · subst h
    rw [bytes_self, beq_self_eq_true]
  · have h2 : ¬ a.data = b.data := fun e => h (ByteArray.ext e)
    have h1 : ¬ a.data.toList = b.data.toList := fun e => h2 (Array.ext' e)
    show _ = (a.data == b.data)
    rw [beq_eq_false_iff_ne.2 h1, beq_eq_false_iff_ne.2 h2]

/-- What keys the machine compares. -/
theorem keyEq_cases {P : Program} {t : TypeId} {k e : Value} {b : Bool} (h : keyEq P t k e = some b) : ∃ d, P.underlying t = some d ∧
    ((Instr.sameNow d k e = some b ∧ (b = true → k = e) ∧ ((∃ j n, e = .int j n) ∨ (∃ z, e = .string z) ∨ (∃ z, e = .bool z)) ∧ ¬ ∃ fs, d = .struct fs) ∨ ((∃ fs, d = .struct fs) ∧ ∀ w : World, (Op.equal t k e).run P w = .ok b w)) := by
  unfold keyEq keyEqB at h
  split at h
  case h_2 => cases h
  rename_i d hd
  refine ⟨d, hd, ?_⟩
  split at h
  · simp only at h
    split at h
    · rename_i kk _ _ j n j' n'
      split at h
      · rename_i hj
        have hj := keq_eq hj
        subst hj
        injection h with h
        rw [eqI_eq] at h
        subst h
        refine .inl ⟨by simp [Instr.sameNow], fun e => ?_, .inl ⟨_, _, rfl⟩, fun ⟨fs, e⟩ => by cases e⟩
        rw [eq_of_beq e]
      · cases h
    · cases h
  · simp only at h
    split at h
    · rename_i x y
      injection h with h
      rw [eqL_eq, bytes_beq] at h
      subst h
      refine .inl ⟨by simp [Instr.sameNow], fun e => ?_, .inr (.inl ⟨_, rfl⟩), fun ⟨fs, e⟩ => by cases e⟩
      rw [bytes_eq e]
    · cases h
  · simp only at h
    split at h
    · rename_i x y
      injection h with h
      subst h
      refine .inl ⟨by cases x <;> cases y <;> rfl, fun e => ?_, .inr (.inr ⟨_, rfl⟩), fun ⟨fs, e⟩ => by cases e⟩
      cases x <;> cases y <;> first | rfl | cases e
    · cases h
  · rename_i fs
    exact .inr ⟨⟨fs, rfl⟩, fun w => pv_run _ w h⟩
  · cases h

/-- What a search comes to. -/
def Fnd (P : Program) (t : TypeId) (k : Value) (ms : List MapEntry) (i : Nat) (r : Option Nat) (res : Option (Nat × Value)) : Prop :=
  (r = none ∧ res = none) ∨ ∃ j e, r = some (i + j) ∧ ms[j]? = some e ∧ keyEq P t k e.key = some true ∧ res = some (i + j, e.val)

theorem findA_cons {eq : Value → Option Bool} {k : Value} {ks : List Value} {i : Nat} : findA eq (k :: ks) i = match eq k with
    | some b => match b with
      | true => some (some i)
      | false => findA eq ks (i + 1)
    | none => none := rfl

theorem Fnd.tail {P : Program} {t : TypeId} {k : Value} {m : MapEntry} {ms : List MapEntry} {i : Nat} {r : Option Nat} {res : Option (Nat × Value)} (h : Fnd P t k ms (i + 1) r res) : Fnd P t k (m :: ms) i r res := by
  rcases h with h | ⟨j, e, h1, h2, h3, h4⟩
  · exact .inl h
  · exact .inr ⟨j + 1, e, by rw [h1]; congr 1; omega, by simpa using h2, h3, by rw [h4]; congr 2; omega⟩

theorem findNow_ok {P : Program} {t : TypeId} {d : TypeDesc} {k : Value} (hd : P.underlying t = some d) (hs : ¬ ∃ fs, d = .struct fs) : ∀ (ms : List MapEntry) (i : Nat) {r : Option Nat}, findA (keyEq P t k) (ms.map (·.key)) i = some r →
    ∃ res, Instr.findNow d k ms i = some res ∧ Fnd P t k ms i r res := by
  intro ms
  induction ms with
  | nil =>
    intro i r h
    injection h with h
    exact ⟨none, rfl, .inl ⟨h.symm, rfl⟩⟩
  | cons m ms ih =>
    intro i r h
    rw [List.map_cons, findA_cons] at h
    split at h
    · rename_i b hb
      obtain ⟨d', hd', hc⟩ := keyEq_cases hb
      rw [hd] at hd'
      injection hd' with hd'
      subst hd'
      rcases hc with ⟨hn, _⟩ | ⟨hf, _⟩
      · split at h
        · injection h with h
          subst h
          exact ⟨some (i, m.val), by simp [Instr.findNow, hn], .inr ⟨0, m, rfl, rfl, hb, rfl⟩⟩
        · obtain ⟨res, h1, h2⟩ := ih (i + 1) h
          exact ⟨res, by simp [Instr.findNow, hn, h1], h2.tail⟩
      · exact absurd hf hs
    · cases h

theorem findAsk_ok {P : Program} {t : TypeId} {d : TypeDesc} {k : Value} (hd : P.underlying t = some d) (hs : ∃ fs, d = .struct fs) (w : World) : ∀ (ms : List MapEntry) (i : Nat) {r : Option Nat}, findA (keyEq P t k) (ms.map (·.key)) i = some r →
    ∃ res, (Instr.findAsking t k ms i).run P w = .ok res w ∧ Fnd P t k ms i r res := by
  intro ms
  induction ms with
  | nil =>
    intro i r h
    injection h with h
    exact ⟨none, rfl, .inl ⟨h.symm, rfl⟩⟩
  | cons m ms ih =>
    intro i r h
    rw [List.map_cons, findA_cons] at h
    split at h
    · rename_i b hb
      obtain ⟨d', hd', hc⟩ := keyEq_cases hb
      rw [hd] at hd'
      injection hd' with hd'
      subst hd'
      rcases hc with ⟨_, _, _, hn⟩ | ⟨_, he⟩
      · exact absurd hs hn
      · split at h
        · injection h with h
          subst h
          exact ⟨some (i, m.val), by simp [Instr.findAsking, he w], .inr ⟨0, m, rfl, rfl, hb, rfl⟩⟩
        · obtain ⟨res, h1, h2⟩ := ih (i + 1) h
          exact ⟨res, by simp [Instr.findAsking, he w, h1], h2.tail⟩
    · cases h

theorem findKey_ok {P : Program} {t : TypeId} {k : Value} {d : TypeDesc} (hd : P.underlying t = some d) (w : World) {ms : List MapEntry} {r : Option Nat} (h : findA (keyEq P t k) (ms.map (·.key)) 0 = some r) :
    ∃ res, (Instr.findKey t k ms).run P w = .ok res w ∧ Fnd P t k ms 0 r res := by
  by_cases hs : ∃ fs, d = .struct fs
  · cases ms with
    | nil =>
      injection h with h
      exact ⟨none, by simp [Instr.findKey, run_underlying hd, Instr.findNow], .inl ⟨h.symm, rfl⟩⟩
    | cons m ms =>
      obtain ⟨res, h1, h2⟩ := findAsk_ok hd hs w _ _ h
      refine ⟨res, ?_, h2⟩
      obtain ⟨fs, rfl⟩ := hs
      simp [Instr.findKey, run_underlying hd, Instr.findNow, Instr.sameNow, h1]
  · obtain ⟨res, h1, h2⟩ := findNow_ok hd hs _ _ h
    exact ⟨res, by simp [Instr.findKey, run_underlying hd, h1], h2⟩

theorem keyOK_run {P : Program} {t : TypeId} {k : Value} {e : Bool} (h : keyOK P t e k = true) (w : World) : (∃ d, P.underlying t = some d) ∧ (Instr.checkKey e 10000 t k).run P w = .ok () w := by
  unfold keyOK keyOKB at h
  split at h
  case h_2 => cases h
  rename_i d hd
  refine ⟨⟨d, hd⟩, ?_⟩
  split at h
  · simp only at h
    split at h
    · have key : ∀ n : Nat, ∀ k : Value, (∃ j m, k = .int j m) ∨ (∃ z, k = .string z) ∨ (∃ z, k = .bool z) → (Instr.checkKey e (n + 1) t k).run P w = .ok () w := fun n k hk => by
        rcases hk with ⟨j, m, rfl⟩ | ⟨z, rfl⟩ | ⟨z, rfl⟩ <;> simp [Instr.checkKey, run_underlying hd]
      exact key 9999 _ (by simp)
    · cases h
  · simp only at h
    split at h
    · have key : ∀ n : Nat, ∀ k : Value, (∃ j m, k = .int j m) ∨ (∃ z, k = .string z) ∨ (∃ z, k = .bool z) → (Instr.checkKey e (n + 1) t k).run P w = .ok () w := fun n k hk => by
        rcases hk with ⟨j, m, rfl⟩ | ⟨z, rfl⟩ | ⟨z, rfl⟩ <;> simp [Instr.checkKey, run_underlying hd]
      exact key 9999 _ (by simp)
    · cases h
  · simp only at h
    split at h
    · have key : ∀ n : Nat, ∀ k : Value, (∃ j m, k = .int j m) ∨ (∃ z, k = .string z) ∨ (∃ z, k = .bool z) → (Instr.checkKey e (n + 1) t k).run P w = .ok () w := fun n k hk => by
        rcases hk with ⟨j, m, rfl⟩ | ⟨z, rfl⟩ | ⟨z, rfl⟩ <;> simp [Instr.checkKey, run_underlying hd]
      exact key 9999 _ (by simp)
    · cases h
  · simp only at h
    split at h
    · rename_i u hu
      exact pv_run _ w hu
    · cases h
  · cases h

theorem stays_ok {P : Program} {t : TypeId} {k e : Value} (h : keyEq P t k e = some true) (hs : keySame P t k e = true) (w : World) : (Instr.keyThatStays e k).run P w = .ok k w := by
  obtain ⟨d, hd, hc⟩ := keyEq_cases h
  have hb : Instr.sameBits 10000 e k = true := by
    rcases hc with ⟨_, he, hk, _⟩ | ⟨⟨fs, rfl⟩, _⟩
    · rw [he rfl]
      rcases hk with ⟨j, n, rfl⟩ | ⟨z, rfl⟩ | ⟨z, rfl⟩ <;> simp [Instr.sameBits, bytes_self]
    · unfold keySame keySameB at hs
      rw [hd] at hs
      exact hs
  simp [Instr.keyThatStays, hb]

theorem makeMap_ok (G : GOK C w0) (R : SR C w0 ds ρ O S s a w) {t : TypeId} {r : Option Operand} (ho : o.op = .makeMap t r) (h : (makeMapB C t r).f s = some (v, h')) : Does w0 ρ O S w v h' ((execOp a.eval o).run C.P w) := by
  have fin : (v, h') = (.mapr s.h.nx, s.h.new (.map 0 [])) → (∀ u, r.map a.eval = some u → ∃ k n, u = .int k n) → (∃ kt et, C.P.underlying t = some (.map kt et)) → Does w0 ρ O S w v h' ((execOp a.eval o).run C.P w) := by
    rintro e hr ⟨kt, et, ht⟩
    injection e with e1 e2
    subst e1
    subst e2
    obtain ⟨I', E⟩ := R.inv.new (w' := w.alloc (.map #[] 0)) (o := .map #[] 0) rfl rfl rfl rfl (.map 0 []) ⟨Or.inr rfl, #[], by show (w.heap.push _)[w.heap.size]? = _; simp, rfl, rfl, rfl⟩
    refine ⟨.map (some w.heap.size), _, _, _, Or.inl ?_, I', ⟨w.heap.size, if_pos rfl, rfl⟩, E⟩
    cases r with
    | none => simp [execOp, ho, Instr.makeMap]
    | some x =>
      obtain ⟨k, n, hk⟩ := hr _ rfl
      simp [execOp, ho, Instr.makeMap, run_underlying ht, hk, asInt, asIntOf]
  unfold makeMapB at h
  split at h
  · rename_i kt et ht
    split at h
    · exact fin (by simpa using h.symm) (fun u e => by cases e) ⟨_, _, ht⟩
    · rename_i x
      simp only at h
      split at h
      · rename_i k n hk
        have hx := ev_VR G R x
        rw [hk] at hx
        refine fin (by simpa using h.symm) (fun u e => ?_) ⟨_, _, ht⟩
        injection e with e
        subst e
        exact ⟨k, n, hx⟩
      · cases h
  · cases h

theorem zeroAV_some {P : Program} {t : TypeId} {z : AV} (h : zeroAV P t = some z) : ∃ i zv, P.info? t = some i ∧ i.zero = some zv ∧ z = ofV2 zv := by
  unfold zeroAV at h
  split at h
  · rename_i i hi
    split at h
    · rename_i zv hz
      injection h with h
      exact ⟨i, zv, hi, hz, h.symm⟩
    · cases h
  · cases h

theorem lookup_ok (G : GOK C w0) (R : SR C w0 ds ρ O S s a w) {t : TypeId} {x ix : Operand} {ok : Bool} (ho : o.op = .lookup t x ix ok) (h : (lookupB C t x ix ok).f s = some (v, h')) : Does w0 ρ O S w v h' ((execOp a.eval o).run C.P w) := by
  unfold lookupB at h
  split at h
  case h_2 => cases h
  rename_i kt et ht
  split at h
  case h_2 => cases h
  rename_i z hz
  obtain ⟨i, zv, hi, hzv, rfl⟩ := zeroAV_some hz
  simp only at h
  split at h
  case h_2 => cases h
  rename_i k hk
  split at h
  case h_2 => cases h
  rename_i es hes
  split at h
  case h_2 => cases h
  rename_i hok
  have hkv : a.eval ix = k := toV_VR _ _ _ hk (ev_VR G R ix)
  split at h
  case h_2 => cases h
  rename_i r hr
  rw [mapL_eq] at hr
  obtain ⟨⟨d, hd⟩, hck⟩ := keyOK_run hok w
  have hzr : (zeroValue et).run C.P w = .ok zv w := by simp [zeroValue, typeInfo, hi, hzv]
  obtain ⟨ms, hmk, hmv, hrun⟩ : ∃ ms : Array MapEntry, ms.toList.map (·.key) = es.map (·.1) ∧ VRs O S w ρ (es.map (·.2)) (ms.toList.map (·.val)) ∧
      ∀ res, (Instr.checkKey ms.isEmpty 10000 kt k).run C.P w = .ok () w → (Instr.findKey kt k ms.toList).run C.P w = .ok res w →
        (execOp a.eval o).run C.P w = .ok (.value (match res with | some (_, v) => if ok then .tuple #[v, .bool true] else v | none => if ok then .tuple #[zv, .bool false] else zv)) w := by
    rcases mapOf_ok R.inv hes (ev_VR G R x) with ⟨hu, rfl⟩ | ⟨r, ms, clock, hu, hh, h1, h2⟩
    · refine ⟨#[], rfl, rfl, fun res hc hf => ?_⟩
      rw [show (#[] : Array MapEntry).isEmpty = true from rfl] at hc
      cases res <;> simp [execOp, ho, Instr.lookup, run_underlying ht, hu, hkv, hc, hf, hzr]
    · refine ⟨ms, h1, h2, fun res hc hf => ?_⟩
      cases res <;> simp [execOp, ho, Instr.lookup, run_underlying ht, hu, hkv, run_getObj hh (by simp), hc, hf, hzr]
  rw [← hmk] at hr
  obtain ⟨res, h1, h2⟩ := findKey_ok hd w hr
  have hemp : ms.isEmpty = isNil es := by
    have : ms.toList.length = es.length := by
      have := congrArg List.length hmk
      simpa using this
    cases es with
    | nil =>
      have : ms = #[] := Array.ext' (List.eq_nil_of_length_eq_zero this)
      subst this
      rfl
    | cons e es =>
      cases hm : ms.toList with
      | nil => rw [hm] at this; cases this
      | cons m l =>
        show ms.isEmpty = false
        simp [Array.isEmpty, ← Array.length_toList, hm]
  have hrun := hrun res (by rw [hemp]; exact hck) h1
  rcases h2 with ⟨rfl, rfl⟩ | ⟨j, e, rfl, hj, _, rfl⟩
  · simp only at h
    split at h
    · simp only [Option.some.injEq, Prod.mk.injEq] at h
      obtain ⟨rfl, rfl⟩ := h
      exact Does.same (u := .tuple #[zv, .bool false]) (by rw [hrun]; rfl) R.inv ⟨[zv, .bool false], rfl, _, _, rfl, ofV2_VR zv, _, _, rfl, rfl, rfl⟩
    · simp only [Option.some.injEq, Prod.mk.injEq] at h
      obtain ⟨rfl, rfl⟩ := h
      exact Does.same (u := zv) (by rw [hrun]; rfl) R.inv (ofV2_VR zv)
  · simp only [nth_eq] at h
    split at h
    · rename_i p hp
      obtain ⟨u, hu, hv⟩ := hmv.get (i := 0 + j) (c := p.2) (by rw [List.getElem?_map, hp]; rfl)
      have hue : u = e.val := by
        have : ms.toList[0 + j]? = some e := by rw [Nat.zero_add]; exact hj
        rw [List.getElem?_map, this] at hu
        simpa using hu.symm
      subst hue
      split at h
      · simp only [Option.some.injEq, Prod.mk.injEq] at h
        obtain ⟨rfl, rfl⟩ := h
        exact Does.same (u := .tuple #[e.val, .bool true]) (by rw [hrun]; rfl) R.inv ⟨[e.val, .bool true], rfl, _, _, rfl, hv, _, _, rfl, rfl, rfl⟩
      · simp only [Option.some.injEq, Prod.mk.injEq] at h
        obtain ⟨rfl, rfl⟩ := h
        exact Does.same (u := e.val) (by rw [hrun]; rfl) R.inv hv
    · cases h

/-! ### Writing into a map -/
theorem modX_cons {α : Type} {f : α → α} {a : α} {l : List α} {i : Nat} : modX f (a :: l) (i + 1) = a :: modX f l i := rfl
theorem modX_eq {α : Type} (f : α → α) : ∀ (l : List α) (i : Nat), modX f l i = l.modify i f
  | [], i => by cases i <;> simp [modX]
  | a :: l, 0 => by show f a :: l = _; simp
  | a :: l, i + 1 => by rw [modX_cons, modX_eq f l i]; simp
theorem modX_map {α β : Type} {f : α → α} {g : α → β} {c : β → β} (h : ∀ x, g (f x) = c (g x)) : ∀ (l : List α) (i : Nat), (modX f l i).map g = modX c (l.map g) i
  | [], i => rfl
  | a :: l, 0 => by show g (f a) :: l.map g = c (g a) :: l.map g; rw [h]
  | a :: l, i + 1 => by rw [modX_cons, List.map_cons, modX_map h l i]; rfl
theorem VRs.modX {c : AV} {u : Value} (hc : VR O S w ρ c u) : ∀ {cs : List AV} {vs : List Value} (i : Nat), VRs O S w ρ cs vs → VRs O S w ρ (Go.Ab.modX (fun _ => c) cs i) (Go.Ab.modX (fun _ => u) vs i)
  | [], _, i, h => by
    have : _ = [] := h
    subst this
    exact h
  | a :: cs, _, 0, h => by
    obtain ⟨v, r, rfl, _, h2⟩ := h
    exact ⟨u, r, rfl, hc, h2⟩
  | a :: cs, _, i + 1, h => by
    obtain ⟨v, r, rfl, h1, h2⟩ := h
    exact ⟨v, _, rfl, h1, VRs.modX hc i h2⟩

theorem modX_id {α : Type} : ∀ (l : List α) (i : Nat), modX (fun x => x) l i = l
  | [], _ => rfl
  | _ :: _, 0 => rfl
  | a :: l, i + 1 => by rw [modX_cons, modX_id l i]

theorem modX_two {α α' β : Type} {f : α → α} {g : α → β} {f' : α' → α'} {g' : α' → β} {l : List α} {l' : List α'} (c : β → β) (h : ∀ x, g (f x) = c (g x)) (h' : ∀ x, g' (f' x) = c (g' x)) (e : l.map g = l'.map g') (i : Nat) : (modX f l i).map g = (modX f' l' i).map g' := by
  rw [modX_map h, modX_map h', e]
theorem VRs.mod2 {α α' : Type} {f : α → α} {g : α → AV} {f' : α' → α'} {g' : α' → Value} {l : List α} {l' : List α'} {c : AV} {u : Value} (hc : VR O S w ρ c u) (h : ∀ x, g (f x) = c) (h' : ∀ x, g' (f' x) = u) (hv : VRs O S w ρ (l.map g) (l'.map g')) (i : Nat) :
    VRs O S w ρ ((Go.Ab.modX f l i).map g) ((Go.Ab.modX f' l' i).map g') := by
  rw [modX_map (c := fun _ => c) h, modX_map (c := fun _ => u) h']
  exact hv.modX hc i
theorem VRs.mod0 {α α' : Type} {f : α → α} {g : α → AV} {f' : α' → α'} {g' : α' → Value} {l : List α} {l' : List α'} (h : ∀ x, g (f x) = g x) (h' : ∀ x, g' (f' x) = g' x) (hv : VRs O S w ρ (l.map g) (l'.map g')) (i : Nat) :
    VRs O S w ρ ((Go.Ab.modX f l i).map g) ((Go.Ab.modX f' l' i).map g') := by
  rw [modX_map (c := fun x => x) h, modX_map (c := fun x => x) h', modX_id, modX_id]
  exact hv

theorem setMap (I : Inv w0 ρ O S h w) {b cb : Nat} {c c' : Nat} {es es' : List (Value × Nat × AV)} {ms' : Array MapEntry} (hcb : ρ b = some cb) (hg : h.get b = some (.map c es))
    (hk : ms'.toList.map (·.key) = es'.map (·.1)) (hb : ms'.toList.map (·.born) = es'.map (·.2.1)) (hv : VRs O S w ρ (es'.map (·.2.2)) (ms'.toList.map (·.val))) :
    Inv w0 ρ O S (h.set b (.map c' es')) (w.withObj cb (.map ms' c')) ∧ Ext ρ O S w ρ O S (w.withObj cb (.map ms' c')) := by
  obtain ⟨hO, ms, hh, _⟩ := I.blk b cb _ hcb hg
  have hlt := lt_of_heap hh
  have hsh : (w.withObj cb (.map ms' c')).shape? cb = w.shape? cb := by simp [World.shape?, withObj_at hlt, hh]
  have E' : Step O S w O S (w.withObj cb (.map ms' c')) := {
    size := by rw [withObj_size]; exact Nat.le_refl _
    old := fun y _ hy => .inl (withObj_ne (fun e => hy (e ▸ hO)))
    own := fun _ _ e => e
    lent := fun _ _ e => e
    shape := fun y _ => by
      by_cases e : y = cb
      · subst e; exact hsh
      · exact shape_of_heap (withObj_ne e) }
  exact I.set hcb hg trivial withObj_size hsh (fun y hy => withObj_ne hy) rfl rfl rfl ⟨hO, ms', withObj_at hlt, hk, hb, VRs.step E' (fun _ _ e => e) _ _ hv⟩

theorem at_list {ms : Array MapEntry} {j : Nat} {e : MapEntry} (h : ms.toList[j]? = some e) : ms[j]? = some e := by simpa using h

theorem update_ok (G : GOK C w0) (R : SR C w0 ds ρ O S s a w) {t : TypeId} {m k x : Operand} (ho : o.op = .mapUpdate t m k x ∨ o.op = .insert t m k x) (h : (updateB C t m k x).f s = some (v, h')) : Does w0 ρ O S w v h' ((execOp a.eval o).run C.P w) := by
  unfold updateB at h
  split at h
  case h_2 => cases h
  rename_i kt et ht
  simp only at h
  split at h
  case h_2 => cases h
  rename_i b kv hm hk
  split at h
  case h_2 => cases h
  rename_i c es hg
  split at h
  case h_2 => cases h
  rename_i hok
  split at h
  case h_2 => cases h
  rename_i r hr
  rw [mapL_eq] at hr
  obtain ⟨⟨d, hd⟩, hck⟩ := keyOK_run hok w
  have hkv : a.eval k = kv := toV_VR _ _ _ hk (ev_VR G R k)
  have hxv := ev_VR G R x
  have hmv := ev_VR G R m
  rw [hm] at hmv
  obtain ⟨cb, hcb, hu⟩ := hmv
  obtain ⟨hO, ms, hh, h1, h2, h3⟩ := R.inv.blk b cb _ hcb hg
  have hgo := run_getObj (P := C.P) hh (by simp)
  rw [show es.map Prod.fst = ms.toList.map (·.key) from h1.symm] at hr
  obtain ⟨res, hf, hF⟩ := findKey_ok hd w hr
  have hexec : (execOp a.eval o) = (do Instr.mapUpdate t (a.eval m) (a.eval k) (a.eval x); pure .skip) := by
    rcases ho with ho | ho <;> simp only [execOp, ho]
  rw [hexec]
  rcases hF with ⟨rfl, rfl⟩ | ⟨j, e, rfl, hj, hke, rfl⟩
  · simp only [Option.some.injEq, Prod.mk.injEq] at h
    obtain ⟨rfl, rfl⟩ := h
    obtain ⟨I', E⟩ := setMap R.inv (c' := c + 1) (es' := es ++ [(kv, c, ev C x s)]) (ms' := ms.push { key := kv, val := a.eval x, born := c }) hcb hg (by simp [h1]) (by simp [h2]) (by simp only [List.map_append, Array.toList_push]; exact h3.append (VRs.one hxv))
    refine ⟨undef, _, _, _, Or.inr ⟨?_, rfl⟩, I', by simp [VR, VRs, undef], E⟩
    simp [Instr.mapUpdate, run_underlying ht, hu, hkv, hgo, hck, hf, run_setObj (P := C.P) (o' := .map (ms.push { key := kv, val := a.eval x, born := c }) (c + 1)) hh (by simp)]
  · simp only [nth_eq] at h
    split at h
    case h_2 => cases h
    rename_i p hp
    split at h
    case h_2 => cases h
    rename_i hs
    simp only [Option.some.injEq, Prod.mk.injEq] at h
    obtain ⟨rfl, rfl⟩ := h
    have hpe : p.1 = e.key := by
      have := congrArg (fun l => l[j]?) h1
      simp only [List.getElem?_map, hj] at this
      rw [Nat.zero_add] at hp
      rw [hp] at this
      simpa using this.symm
    rw [hpe] at hs
    have hst := stays_ok hke hs w
    obtain ⟨I', E⟩ := setMap R.inv (c' := c) (es' := modX (fun e => (kv, e.2.1, ev C x s)) es (0 + j)) (ms' := ms.modify (0 + j) fun e => { e with key := kv, val := a.eval x }) hcb hg
      (by rw [Array.toList_modify, ← modX_eq]; refine modX_two (fun _ => kv) ?_ ?_ h1 _ <;> intro _ <;> rfl)
      (by rw [Array.toList_modify, ← modX_eq]; refine modX_two (fun b => b) ?_ ?_ h2 _ <;> intro _ <;> rfl)
      (by
        rw [Array.toList_modify, ← modX_eq]
        refine VRs.mod2 hxv ?_ ?_ h3 _ <;> intro _ <;> rfl)
    refine ⟨undef, _, _, _, Or.inr ⟨?_, rfl⟩, I', by simp [VR, VRs, undef], E⟩
    have hse := run_setObj (P := C.P) (o' := .map (ms.modify (0 + j) fun e => { e with key := kv, val := a.eval x }) c) hh (by simp)
    rw [Nat.zero_add] at hse hf ⊢
    simp [Instr.mapUpdate, run_underlying ht, hu, hkv, hgo, hck, hf, at_list hj, hst, hse]

theorem entry_ok (G : GOK C w0) (R : SR C w0 ds ρ O S s a w) {t : TypeId} {m k : Operand} (ho : o.op = .mapEntry t m k) (h : (entryB C t m k).f s = some (v, h')) : Does w0 ρ O S w v h' ((execOp a.eval o).run C.P w) := by
  unfold entryB at h
  split at h
  case h_2 => cases h
  rename_i kt et ht
  split at h
  case h_2 => cases h
  rename_i z hz
  obtain ⟨i, zv, hi, hzv, rfl⟩ := zeroAV_some hz
  have hzr : (zeroValue et).run C.P w = .ok zv w := by simp [zeroValue, typeInfo, hi, hzv]
  simp only at h
  split at h
  case h_2 => cases h
  rename_i b kv hm hk
  split at h
  case h_2 => cases h
  rename_i c es hg
  split at h
  case h_2 => cases h
  rename_i hok
  split at h
  case h_2 => cases h
  rename_i r hr
  rw [mapL_eq] at hr
  obtain ⟨⟨d, hd⟩, hck⟩ := keyOK_run hok w
  have hkv : a.eval k = kv := toV_VR _ _ _ hk (ev_VR G R k)
  have hmv := ev_VR G R m
  rw [hm] at hmv
  obtain ⟨cb, hcb, hu⟩ := hmv
  obtain ⟨hO, ms, hh, h1, h2, h3⟩ := R.inv.blk b cb _ hcb hg
  have hgo := run_getObj (P := C.P) hh (by simp)
  rw [show es.map Prod.fst = ms.toList.map (·.key) from h1.symm] at hr
  obtain ⟨res, hf, hF⟩ := findKey_ok hd w hr
  rcases hF with ⟨rfl, rfl⟩ | ⟨j, e, rfl, hj, hke, rfl⟩
  · simp only [Option.some.injEq, Prod.mk.injEq] at h
    obtain ⟨rfl, rfl⟩ := h
    obtain ⟨I', E⟩ := setMap R.inv (c' := c + 1) (es' := es ++ [(kv, c, ofV2 zv)]) (ms' := ms.push { key := kv, val := zv, born := c }) hcb hg (by simp [h1]) (by simp [h2]) (by simp only [List.map_append, Array.toList_push]; exact h3.append (VRs.one (ofV2_VR zv)))
    refine ⟨.tuple #[zv, .int .i64 c], _, _, _, Or.inl ?_, I', ⟨[zv, .int .i64 c], rfl, _, _, rfl, ofV2_VR zv, _, _, rfl, rfl, rfl⟩, E⟩
    simp [execOp, ho, Instr.mapEntry, run_underlying ht, hu, hkv, hgo, hck, hf, hzr, goInt, run_setObj (P := C.P) (o' := .map (ms.push { key := kv, val := zv, born := c }) (c + 1)) hh (by simp)]
  · simp only [nth_eq] at h
    split at h
    case h_2 => cases h
    rename_i p hp
    split at h
    case h_2 => cases h
    rename_i hs
    simp only [Option.some.injEq, Prod.mk.injEq] at h
    obtain ⟨rfl, rfl⟩ := h
    rw [Nat.zero_add] at hp
    have hpe : p.1 = e.key := by
      have := congrArg (fun l => l[j]?) h1
      simp only [List.getElem?_map, hj, hp] at this
      simpa using this.symm
    have hpb : p.2.1 = e.born := by
      have := congrArg (fun l => l[j]?) h2
      simp only [List.getElem?_map, hj, hp] at this
      simpa using this.symm
    obtain ⟨u, hu', hpv⟩ := h3.get (i := j) (c := p.2.2) (by rw [List.getElem?_map, hp]; rfl)
    have hue : u = e.val := by
      rw [List.getElem?_map, hj] at hu'
      simpa using hu'.symm
    subst hue
    rw [hpe] at hs
    have hst := stays_ok hke hs w
    obtain ⟨I', E⟩ := setMap R.inv (c' := c) (es' := modX (fun e => (kv, e.2.1, e.2.2)) es (0 + j)) (ms' := ms.modify (0 + j) fun e => { e with key := kv }) hcb hg
      (by rw [Array.toList_modify, ← modX_eq]; refine modX_two (fun _ => kv) ?_ ?_ h1 _ <;> intro _ <;> rfl)
      (by rw [Array.toList_modify, ← modX_eq]; refine modX_two (fun b => b) ?_ ?_ h2 _ <;> intro _ <;> rfl)
      (by
        rw [Array.toList_modify, ← modX_eq]
        refine VRs.mod0 ?_ ?_ h3 _ <;> intro _ <;> rfl)
    refine ⟨.tuple #[e.val, .int .i64 e.born], _, _, _, Or.inl ?_, I', ⟨[e.val, .int .i64 e.born], rfl, _, _, rfl, hpv.mono E, _, _, rfl, by rw [hpb]; rfl, rfl⟩, E⟩
    have hse := run_setObj (P := C.P) (o' := .map (ms.modify (0 + j) fun e => { e with key := kv }) c) hh (by simp)
    rw [Nat.zero_add] at hse hf ⊢
    simp [execOp, ho, Instr.mapEntry, run_underlying ht, hu, hkv, hgo, hck, hf, at_list hj, hst, hse, goInt]

theorem stampX_some {n : Int} : ∀ {es : List (Value × Nat × AV)} {i j : Nat}, List.rec (motive := fun _ => Nat → Option Nat) (fun _ => none) (fun a _ ih i => match eqI (.ofNat a.2.1) n with
    | true => some i
    | false => ih (Nat.succ i)) es i = some j → ∀ ms : List MapEntry, ms.map (·.born) = es.map (·.2.1) → ∃ k, j = i + k ∧ ms.findIdx? (fun e => (e.born : Int) == n) = some k := by
  intro es
  induction es with
  | nil => intro i j h; cases h
  | cons x es ih =>
    intro i j h ms hb
    cases ms with
    | nil => cases hb
    | cons m ms =>
      simp only [List.map_cons, List.cons.injEq] at hb
      have h : (match eqI (.ofNat x.2.1) n with
        | true => some i
        | false => List.rec (motive := fun _ => Nat → Option Nat) (fun _ => none) (fun a _ ih i => match eqI (.ofNat a.2.1) n with
          | true => some i
          | false => ih (Nat.succ i)) es (Nat.succ i)) = some j := h
      rw [eqI_eq] at h
      have hc : ((m.born : Int) == n) = (Int.ofNat x.2.1 == n) := by rw [hb.1]; rfl
      split at h
      · rename_i ht
        injection h with h
        exact ⟨0, by omega, by simp [List.findIdx?_cons, hc]; simpa using ht⟩
      · rename_i hf
        obtain ⟨k, h1, h2⟩ := ih h ms hb.2
        exact ⟨k + 1, by omega, by simp [List.findIdx?_cons, hc, h2]; simpa using hf⟩

theorem entryStore_ok (G : GOK C w0) (R : SR C w0 ds ρ O S s a w) {t : TypeId} {m st x : Operand} (ho : o.op = .entryStore t m st x) (h : (entryStoreB C m st x).f s = some (v, h')) : Does w0 ρ O S w v h' ((execOp a.eval o).run C.P w) := by
  unfold entryStoreB at h
  simp only at h
  split at h
  case h_2 => cases h
  rename_i b kk n hm hst
  split at h
  case h_2 => cases h
  rename_i c es hg
  split at h
  case h_2 => cases h
  rename_i i hi
  simp only [Option.some.injEq, Prod.mk.injEq] at h
  obtain ⟨rfl, rfl⟩ := h
  have hxv := ev_VR G R x
  have hmv := ev_VR G R m
  have hsv := ev_VR G R st
  rw [hm] at hmv
  rw [hst] at hsv
  have hsv : a.eval st = .int kk n := hsv
  obtain ⟨cb, hcb, hu⟩ := hmv
  obtain ⟨hO, ms, hh, h1, h2, h3⟩ := R.inv.blk b cb _ hcb hg
  have hgo := run_getObj (P := C.P) hh (by simp)
  obtain ⟨k, hk, hf⟩ := stampX_some hi ms.toList h2
  rw [Nat.zero_add] at hk
  subst hk
  have hf' : ms.findIdx? (fun e => (e.born : Int) == n) = some i := by
    have e : ms = ms.toList.toArray := by simp
    rw [e, List.findIdx?_toArray]
    exact hf
  obtain ⟨I', E⟩ := setMap R.inv (c' := c) (es' := modX (fun e => (e.1, e.2.1, ev C x s)) es i) (ms' := ms.modify i fun e => { e with val := a.eval x }) hcb hg
    (by rw [Array.toList_modify, ← modX_eq]; refine modX_two (fun b => b) ?_ ?_ h1 _ <;> intro _ <;> rfl)
    (by rw [Array.toList_modify, ← modX_eq]; refine modX_two (fun b => b) ?_ ?_ h2 _ <;> intro _ <;> rfl)
    (by
      rw [Array.toList_modify, ← modX_eq]
      refine VRs.mod2 hxv ?_ ?_ h3 _ <;> intro _ <;> rfl)
  refine ⟨undef, _, _, _, Or.inr ⟨?_, rfl⟩, I', by simp [VR, VRs, undef], E⟩
  have hse := run_setObj (P := C.P) (o' := .map (ms.modify i fun e => { e with val := a.eval x }) c) hh (by simp)
  simp [execOp, ho, Instr.entryStore, hu, hsv, hgo, asInt, asIntOf, hf', hse]
end
end Go.Ab
