/-
  Regions that draw their order.
-/
import Derived.Test.YtfbnfdcbcobogaaGreatDoorAb11
namespace Go.Ab

section
variable {C : Ctx} {ops : Array Oper}

theorem okAgainst_spec {m : Nat} {y : Oper} : ∀ (l : List Oper) (i : Nat), okAgainst C ops m y l i = true → ∀ (j : Nat) (x : Oper), l[j]? = some x → m.testBit (i + j) = true ∨ indep C ops x y = true := by
  intro l
  induction l with
  | nil => intro i _ j x h; simp at h
  | cons z l ih =>
    intro i h j x hx
    unfold okAgainst at h
    have rest : okAgainst C ops m y l (i + 1) = true ∧ (m.testBit i = true ∨ indep C ops z y = true) := by
      split at h
      · rename_i hb; exact ⟨h, .inl hb⟩
      · split at h
        · rename_i hb; exact ⟨h, .inr hb⟩
        · cases h
    cases j with
    | zero =>
      simp only [List.getElem?_cons_zero, Option.some.injEq] at hx
      subst hx
      exact rest.2
    | succ j =>
      have := ih (i + 1) rest.1 j x (by simpa using hx)
      rw [Nat.add_assoc, Nat.add_comm 1 j] at this
      exact this

theorem drawFrom_spec : ∀ (r seen : List Oper) (ms : List Nat), drawOKFrom C ops seen r ms = true → ∀ (k : Nat) (y : Oper), r[k]? = some y →
    ∃ m, ms[k]? = some m ∧ okAgainst C ops m y (seen ++ r.take k) 0 = true ∧ backOK y (seen.length + k) = true := by
  intro r
  induction r with
  | nil => intro seen ms _ k y h; simp at h
  | cons z r ih =>
    intro seen ms h k y hy
    cases ms with
    | nil => cases h
    | cons m ms =>
      unfold drawOKFrom at h
      split at h
      · rename_i h1 h2
        cases k with
        | zero =>
          simp only [List.getElem?_cons_zero, Option.some.injEq] at hy
          subst hy
          exact ⟨m, rfl, by simpa using h1, by simpa using h2⟩
        | succ k =>
          obtain ⟨m', e1, e2, e3⟩ := ih _ _ h k y (by simpa using hy)
          refine ⟨m', by simpa using e1, by simpa using e2, ?_⟩
          have : (seen ++ [z]).length + k = seen.length + (k + 1) := by simp; omega
          rw [← this]
          exact e3
      · cases h

/-- What a mask's bit stands for. -/
def MaskOK (l : List Oper) (ms : List Nat) : Prop :=
  ∀ (i : Nat) (o : Oper) (j : Nat), l[i]? = some o → (ms[i]?.getD 0).testBit j = true → ∃ e ∈ o.after, Region.binds .any e = true ∧ (j = e.on ∨ (ms[e.on]?.getD 0).testBit j = true)

theorem mask_fold {ms : List Nat} {j : Nat} : ∀ (es : List Edge) (m : Nat),
    (es.foldl (fun m e => match Region.binds .any e with | true => m ||| 2 ^ e.on ||| (ms[e.on]?.getD 0) | false => m) m).testBit j = true →
    m.testBit j = true ∨ ∃ e ∈ es, Region.binds .any e = true ∧ (j = e.on ∨ (ms[e.on]?.getD 0).testBit j = true) := by
  intro es
  induction es with
  | nil => intro m h; exact .inl h
  | cons e es ih =>
    intro m h
    rw [List.foldl_cons] at h
    rcases ih _ h with h | ⟨e', he, hb⟩
    · split at h
      · rename_i hb
        simp only [Nat.testBit_or, Nat.testBit_two_pow, Bool.or_eq_true, decide_eq_true_eq] at h
        rcases h with (h | h) | h
        · exact .inl h
        · exact .inr ⟨e, List.mem_cons_self .., hb, .inl h.symm⟩
        · exact .inr ⟨e, List.mem_cons_self .., hb, .inr h⟩
      · exact .inl h
    · exact .inr ⟨e', List.mem_cons_of_mem _ he, hb⟩

theorem masksFrom_ok : ∀ (r seen : List Oper) (ms : List Nat), seen.length = ms.length → MaskOK seen ms → MaskOK (seen ++ r) (masksFrom r ms) := by
  intro r
  induction r with
  | nil => intro seen ms _ H; rw [List.append_nil]; exact H
  | cons o r ih =>
    intro seen ms hlen H
    have := ih (seen ++ [o]) (ms ++ [maskOf ms o]) (by simp [hlen]) ?_
    · rw [List.append_assoc] at this; exact this
    · have up : ∀ k j : Nat, (ms[k]?.getD 0).testBit j = true → ((ms ++ [maskOf ms o])[k]?.getD 0).testBit j = true := fun k j h => by
        rcases Nat.lt_or_ge k ms.length with q | q
        · rw [List.getElem?_append_left q]; exact h
        · rw [List.getElem?_eq_none q] at h; simp at h
      intro i p j hp hb
      rcases Nat.lt_or_ge i seen.length with q | q
      · rw [List.getElem?_append_left q] at hp
        rw [List.getElem?_append_left (by omega)] at hb
        obtain ⟨e, he, h1, h2⟩ := H i p j hp hb
        exact ⟨e, he, h1, h2.imp id (up _ _)⟩
      · rw [List.getElem?_append_right q] at hp
        rw [List.getElem?_append_right (by omega)] at hb
        cases hi : i - seen.length with
        | zero =>
          rw [hi] at hp
          rw [← hlen, hi] at hb
          simp only [List.getElem?_cons_zero, Option.some.injEq] at hp
          subst hp
          simp only [List.getElem?_cons_zero, Option.getD_some] at hb
          rcases mask_fold _ _ hb with h | ⟨e, he, h1, h2⟩
          · simp at h
          · exact ⟨e, by simpa using he, h1, h2.imp id (up _ _)⟩
        | succ n => rw [hi] at hp; simp at hp

theorem drawOK_spec (h : drawOK C ops = true) : C.P.follows .mixedOrders = true ∧ ∃ m : Nat → Nat, ∀ (i : Nat) (y : Oper), ops[i]? = some y →
    (∀ (j : Nat) (x : Oper), j < i → ops[j]? = some x → (m i).testBit j = true ∨ indep C ops x y = true) ∧
    (∀ e ∈ y.after, Region.binds .any e = true → e.on < i) ∧
    (∀ j, (m i).testBit j = true → ∃ e ∈ y.after, Region.binds .any e = true ∧ (j = e.on ∨ (m e.on).testBit j = true)) := by
  unfold drawOK at h
  split at h
  case h_2 => cases h
  rename_i hf
  refine ⟨hf, fun i => (masks ops.toList)[i]?.getD 0, fun i y hy => ?_⟩
  have hy' : ops.toList[i]? = some y := by simpa using hy
  have hm : MaskOK ([] ++ ops.toList) (masks ops.toList) := masksFrom_ok ops.toList [] [] rfl (fun i o j h => by simp at h)
  obtain ⟨m, e1, e2, e3⟩ := drawFrom_spec _ _ _ h i y hy'
  refine ⟨fun j x hj hx => ?_, fun e he hb => ?_, fun j hj => hm i y j hy' hj⟩
  · have hx' : ops.toList[j]? = some x := by simpa using hx
    have := okAgainst_spec _ _ e2 j x (by rw [List.nil_append, List.getElem?_take]; simp [hj, hx])
    rw [Nat.zero_add] at this
    simp only [e1, Option.getD_some]
    exact this
  · unfold backOK at e3
    have := List.all_eq_true.1 e3 e (by simpa using he)
    simp only [hb, Bool.not_true, Bool.false_or, List.length_nil, Nat.zero_add] at this
    exact blt_iff.1 this

/-- The operations that are not run yet, in their order. -/
def leftOf (n : Nat) (listed : Array Bool) : List Nat := (List.range n).filter fun i => !listed.getD i true

theorem range_split {n i : Nat} (h : i < n) : List.range n = List.range i ++ i :: List.range' (i + 1) (n - i - 1) := by
  rw [List.range_eq_range', List.range_eq_range']
  have e1 : n = i + (1 + (n - i - 1)) := by omega
  have e2 : i :: List.range' (i + 1) (n - i - 1) = List.range' i (1 + (n - i - 1)) := by
    rw [Nat.add_comm 1]; rfl
  rw [e2]
  have := List.range'_append_1 (s := 0) (m := i) (n := 1 + (n - i - 1))
  rw [Nat.zero_add] at this
  rw [this, ← e1]

theorem leftOf_split {n i : Nat} {listed : Array Bool} (h : i < n) (hi : listed.getD i true = false) :
    leftOf n listed = (List.range i).filter (fun j => !listed.getD j true) ++ i :: (List.range' (i + 1) (n - i - 1)).filter (fun j => !listed.getD j true) ∧
    leftOf n (listed.setIfInBounds i true) = (List.range i).filter (fun j => !listed.getD j true) ++ (List.range' (i + 1) (n - i - 1)).filter (fun j => !listed.getD j true) := by
  unfold leftOf
  rw [range_split h]
  constructor
  · rw [List.filter_append, List.filter_cons_of_pos (by simp [hi])]
  · rw [List.filter_append, List.filter_cons_of_neg]
    · congr 1
      · refine List.filter_congr fun j hj => ?_
        rw [getD_set_ne true (by rw [List.mem_range] at hj; omega)]
      · refine List.filter_congr fun j hj => ?_
        rw [getD_set_ne true (by rw [List.mem_range'_1] at hj; omega)]
    · have hlt : i < listed.size := by
        rcases Nat.lt_or_ge i listed.size with q | q
        · exact q
        · simp [Array.getElem?_eq_none q] at hi
      simp [hlt]

theorem getD_false {listed : Array Bool} {i : Nat} (h : listed.getD i false = true) : listed.getD i true = true := by
  rcases Nat.lt_or_ge i listed.size with q | q
  · simp [q] at h ⊢; exact h
  · simp [Array.getElem?_eq_none q]
theorem getD_true {listed : Array Bool} {i : Nat} (hi : i < listed.size) (h : listed.getD i true = true) : listed.getD i false = true := by
  simp [hi] at h ⊢; exact h

theorem filterMap_range (l : List Oper) : (List.range l.length).filterMap (fun i => l[i]?) = l := by
  induction l with
  | nil => rfl
  | cons x l ih =>
    rw [List.length_cons, List.range_succ_eq_map, List.filterMap_cons]
    simp only [List.getElem?_cons_zero, List.filterMap_map]
    congr 1
end

section
variable {rd : Option Nat} {C : Ctx} {w0 : World} {ds : List Deferred} {ρ : Nat → Option Nat} {O S : Nat → Prop} {s s' : St} {a : Act} {w : World} {ops : Array Oper} {call : FuncId → List AV → Hp → Option (AV × Hp)}

theorem draw_run (G : GOK C w0) (H : Callees C w0 call) (hd : drawOK C ops = true) {Q : Exit → Act → World → Prop} : (C.P.follows .mixedOrders = true) ∧ ∃ Dn : Array Bool → Prop, Dn (Array.replicate ops.size false) ∧
    ∀ (fuel : Nat) (listed : Array Bool), listed.size = ops.size → Dn listed → (leftOf ops.size listed).length ≤ fuel → ∀ {ρ : Nat → Option Nat} {O : Nat → Prop} {s : St} {a : Act} {w : World}, SR C w0 ds ρ O S s a w →
      runOps C call ops ((leftOf ops.size listed).filterMap fun i => ops[i]?) s = some s' →
      (∀ ρ' O' a' w', SR C w0 ds ρ' O' S s' a' w' → Ext ρ O S w ρ' O' S w' → Q .normal a' w') → wpAnyIn (Fr rd) 0 C.P .any ops Q fuel listed a w := by
  obtain ⟨hf, m, hm⟩ := drawOK_spec hd
  refine ⟨hf, fun listed => ∀ k j, listed.getD k false = true → (m k).testBit j = true → listed.getD j false = true, fun k j h => ?_, ?_⟩
  · exfalso
    rcases Nat.lt_or_ge k ops.size with q | q
    · simp [q] at h
    · simp [q] at h
  intro fuel
  have none_ready : ∀ listed : Array Bool, listed.size = ops.size → Region.ready .any ops listed = [] → leftOf ops.size listed = [] := by
    intro listed hsz hr
    have all : ∀ i, i < ops.size → listed.getD i true = true := by
      intro i
      induction i using Nat.strongRecOn with
      | _ i ih =>
        intro hi
        cases hl : listed.getD i true with
        | true => rfl
        | false =>
          exfalso
          have ho : ops[i]? = some ops[i] := Array.getElem?_eq_getElem hi
          have : i ∈ Region.ready .any ops listed := mem_ready.2 ⟨hl, _, ho, fun e he hb => by
            have hlt := (hm i _ ho).2.1 e he hb
            exact getD_true (by omega) (ih e.on hlt (by omega))⟩
          rw [hr] at this
          cases this
    unfold leftOf
    rw [List.filter_eq_nil_iff]
    intro i hi
    simp [all i (List.mem_range.1 hi)]
  induction fuel with
  | zero =>
    intro listed hsz hD hn ρ O s a w R h k
    have h0 : leftOf ops.size listed = [] := List.eq_nil_of_length_eq_zero (by omega)
    refine ⟨?_, ?_⟩
    · cases hr : Region.ready .any ops listed with
      | nil => rfl
      | cons i r =>
        exfalso
        have hi : i ∈ Region.ready .any ops listed := by rw [hr]; exact List.mem_cons_self ..
        obtain ⟨hl, o, ho, _⟩ := mem_ready.1 hi
        have : i ∈ leftOf ops.size listed := List.mem_filter.2 ⟨List.mem_range.2 (Array.getElem?_eq_some_iff.1 ho).1, by simp only [hl]; rfl⟩
        rw [h0] at this
        cases this
    · rw [h0] at h
      injection h with h
      subst h
      exact k _ _ _ _ R (Ext.refl ..)
  | succ fuel ih =>
    intro listed hsz hD hn ρ O s a w R h k
    refine ⟨fun hr => ?_, fun i hi => ?_⟩
    · rw [none_ready listed hsz hr] at h
      injection h with h
      subst h
      exact k _ _ _ _ R (Ext.refl ..)
    · obtain ⟨hl, o, ho, hall⟩ := mem_ready.1 hi
      have hlt := (Array.getElem?_eq_some_iff.1 ho).1
      obtain ⟨e1, e2⟩ := leftOf_split hlt hl
      obtain ⟨h1, h2, h3⟩ := hm i o ho
      have closed : ∀ j, (m i).testBit j = true → listed.getD j false = true := fun j hj => by
        obtain ⟨e, he, hb, hj⟩ := h3 j hj
        rcases hj with rfl | hj
        · exact hall e he hb
        · exact hD _ _ (hall e he hb) hj
      rw [e1, List.filterMap_append, List.filterMap_cons] at h
      simp only [ho] at h
      obtain ⟨t, ht, hrest⟩ := runOps_front H.pure _ (fun x hx => by
        obtain ⟨j, hj, hjx⟩ := List.mem_filterMap.1 hx
        obtain ⟨hj1, hj2⟩ := List.mem_filter.1 hj
        have hji := List.mem_range.1 hj1
        have hj2' : listed.getD j true = false := by
          cases hc : listed.getD j true with
          | false => rfl
          | true => simp only [hc] at hj2; cases hj2
        rcases h1 j x hji hjx with hb | hb
        · exfalso
          have := getD_false (closed j hb)
          rw [hj2'] at this
          cases this
        · exact hb) h
      refine oper_ok G R H ht ho fun ρ' O' a' w' R' E' => ?_
      refine ih _ (by simp [hsz]) ?_ ?_ R' ?_ fun ρ2 O2 a2 w2 R2 E2 => k _ _ _ _ R2 (E'.trans E2)
      · intro k j hk hj
        by_cases hki : i = k
        · subst hki
          exact getD_set_true (closed j hj)
        · rw [getD_set_ne false hki] at hk
          exact getD_set_true (hD k j hk hj)
      · rw [e2]
        rw [e1] at hn
        simp only [List.length_append, List.length_cons] at hn ⊢
        omega
      · rw [e2, List.filterMap_append]
        exact hrest

theorem region_draw (G : GOK C w0) (R : SR C w0 ds ρ O S s a w) (H : Callees C w0 call) {id : Nat} (hd : drawOK C ops = true) (h : runOps C call ops ops.toList s = some s') {Q : Exit → Act → World → Prop}
    (k : ∀ ρ' O' a' w', SR C w0 ds ρ' O' S s' a' w' → Ext ρ O S w ρ' O' S w' → Q .normal a' w') : (Code.region id ops true).wpIn (Fr rd) 0 C.P Q a w := by
  obtain ⟨hf, Dn, h0, hrun⟩ := draw_run (rd := rd) (ds := ds) (S := S) (s' := s') G H hd (Q := Q)
  obtain ⟨I', E'⟩ := R.inv.drew
  have R' : SR C w0 ds ρ O S s a { w with drawn := w.drawn + 1 } := ⟨I', fun t v hv => (R.tmp t v hv).mono E', R.sz, R.dfr⟩
  have hall : leftOf ops.size (Array.replicate ops.size false) = List.range ops.size := by
    unfold leftOf
    rw [List.filter_eq_self]
    intro i hi
    simp [List.mem_range.1 hi]
  have hops : (List.range ops.size).filterMap (fun i => ops[i]?) = ops.toList := by
    have := filterMap_range ops.toList
    simpa using this
  refine wpIn_region_any hf (hrun ops.size _ (by simp) h0 (by rw [hall]; simp) R' (by rw [hall, hops]; exact h) fun ρ2 O2 a2 w2 R2 E2 => k _ _ _ _ R2 (E'.trans E2))
end
end Go.Ab
