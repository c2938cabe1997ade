/- Regions whose order Go leaves open: one walk in the order of the text serves every order. -/
import Derived.Test.YtkoinfegbkigcaaRtE
import Derived.Orders
namespace Go.Rt

def maskOf (ms : List Nat) (o : Oper) : Nat := o.after.toList.foldl (fun s e => if Region.binds .any e then s ||| 2 ^ e.on ||| ms.getD e.on 0 else s) 0
def befs (ops : List Oper) : List Nat := ops.foldl (fun acc o => acc ++ [maskOf acc o]) []

def tmpsOf (o : Oper) : List Nat := o.op.operands.toList.filterMap fun | .tmp s => some s | _ => none

/-- The first m operations may come in any order that their edges allow; behind them the order is forced. -/
def drOk (ops : List Oper) (m : Nat) : Bool :=
  let ms := befs ops
  let n := ops.length
  (Nat.ble m n) &&
  ((List.range n).all fun i => match ops[i]? with
    | none => false
    | some o => ms.getD i 0 == maskOf ms o && (o.after.toList.all fun e => !Region.binds .any e || Nat.blt e.on i)) &&
  ((List.range m).all fun j => match ops[j]? with
    | none => false
    | some o => o.dst.isSome && ((List.range m).all fun i => match ops[i]? with
        | none => false
        | some p => Nat.beq i j || ((p.dst != o.dst) && ((tmpsOf o).all fun s => p.dst != some s || (if Nat.blt i j then (ms.getD j 0).testBit i else (ms.getD i 0).testBit j))))
      && (match o.guard with | none => true | some (g, _) => Nat.blt g j && (ms.getD j 0).testBit g)) &&
  ((List.range n).all fun j => Nat.blt j m || (List.range j).all fun i => (ms.getD j 0).testBit i)

structure DrOk (ops : List Oper) (m : Nat) (ms : List Nat) : Prop where
  le : m ≤ ops.length
  mask : ∀ i o, ops[i]? = some o → ms.getD i 0 = maskOf ms o ∧ ∀ e ∈ o.after, Region.binds .any e = true → e.on < i
  dst : ∀ i j o p, i < m → j < m → i ≠ j → ops[j]? = some o → ops[i]? = some p → p.dst ≠ o.dst
  reads : ∀ i j o p s, i < m → j < m → i ≠ j → ops[j]? = some o → ops[i]? = some p → s ∈ tmpsOf o → p.dst = some s → (i < j → (ms.getD j 0).testBit i = true) ∧ (j < i → (ms.getD i 0).testBit j = true)
  guard : ∀ j o g b, j < m → ops[j]? = some o → o.guard = some (g, b) → g < j ∧ (ms.getD j 0).testBit g = true
  tail : ∀ j, m ≤ j → j < ops.length → ∀ i, i < j → (ms.getD j 0).testBit i = true

theorem drOk_spec {ops : List Oper} {m : Nat} (h : drOk ops m = true) : DrOk ops m (befs ops) := by
  unfold drOk at h
  simp only [Bool.and_eq_true, List.all_eq_true, List.mem_range] at h
  obtain ⟨⟨⟨h1, h2⟩, h3⟩, h4⟩ := h
  have hle : m ≤ ops.length := by simpa using h1
  refine ⟨hle, ?_, ?_, ?_, ?_, ?_⟩
  · intro i o ho
    have hi := (List.getElem?_eq_some_iff.1 ho).1
    have := h2 i hi
    rw [ho] at this
    simp only [Bool.and_eq_true, beq_iff_eq, List.all_eq_true, Bool.or_eq_true, Bool.not_eq_true', Array.mem_toList_iff] at this
    refine ⟨this.1, fun e he hb => ?_⟩
    rcases this.2 e he with h5 | h5
    · rw [hb] at h5; cases h5
    · simpa using h5
  · intro i j o p hi hj hne ho hp e
    have := h3 j hj
    rw [ho] at this
    simp only [Bool.and_eq_true, List.all_eq_true, List.mem_range] at this
    have h5 := this.1.2 i hi
    rw [hp] at h5
    simp only [Bool.or_eq_true, Bool.and_eq_true, bne_iff_ne, ne_eq] at h5
    rcases h5 with h6 | h6
    · exact hne (Nat.eq_of_beq_eq_true h6)
    · exact h6.1 e
  · intro i j o p s hi hj hne ho hp hs e
    have := h3 j hj
    rw [ho] at this
    simp only [Bool.and_eq_true, List.all_eq_true, List.mem_range] at this
    have h5 := this.1.2 i hi
    rw [hp] at h5
    simp only [Bool.or_eq_true, Bool.and_eq_true, bne_iff_ne, ne_eq, List.all_eq_true] at h5
    rcases h5 with h6 | h6
    · exact absurd (Nat.eq_of_beq_eq_true h6) hne
    · rcases h6.2 s hs with h7 | h7
      · exact absurd e h7
      · by_cases hlt : i < j
        · have : Nat.blt i j = true := by simpa using hlt
          rw [if_pos this] at h7
          exact ⟨fun _ => h7, fun h => by omega⟩
        · have : ¬ Nat.blt i j = true := by simpa using hlt
          rw [if_neg this] at h7
          exact ⟨fun h => by omega, fun _ => h7⟩
  · intro j o g b hj ho hg
    have := h3 j hj
    rw [ho] at this
    simp only [Bool.and_eq_true, hg] at this
    exact ⟨by simpa using this.2.1, this.2.2⟩
  · intro j hm hj i hi
    have := h4 j hj
    simp only [Bool.or_eq_true, List.all_eq_true, List.mem_range] at this
    rcases this with h5 | h5
    · have : j < m := by simpa using h5
      omega
    · exact h5 i hi

theorem maskOf_bit {ms : List Nat} {o : Oper} {j : Nat} (h : (maskOf ms o).testBit j = true) : ∃ e ∈ o.after, Region.binds .any e = true ∧ (j = e.on ∨ (ms.getD e.on 0).testBit j = true) := by
  have key : ∀ (l : List Edge) (s : Nat), (l.foldl (fun s e => if Region.binds .any e then s ||| 2 ^ e.on ||| ms.getD e.on 0 else s) s).testBit j = true →
      s.testBit j = true ∨ ∃ e ∈ l, Region.binds .any e = true ∧ (j = e.on ∨ (ms.getD e.on 0).testBit j = true) := by
    intro l
    induction l with
    | nil => intro s h; exact .inl h
    | cons e l ih =>
      intro s h
      rw [List.foldl_cons] at h
      rcases ih _ h with h1 | ⟨e', h1, h2⟩
      · split at h1
        · rename_i hb
          simp only [Nat.testBit_or, Bool.or_eq_true] at h1
          rcases h1 with (h1 | h1) | h1
          · exact .inl h1
          · refine .inr ⟨e, by simp, hb, .inl ?_⟩
            rw [Nat.testBit_two_pow] at h1
            exact (by simpa using h1 : e.on = j).symm
          · exact .inr ⟨e, by simp, hb, .inr h1⟩
        · exact .inl h1
      · exact .inr ⟨e', by simp [h1], h2⟩
  rcases key _ _ h with h1 | ⟨e, h1, h2⟩
  · simp at h1
  · exact ⟨e, by simpa using h1, h2⟩

/-- A set that holds, with an operation, all that its edges name, holds all that its mask names. -/
theorem closed_mask {ops : List Oper} {m : Nat} {ms : List Nat} (hd : DrOk ops m ms) {S : Nat → Prop} (hS : ∀ i o, ops[i]? = some o → S i → ∀ e ∈ o.after, Region.binds .any e = true → S e.on) :
    ∀ i, i < ops.length → S i → ∀ j, (ms.getD i 0).testBit j = true → S j := by
  intro i
  induction i using Nat.strongRecOn with
  | _ i ih =>
    intro hi hs j hb
    have ho := List.getElem?_eq_getElem hi
    obtain ⟨h1, h2⟩ := hd.mask i _ ho
    rw [h1] at hb
    obtain ⟨e, he, hbd, h3⟩ := maskOf_bit hb
    have hlt := h2 e he hbd
    have hSe := hS i _ ho hs e he hbd
    rcases h3 with rfl | h3
    · exact hSe
    · exact ih e.on hlt (by omega) hSe j h3

/-- What is known of one operation. -/
structure OpFact (P : Program) (n : Nat) (M : List Res) (ops : List Oper) (sp : Option Nat) (i : Nat) (o : Oper) (F : List (Nat × Ty)) (x : Nat × Ty) : Prop where
  dst : o.dst = some x.1
  nd : isDefer o.op = false
  lt : x.1 < n
  run : (sp = some i ∧ x.2 = anyTy) ∨ (sp ≠ some i ∧ o.guard = none ∧ OpT P F M o x.2) ∨
    (sp ≠ some i ∧ ∃ j want dj c T, o.guard = some (j, want) ∧ (ops[j]?).bind (·.dst) = some dj ∧ dj < n ∧ GuardC F dj want c ∧ (c → OpT P F M o T) ∧ x.2 = When c T)

inductive DL (P : Program) (n : Nat) (M : List Res) (ops : List Oper) (sp : Option Nat) : List Oper → Nat → List (Nat × Ty) → (List (Nat × Ty) → Prop) → Prop
  | nil {i : Nat} {F : List (Nat × Ty)} {K : List (Nat × Ty) → Prop} : K F → DL P n M ops sp [] i F K
  | cons {o : Oper} {l : List Oper} {i : Nat} {F : List (Nat × Ty)} {x : Nat × Ty} {K : List (Nat × Ty) → Prop} : OpFact P n M ops sp i o F x → DL P n M ops sp l (i + 1) (x :: F) K → DL P n M ops sp (o :: l) i F K

theorem DL.ex {P : Program} {n : Nat} {M : List Res} {ops : List Oper} {sp : Option Nat} {l : List Oper} {i : Nat} {F : List (Nat × Ty)} {K : List (Nat × Ty) → Prop} (h : DL P n M ops sp l i F K) :
    ∃ Ts : List (Nat × Ty), Ts.length = l.length ∧ K (Ts.reverse ++ F) ∧ ∀ j o, l[j]? = some o → ∃ x, Ts[j]? = some x ∧ OpFact P n M ops sp (i + j) o ((Ts.take j).reverse ++ F) x := by
  induction h with
  | nil h => exact ⟨[], rfl, h, fun j o e => by simp at e⟩
  | @cons o l i F x K hx _ ih =>
    obtain ⟨Ts, h1, h2, h3⟩ := ih
    refine ⟨x :: Ts, by simp [h1], by simpa using h2, fun j o' e => ?_⟩
    cases j with
    | zero => simp at e; subst e; exact ⟨x, rfl, by simpa using hx⟩
    | succ j =>
      obtain ⟨y, h4, h5⟩ := h3 j o' (by simpa using e)
      exact ⟨y, by simpa using h4, by simpa [Nat.add_assoc, Nat.add_comm 1 j] using h5⟩

theorem look_append {A B : List (Nat × Ty)} {s : Nat} : look (A ++ B) s = (look A s).or (look B s) := by
  induction A with
  | nil => simp [look]
  | cons a A ih =>
    obtain ⟨j, T⟩ := a
    simp only [List.cons_append, look]
    cases Nat.beq s j <;> simp [ih]

theorem look_none {A : List (Nat × Ty)} {s : Nat} (h : ∀ x ∈ A, x.1 ≠ s) : look A s = none := by
  induction A with
  | nil => rfl
  | cons a A ih =>
    obtain ⟨j, T⟩ := a
    simp only [look]
    have hne := h (j, T) (by simp)
    have : Nat.beq s j = false := by
      cases hb : Nat.beq s j with
      | false => rfl
      | true => exact absurd (Nat.eq_of_beq_eq_true hb).symm hne
    rw [this]
    exact ih fun x hx => h x (by simp [hx])

theorem look_some {A : List (Nat × Ty)} {s : Nat} {T : Ty} (hm : (s, T) ∈ A) (hu : ∀ x ∈ A, x.1 = s → x = (s, T)) : look A s = some T := by
  induction A with
  | nil => cases hm
  | cons a A ih =>
    obtain ⟨j, U⟩ := a
    simp only [look]
    by_cases hj : j = s
    · subst hj
      have := hu (j, U) (by simp) rfl
      simp only [Prod.mk.injEq, true_and] at this
      subst this
      simp
    · have hb : Nat.beq s j = false := by
        cases hb : Nat.beq s j with
        | false => rfl
        | true => exact absurd (Nat.eq_of_beq_eq_true hb).symm hj
      rw [hb]
      refine ih ?_ fun x hx => hu x (by simp [hx])
      rcases List.mem_cons.1 hm with h | h
      · cases h; exact absurd rfl hj
      · exact h

/-- The facts, gathered: Ts are the slots and their types, in the order of the text. -/
structure Facts (P : Program) (n m : Nat) (M : List Res) (ops : List Oper) (ms : List Nat) (sp : Option Nat) (F0 : List (Nat × Ty)) (Ts : List (Nat × Ty)) : Prop where
  ok : DrOk ops m ms
  len : Ts.length = m
  fact : ∀ j o, j < m → ops[j]? = some o → ∃ x, Ts[j]? = some x ∧ OpFact P n M ops sp j o ((Ts.take j).reverse ++ F0) x

section
variable {P : Program} {n m : Nat} {M : List Res} {ops : List Oper} {ms : List Nat} {sp : Option Nat} {F0 Ts : List (Nat × Ty)}

theorem Facts.get (h : Facts P n m M ops ms sp F0 Ts) {j : Nat} (hj : j < m) : ∃ o x, ops[j]? = some o ∧ Ts[j]? = some x ∧ OpFact P n M ops sp j o ((Ts.take j).reverse ++ F0) x := by
  have ho := List.getElem?_eq_getElem (show j < ops.length from Nat.lt_of_lt_of_le hj h.ok.le)
  obtain ⟨x, h1, h2⟩ := h.fact j _ hj ho
  exact ⟨_, x, ho, h1, h2⟩

theorem Facts.inj (h : Facts P n m M ops ms sp F0 Ts) {i j : Nat} {x y : Nat × Ty} (hi : Ts[i]? = some x) (hj : Ts[j]? = some y) (e : x.1 = y.1) : i = j := by
  have hil : i < m := by rw [← h.len]; exact (List.getElem?_eq_some_iff.1 hi).1
  have hjl : j < m := by rw [← h.len]; exact (List.getElem?_eq_some_iff.1 hj).1
  obtain ⟨o, x', h1, h2, h3⟩ := h.get hil
  obtain ⟨p, y', h4, h5, h6⟩ := h.get hjl
  rw [hi] at h2; cases h2
  rw [hj] at h5; cases h5
  by_cases hne : i = j
  · exact hne
  · exact absurd (by rw [h3.dst, h6.dst, e]) (h.ok.dst i j p o hil hjl hne h4 h1)

/-- What the text's order gives for a slot: what the operation ahead that writes it gives, or what was there. -/
theorem Facts.look (h : Facts P n m M ops ms sp F0 Ts) (j s : Nat) : (∃ a x, a < j ∧ Ts[a]? = some x ∧ x.1 = s ∧ Rt.look ((Ts.take j).reverse ++ F0) s = some x.2) ∨
    ((∀ a x, a < j → Ts[a]? = some x → x.1 ≠ s) ∧ Rt.look ((Ts.take j).reverse ++ F0) s = Rt.look F0 s) := by
  by_cases hex : ∃ a x, a < j ∧ Ts[a]? = some x ∧ x.1 = s
  · obtain ⟨a, x, h1, h2, h3⟩ := hex
    refine .inl ⟨a, x, h1, h2, h3, ?_⟩
    rw [look_append, look_some (A := (Ts.take j).reverse) (s := s) (T := x.2)]
    · rfl
    · rw [List.mem_reverse]
      have : (Ts.take j)[a]? = some x := by rw [List.getElem?_take, if_pos h1]; exact h2
      subst h3
      exact List.mem_of_getElem? this
    · intro y hy e
      rw [List.mem_reverse] at hy
      obtain ⟨b, hb⟩ := List.getElem?_of_mem hy
      rw [List.getElem?_take] at hb
      split at hb
      · have := h.inj h2 hb (by rw [h3, e])
        subst this
        rw [h2] at hb; cases hb
        rw [← h3]
      · cases hb
  · refine .inr ⟨fun a x h1 h2 h3 => hex ⟨a, x, h1, h2, h3⟩, ?_⟩
    rw [look_append, look_none]
    · rfl
    · intro y hy e
      rw [List.mem_reverse] at hy
      obtain ⟨b, hb⟩ := List.getElem?_of_mem hy
      rw [List.getElem?_take] at hb
      split at hb
      · rename_i hlt; exact hex ⟨b, y, hlt, hb, e⟩
      · cases hb

def MemX (C : Ctx) (M : List Res) (sp : Option Nat) (SpD : Nat) (β : Type) (T : β → Ty) (r : β → Res) (L : Array Bool) (t : Array Value) (w : World) (V : View) : Prop :=
  match sp with
  | none => Mem M w V ∧ IdsOk C M
  | some ia => if L.getD ia false = true then ∃ x, (T x).p (t.getD SpD undef) V ∧ Mem (r x :: M) w V ∧ IdsOk C (r x :: M) else Mem M w V ∧ IdsOk C M

/-- The state where the operations L are done. -/
structure Inv (P : Program) (C : Ctx) (n m : Nat) (M : List Res) (ops : List Oper) (sp : Option Nat) (SpD : Nat) (β : Type) (T : β → Ty) (r : β → Res) (F0 Ts : List (Nat × Ty)) (L : Array Bool) (t : Array Value) (w : World) (V : View) : Prop where
  size : t.size = n
  lsize : L.size = ops.length
  done : ∀ i x, Ts[i]? = some x → L.getD i false = true → x.2.p (t.getD x.1 undef) V
  old : ∀ s, (∀ i x, Ts[i]? = some x → L.getD i false = true → x.1 ≠ s) → ∀ U, Rt.look F0 s = some U → U.p (t.getD s undef) V
  closed : ∀ i o, ops[i]? = some o → L.getD i false = true → ∀ e ∈ o.after, Region.binds .any e = true → L.getD e.on false = true
  evo : Evo C.X C.w0 C.V0 w V
  mem : MemX C M sp SpD β T r L t w V

theorem Mem.tail {r : Res} {M : List Res} {w : World} {V : View} (h : Mem (r :: M) w V) : Mem M w V :=
  ⟨by
    have := h.nodup
    unfold ids at *
    rw [List.filterMap_cons] at this
    split at this
    · exact this
    · exact (List.nodup_cons.1 this).2, fun r' hr => h.all r' (by simp [hr])⟩

theorem IdsOk.tail {C : Ctx} {r : Res} {M : List Res} (h : IdsOk C (r :: M)) : IdsOk C M := fun b hb => h b (by
  obtain ⟨r', h1, h2⟩ := mem_ids.1 hb
  exact mem_ids.2 ⟨r', by simp [h1], h2⟩)

variable {C : Ctx} {SpD : Nat} {β : Type} {T : β → Ty} {r : β → Res} {L : Array Bool} {t : Array Value} {w : World} {V : View}

theorem Inv.memM (h : Inv P C n m M ops sp SpD β T r F0 Ts L t w V) : Mem M w V ∧ IdsOk C M := by
  have := h.mem
  unfold MemX at this
  cases sp with
  | none => exact this
  | some ia =>
    simp only at this
    split at this
    · obtain ⟨x, _, h1, h2⟩ := this; exact ⟨h1.tail, h2.tail⟩
    · exact this

theorem getD_tf {L : Array Bool} {i : Nat} (h : L.getD i true = false) : L.getD i false = false := by
  rw [Array.getD_eq_getD_getElem?] at *
  cases hg : L[i]? with
  | none => rw [hg] at h; simp at h
  | some b => rw [hg] at h; simpa using h

theorem set_getD {L : Array Bool} {i j : Nat} (hi : i < L.size) : (L.setIfInBounds i true).getD j false = if j = i then true else L.getD j false := by
  by_cases e : j = i
  · subst e; simp [Array.getD_eq_getD_getElem?, hi]
  · rw [if_neg e, getD_set_ne false (fun h => e h.symm)]

theorem Inv.operands (hf : Facts P n m M ops ms sp F0 Ts) (inv : Inv P C n m M ops sp SpD β T r F0 Ts L t w V) {i : Nat} {o : Oper} (hi : i < m) (ho : ops[i]? = some o)
    (hun : L.getD i false = false) (hed : ∀ e ∈ o.after, Region.binds .any e = true → L.getD e.on false = true) :
    (∀ s, (s ∈ tmpsOf o ∨ ∃ g b p, o.guard = some (g, b) ∧ ops[g]? = some p ∧ p.dst = some s) → TFx ((Ts.take i).reverse ++ F0) (.tmp s) t V) := by
  intro s hs U hU
  have hlen : i < ops.length := Nat.lt_of_lt_of_le hi hf.ok.le
  -- what i's mask names is listed
  have hmask : ∀ j, (ms.getD i 0).testBit j = true → L.getD j false = true := by
    intro j hb
    obtain ⟨h1, h2⟩ := hf.ok.mask i o ho
    rw [h1] at hb
    obtain ⟨e, he, hbd, h3⟩ := maskOf_bit hb
    have hl := hed e he hbd
    rcases h3 with rfl | h3
    · exact hl
    · exact closed_mask (S := fun k => L.getD k false = true) hf.ok inv.closed e.on (Nat.lt_trans (h2 e he hbd) hlen) hl j h3
  rcases hf.look i s with ⟨a, z, h1, h2, h3, h4⟩ | ⟨h1, h2⟩
  · rw [h4] at hU
    cases hU
    have ham : a < m := Nat.lt_trans h1 hi
    obtain ⟨p, z', hp, hz', hfact⟩ := hf.get ham
    rw [h2] at hz'; cases hz'
    have hla : L.getD a false = true := by
      rcases hs with hs | ⟨g, b, q, hg, hq, hqd⟩
      · exact hmask a ((hf.ok.reads a i o p s ham hi (by omega) ho hp hs (by rw [hfact.dst, h3])).1 h1)
      · obtain ⟨hgl, hgb⟩ := hf.ok.guard i o g b hi ho hg
        have : a = g := by
          by_cases e : a = g
          · exact e
          · have hgm : g < m := by omega
            obtain ⟨q', y, hq', hy, hqf⟩ := hf.get hgm
            rw [hq] at hq'; cases hq'
            exact absurd (by rw [hfact.dst, h3, ← hqd]) (hf.ok.dst a g q p ham hgm e hq hp)
        subst this
        exact hmask _ hgb
    have := inv.done a z h2 hla
    rw [h3] at this
    exact this
  · rw [h2] at hU
    refine inv.old s ?_ U hU
    intro a z hz hla e
    have ham : a < m := by rw [← hf.len]; exact (List.getElem?_eq_some_iff.1 hz).1
    obtain ⟨p, z', hp, hz', hfact⟩ := hf.get ham
    rw [hz] at hz'; cases hz'
    rcases Nat.lt_trichotomy a i with hlt | heq | hgt
    · exact h1 a z hlt hz e
    · subst heq; rw [hun] at hla; cases hla
    · rcases hs with hs | ⟨g, b, q, hg, hq, hqd⟩
      · have hb := (hf.ok.reads a i o p s ham hi (by omega) ho hp hs (by rw [hfact.dst, e])).2 hgt
        have := closed_mask (S := fun k => L.getD k false = true) hf.ok inv.closed a (Nat.lt_of_lt_of_le ham hf.ok.le) hla i hb
        rw [hun] at this; cases this
      · obtain ⟨hgl, hgb⟩ := hf.ok.guard i o g b hi ho hg
        have hgm : g < m := by omega
        obtain ⟨q', y, hq', hy, hqf⟩ := hf.get hgm
        rw [hq] at hq'; cases hq'
        exact h1 g y hgl hy (by have := hqf.dst; rw [hqd] at this; exact (Option.some.inj this).symm)

theorem Inv.next (hf : Facts P n m M ops ms sp F0 Ts) (inv : Inv P C n m M ops sp SpD β T r F0 Ts L t w V) {i : Nat} {o : Oper} {x : Nat × Ty} (hi : i < m) (ho : ops[i]? = some o) (hx : Ts[i]? = some x)
    (hd : o.dst = some x.1) (hlt : x.1 < n) (hed : ∀ e ∈ o.after, Region.binds .any e = true → L.getD e.on false = true)
    {v : Value} {w' : World} {V' : View} (hle : V.Le V') (hv : x.2.p v V') (he : Evo C.X C.w0 C.V0 w' V')
    (hm : MemX C M sp SpD β T r (L.setIfInBounds i true) (put o v t) w' V') :
    Inv P C n m M ops sp SpD β T r F0 Ts (L.setIfInBounds i true) (put o v t) w' V' := by
  have hiL : i < L.size := by rw [inv.lsize]; exact Nat.lt_of_lt_of_le hi hf.ok.le
  have hput : put o v t = t.setIfInBounds x.1 v := by unfold put; rw [hd]
  have hsame : ∀ s, s ≠ x.1 → (put o v t).getD s undef = t.getD s undef := fun s hs => by
    rw [hput]; simp [Array.getD_eq_getD_getElem?, Ne.symm hs]
  have hself : (put o v t).getD x.1 undef = v := by
    rw [hput]; simp [Array.getD_eq_getD_getElem?, show x.1 < t.size by rw [inv.size]; exact hlt]
  refine ⟨by rw [size_put]; exact inv.size, by simp [inv.lsize], ?_, ?_, ?_, he, hm⟩
  · intro j y hy hl
    rw [set_getD hiL] at hl
    by_cases e : j = i
    · subst e; rw [hx] at hy; cases hy; rw [hself]; exact hv
    · rw [if_neg e] at hl
      have hne : y.1 ≠ x.1 := fun h => e (hf.inj hy hx h)
      rw [hsame _ hne]
      exact y.2.mono _ _ _ hle (inv.done j y hy hl)
  · intro s hs U hU
    have hne : s ≠ x.1 := fun h => hs i x hx (by rw [set_getD hiL]; simp) h.symm
    rw [hsame _ hne]
    refine U.mono _ _ _ hle (inv.old s (fun j y hy hl => hs j y hy ?_) U hU)
    rw [set_getD hiL]
    split
    · rfl
    · exact hl
  · intro j p hp hl e hem hb
    rw [set_getD hiL] at hl ⊢
    split
    · rfl
    · split at hl
      · rename_i hj; subst hj; rw [ho] at hp; cases hp; exact hed e hem hb
      · exact inv.closed j p hp hl e hem hb

/-- What the memory is behind an operation that turns no resource. -/
theorem MemX.pure {ia : Option Nat} {L : Array Bool} {t t' : Array Value} {w w' : World} {V V' : View} {i : Nat} (h : MemX C M ia SpD β T r L t w V) (hh : Has w V) (he : Evo [] w V w' V') (hL : i < L.size)
    (hi : ia ≠ some i) (ht : ∀ a, ia = some a → L.getD a false = true → t'.getD SpD undef = t.getD SpD undef) : MemX C M ia SpD β T r (L.setIfInBounds i true) t' w' V' := by
  unfold MemX at *
  cases ia with
  | none => exact ⟨h.1.evo hh he (by simp), h.2⟩
  | some a =>
    have hne : a ≠ i := fun e => hi (by rw [e])
    simp only at h ⊢
    rw [set_getD hL, if_neg hne]
    split
    · rename_i hla
      rw [if_pos hla] at h
      obtain ⟨x, h1, h2, h3⟩ := h
      exact ⟨x, by rw [ht a rfl hla]; exact (T x).mono _ _ _ (he.le hh) h1, h2.evo hh he (by simp), h3⟩
    · rename_i hla
      rw [if_neg hla] at h
      exact ⟨h.1.evo hh he (by simp), h.2⟩

/-- One operation more, in whatever order. -/
theorem Inv.step {b : Base} {ds : List Deferred} {k : List Item} {R : Value → World → Prop} (hf : Facts P n m M ops ms sp F0 Ts)
    (hsp : ∀ ia, sp = some ia → ∃ o, ops[ia]? = some o ∧ o.guard = none ∧ o.dst = some SpD ∧ ia < m ∧ OpM P [] M o β T (fun x => r x :: M) ∧ ∀ x, (r x).id ≠ none)
    (inv : Inv P C n m M ops sp SpD β T r F0 Ts L t w V) {i : Nat} (hi : i < m) (hr : i ∈ Region.ready .any ops.toArray L) (rest : List Nat)
    (hK : ∀ t' w' V', Inv P C n m M ops sp SpD β T r F0 Ts (L.setIfInBounds i true) t' w' V' → Runs P b (b.at t' ds (.inRegion ops.toArray rest :: k)) w' R) :
    Runs P b (b.at t ds (.inRegion ops.toArray (i :: rest) :: k)) w R := by
  obtain ⟨o, x, ho, hx, fact⟩ := hf.get hi
  obtain ⟨hun, o', ho', hed⟩ := mem_ready.1 hr
  have ho'' : ops[i]? = some o' := by simpa using ho'
  rw [ho] at ho''; cases ho''
  have hun' := getD_tf hun
  have hops := inv.operands hf hi ho hun' hed
  have hiL : i < L.size := by rw [inv.lsize]; exact Nat.lt_of_lt_of_le hi hf.ok.le
  have hTFo : TFo ((Ts.take i).reverse ++ F0) o t V := by
    intro y hy
    cases y with
    | tmp s => exact hops s (.inl (by unfold tmpsOf; rw [List.mem_filterMap]; exact ⟨.tmp s, by simpa using hy, rfl⟩))
    | const => trivial
    | global => trivial
    | func => trivial
  obtain ⟨hM, hI⟩ := inv.memM
  have hHas := inv.evo.has
  have hsd : ∀ a, sp = some a → a ≠ i → x.1 ≠ SpD := by
    intro a ha hne e
    obtain ⟨p, hp, _, hpd, ham, _⟩ := hsp a ha
    exact hf.ok.dst i a p o hi ham (Ne.symm hne) hp ho (by rw [fact.dst, hpd, e])
  have hkeep : sp ≠ some i → ∀ v a, sp = some a → L.getD a false = true → (put o v t).getD SpD undef = t.getD SpD undef := by
    intro hspi v a ha _
    have hne : x.1 ≠ SpD := hsd a ha (fun e => hspi (by rw [ha, e]))
    unfold put; rw [fact.dst]
    simp [Array.getD_eq_getD_getElem?, hne]
  have hwr : ops.toArray[i]? = some o := by simpa using ho
  rcases fact.run with ⟨hs, hany⟩ | ⟨hs, hg, hop⟩ | ⟨hs, j, want, dj, c, T', hg, hdj, hdjn, hgc, hop, hT⟩
  · obtain ⟨p, hp, hpg, hpd, _, hpop, hpid⟩ := hsp i hs
    rw [ho] at hp; cases hp
    refine Runs.op hwr (by simp [Region.wanted, hpg]) fact.nd ((hpop.h t w V (fun y _ => by cases y <;> first | (intro U hU; simp [Rt.look] at hU) | trivial) hHas hM).mono ?_)
    rintro v w' ⟨y, V', he, hty, hmem, hids⟩
    refine hK _ w' V' (inv.next hf hi ho hx fact.dst fact.lt hed (he.le hHas) (by rw [hany]; trivial) (inv.evo.trans he hI) ?_)
    unfold MemX
    rw [hs]
    simp only
    rw [set_getD hiL, if_pos rfl, if_pos rfl]
    refine ⟨y, ?_, hmem, fun b' hb' => ?_⟩
    · have : x.1 = SpD := by have := fact.dst; rw [hpd] at this; exact (Option.some.inj this).symm
      unfold put; rw [hpd]
      simpa [Array.getD_eq_getD_getElem?, show SpD < t.size by rw [inv.size, ← this]; exact fact.lt] using hty
    · rcases hids b' hb' with h6 | h6
      · exact hI b' h6
      · exact .inr (Nat.le_trans inv.evo.size h6)
  · refine Runs.op hwr (by simp [Region.wanted, hg]) fact.nd ((hop.h t w V hTFo hHas hM).mono ?_)
    rintro v w' ⟨V', he, hv⟩
    exact hK _ w' V' (inv.next hf hi ho hx fact.dst fact.lt hed (he.le hHas) hv (inv.evo.trans he (by simp)) (MemX.pure inv.mem hHas he hiL hs (hkeep hs v)))
  · obtain ⟨Tg, hlook, hiff⟩ := hgc.h
    have hgj : ∃ p, ops[j]? = some p ∧ p.dst = some dj := by
      cases hoj : ops[j]? with
      | none => rw [hoj] at hdj; cases hdj
      | some p => rw [hoj] at hdj; exact ⟨p, rfl, hdj⟩
    obtain ⟨p, hp1, hp2⟩ := hgj
    have hgv := hops dj (.inr ⟨j, want, p, hg, hp1, hp2⟩) Tg hlook
    have hy := yields_of (ops := ops.toArray) (t := t) (j := j) (dj := dj) (by simpa using hdj) (by rw [inv.size]; exact hdjn) want
    have hc := hiff _ V hgv
    by_cases hcc : c
    · refine Runs.op hwr (by simp [Region.wanted, hg, hy.2 (hc.2 hcc)]) fact.nd (((hop hcc).h t w V hTFo hHas hM).mono ?_)
      rintro v w' ⟨V', he, hv⟩
      exact hK _ w' V' (inv.next hf hi ho hx fact.dst fact.lt hed (he.le hHas) (by rw [hT]; exact ⟨fun _ => hv, fun hn => absurd hcc hn⟩) (inv.evo.trans he (by simp)) (MemX.pure inv.mem hHas he hiL hs (hkeep hs v)))
    · have hw : Region.wanted o (yielded ops.toArray t) = false := by
        have : ¬ yielded ops.toArray t j = some want := fun e => hcc (hc.1 (hy.1 e))
        simp [Region.wanted, hg, this]
      refine Runs.head (fun cs => skip_step hwr hw) ?_
      have he : Evo [] w V w V := Evo.refl hHas
      exact hK _ w V (inv.next hf hi ho hx fact.dst fact.lt hed (View.Le.refl _) (by rw [hT]; exact ⟨fun e => absurd e hcc, fun _ => rfl⟩) inv.evo (MemX.pure inv.mem hHas he hiL hs (hkeep hs undef)))

theorem go_cons (md : Region.Mode) (O : Array Oper) (fuel t : Nat) (L : Array Bool) (hne : Region.ready md O L ≠ []) :
    ∃ i t', i ∈ Region.ready md O L ∧ Region.linearise.go md O (fuel + 1) t L [] = i :: Region.linearise.go md O fuel t' (L.setIfInBounds i true) [] := by
  have hlt : t % (Region.ready md O L).length < (Region.ready md O L).length := Nat.mod_lt _ (List.length_pos_iff.2 hne)
  have hi := List.getElem?_eq_getElem hlt
  refine ⟨(Region.ready md O L)[t % (Region.ready md O L).length], t / (Region.ready md O L).length, List.getElem_mem hlt, ?_⟩
  simp only [Region.linearise.go]
  change (match (Region.ready md O L)[t % (Region.ready md O L).length]? with
      | some i => Region.linearise.go md O fuel (t / (Region.ready md O L).length) (L.setIfInBounds i true) [i]
      | none => [].reverse) = _
  rw [hi]
  simp only []
  rw [linearise_go_acc, List.reverse_singleton, List.singleton_append]

theorem go_nil (md : Region.Mode) (O : Array Oper) (fuel t : Nat) (L : Array Bool) (h : Region.ready md O L = []) : Region.linearise.go md O fuel t L [] = [] := by
  cases fuel with
  | zero => rfl
  | succ fuel =>
    simp only [Region.linearise.go]
    change (match (Region.ready md O L)[t % (Region.ready md O L).length]? with
      | some i => Region.linearise.go md O fuel (t / (Region.ready md O L).length) (L.setIfInBounds i true) [i]
      | none => [].reverse) = _
    rw [h]; rfl

/-- Behind place m the order is forced. -/
theorem go_tail (hok : DrOk ops m ms) : ∀ d m' fuel t (L : Array Bool), ops.length - m' = d → m ≤ m' → m' ≤ ops.length → L.size = ops.length → (∀ i, i < m' → L.getD i false = true) → (∀ i, m' ≤ i → i < ops.length → L.getD i false = false) → d ≤ fuel →
    Region.linearise.go .any ops.toArray fuel t L [] = List.range' m' d := by
  intro d
  induction d with
  | zero =>
    intro m' fuel t L h1 h2 h3 h4 h5 h6 h7
    refine go_nil _ _ _ _ _ ?_
    refine List.eq_nil_iff_forall_not_mem.2 fun j hj => ?_
    obtain ⟨hu, o, ho, _⟩ := mem_ready.1 hj
    have hjl : j < ops.length := by simpa using (Array.getElem?_eq_some_iff.1 ho).1
    have := h5 j (by omega)
    rw [getD_tf hu] at this; cases this
  | succ d ih =>
    intro m' fuel t L h1 h2 h3 h4 h5 h6 h7
    obtain ⟨fuel, rfl⟩ : ∃ f, fuel = f + 1 := ⟨fuel - 1, by omega⟩
    have hm' : m' < ops.length := by omega
    have ho := List.getElem?_eq_getElem hm'
    have hmem : m' ∈ Region.ready .any ops.toArray L := mem_ready.2 ⟨by
      have := h6 m' (Nat.le_refl _) hm'
      rw [Array.getD_eq_getD_getElem?] at *
      rw [Array.getElem?_eq_getElem (by omega)] at *
      simpa using this, _, by simp, fun e he hb => h5 _ ((hok.mask m' _ ho).2 e he hb)⟩
    have honly : ∀ j ∈ Region.ready .any ops.toArray L, j = m' := by
      intro j hj
      obtain ⟨hu, o, hoj, hed⟩ := mem_ready.1 hj
      have hoj' : ops[j]? = some o := by simpa using hoj
      have hjl : j < ops.length := (List.getElem?_eq_some_iff.1 hoj').1
      rcases Nat.lt_trichotomy j m' with hlt | heq | hgt
      · have := h5 j hlt; rw [getD_tf hu] at this; cases this
      · exact heq
      · have hb := hok.tail j (by omega) hjl m' hgt
        rw [(hok.mask j o hoj').1] at hb
        obtain ⟨e, he, hbd, h8⟩ := maskOf_bit hb
        have hl := hed e he hbd
        have helt := (hok.mask j o hoj').2 e he hbd
        have hem : e.on < m' := by
          by_cases h9 : e.on < m'
          · exact h9
          · have := h6 e.on (by omega) (by omega); rw [this] at hl; cases hl
        rcases h8 with h8 | h8
        · omega
        · have := closed_mask (S := fun k => k < m') hok (fun a p hp hlt e he hb => Nat.lt_trans ((hok.mask a p hp).2 e he hb) hlt) e.on (by omega) hem m' h8
          omega
    obtain ⟨i, t', hi, hgo⟩ := go_cons .any ops.toArray fuel t L (fun e => by rw [e] at hmem; cases hmem)
    rw [hgo, honly i hi]
    rw [List.range'_succ]
    congr 1
    have hmL : m' < L.size := by omega
    refine ih (m' + 1) fuel t' _ (by omega) (by omega) (by omega) (by simp [h4]) ?_ ?_ (by omega)
    · intro a ha
      rw [set_getD hmL]
      split
      · rfl
      · exact h5 a (by omega)
    · intro a ha hl
      rw [set_getD hmL, if_neg (by omega)]
      exact h6 a (by omega) hl

theorem Inv.phase {b : Base} {ds : List Deferred} {k : List Item} {R : Value → World → Prop} (hf : Facts P n m M ops ms sp F0 Ts)
    (hsp : ∀ ia, sp = some ia → ∃ o, ops[ia]? = some o ∧ o.guard = none ∧ o.dst = some SpD ∧ ia < m ∧ OpM P [] M o β T (fun x => r x :: M) ∧ ∀ x, (r x).id ≠ none)
    (hfin : ∀ L t w V, Inv P C n m M ops sp SpD β T r F0 Ts L t w V → (∀ i, i < m → L.getD i false = true) →
      Runs P b (b.at t ds (.inRegion ops.toArray (List.range' m (ops.length - m)) :: k)) w R) :
    ∀ fuel tt L t w V, Inv P C n m M ops sp SpD β T r F0 Ts L t w V → (∀ i, m ≤ i → i < ops.length → L.getD i false = false) → L.toList.count false ≤ fuel →
      Runs P b (b.at t ds (.inRegion ops.toArray (Region.linearise.go .any ops.toArray fuel tt L []) :: k)) w R := by
  intro fuel
  induction fuel with
  | zero =>
    intro tt L t w V inv hT hc
    have hall : ∀ i, i < L.size → L.getD i false = true := by
      intro i hi
      have h0 : L.toList.count false = 0 := by omega
      have hnm := List.count_eq_zero.1 h0
      cases hL : L[i] with
      | true => simp [Array.getD_eq_getD_getElem?, hi, hL]
      | false => exact absurd (by rw [← hL]; exact Array.getElem_mem_toList hi) hnm
    have hn : ops.length ≤ m := by
      by_cases h : ops.length ≤ m
      · exact h
      · have h1 := hT m (Nat.le_refl _) (by omega)
        have h2 := hall m (by rw [inv.lsize]; omega)
        rw [h1] at h2; cases h2
    have := hfin L t w V inv (fun i hi => hall i (by rw [inv.lsize]; exact Nat.lt_of_lt_of_le hi hf.ok.le))
    rw [show ops.length - m = 0 from by omega] at this
    exact this
  | succ fuel ih =>
    intro tt L t w V inv hT hc
    by_cases hall : ∀ i, i < m → L.getD i false = true
    · have := hfin L t w V inv hall
      have hcount : L.toList.count false = ops.length - m := by
        have hLl : L.toList = List.replicate m true ++ List.replicate (ops.length - m) false := by
          apply List.ext_getElem
          · have := hf.ok.le
            simp [inv.lsize]; omega
          · intro j h1 h2
            have hj : j < L.size := by simpa using h1
            rw [List.getElem_append]
            have hg : L.getD j false = L[j] := by simp [Array.getD_eq_getD_getElem?, hj]
            split
            · rename_i hjm
              simp only [List.length_replicate] at hjm
              have := hall j hjm
              rw [hg] at this
              simpa using this
            · rename_i hjm
              simp only [List.length_replicate, Nat.not_lt] at hjm
              have := hT j hjm (by rw [← inv.lsize]; exact hj)
              rw [hg] at this
              simpa using this
        rw [hLl]
        simp [List.count_append, List.count_replicate]
      rw [go_tail hf.ok (ops.length - m) m (fuel + 1) tt L rfl (Nat.le_refl _) hf.ok.le inv.lsize hall hT (by omega)]
      exact this
    · -- the first that is not listed is ready
      have hex : ∃ i, i < m ∧ L.getD i false = false ∧ ∀ j, j < i → L.getD j false = true := by
        have h0 : ∃ i, i < m ∧ L.getD i false = false := by
          false_or_by_contra
          rename_i hno
          refine hall fun i hi => ?_
          cases hL : L.getD i false with
          | true => rfl
          | false => exact absurd ⟨i, hi, hL⟩ hno
        obtain ⟨i, hi, hL⟩ := h0
        clear hall
        induction i using Nat.strongRecOn with
        | _ i ih2 =>
          by_cases h : ∀ j, j < i → L.getD j false = true
          · exact ⟨i, hi, hL, h⟩
          · have : ∃ j, j < i ∧ L.getD j false = false := by
              false_or_by_contra
              rename_i hno
              refine h fun j hj => ?_
              cases hLj : L.getD j false with
              | true => rfl
              | false => exact absurd ⟨j, hj, hLj⟩ hno
            obtain ⟨j, hj, hLj⟩ := this
            exact ih2 j hj (by omega) hLj
      obtain ⟨i0, hi0, hL0, hbelow⟩ := hex
      have hi0l : i0 < ops.length := Nat.lt_of_lt_of_le hi0 hf.ok.le
      have ho0 := List.getElem?_eq_getElem hi0l
      have hmem : i0 ∈ Region.ready .any ops.toArray L := mem_ready.2 ⟨by
        rw [Array.getD_eq_getD_getElem?] at *
        rw [Array.getElem?_eq_getElem (by rw [inv.lsize]; exact hi0l)] at *
        simpa using hL0, _, by simp, fun e he hb => hbelow _ ((hf.ok.mask i0 _ ho0).2 e he hb)⟩
      obtain ⟨i, t', hi, hgo⟩ := go_cons .any ops.toArray fuel tt L (fun e => by rw [e] at hmem; cases hmem)
      rw [hgo]
      obtain ⟨hu, o, hoi, hed⟩ := mem_ready.1 hi
      have hoi' : ops[i]? = some o := by simpa using hoi
      have hil : i < ops.length := (List.getElem?_eq_some_iff.1 hoi').1
      have him : i < m := by
        by_cases h : i < m
        · exact h
        · have hb := hf.ok.tail i (by omega) hil i0 (by omega)
          rw [(hf.ok.mask i o hoi').1] at hb
          obtain ⟨e, he, hbd, h8⟩ := maskOf_bit hb
          have hl := hed e he hbd
          have : L.getD i0 false = true := by
            rcases h8 with h8 | h8
            · rw [h8]; exact hl
            · exact closed_mask (S := fun k => L.getD k false = true) hf.ok inv.closed e.on (Nat.lt_trans ((hf.ok.mask i o hoi').2 e he hbd) hil) hl i0 h8
          rw [hL0] at this; cases this
      refine inv.step hf hsp him hi _ fun t1 w1 V1 inv1 => ?_
      have hiL : i < L.size := by rw [inv.lsize]; exact hil
      refine ih t' _ t1 w1 V1 inv1 (fun j h1 h2 => by rw [set_getD hiL, if_neg (by omega)]; exact hT j h1 h2) ?_
      have hLi : L[i] = false := by
        have := getD_tf hu
        simpa [Array.getD_eq_getD_getElem?, hiL] using this
      rw [Array.toList_setIfInBounds, List.count_set (by simpa using hiL)]
      have e1 : (L.toList[i]'(by simpa using hiL) == false) = true := by simp [hLi]
      have e2 : (true == false) = false := rfl
      rw [e1, e2, if_pos rfl, if_neg (by simp)]
      omega

/-- The same, where one of the first m operations makes a resource (a new block). -/
theorem gd_regionA {b : Base} {ds : List Deferred} {k : List Item} {F : List (Nat × Ty)} {R : Value → World → Prop} {l : List Oper} {id : Nat} (m ia : Nat) (hP : P.follows .mixedOrders = true) (hok : drOk l m = true)
    {oA : Oper} {d : Nat} {β : Type} {T : β → Ty} {r : β → Res} (hA : l[ia]? = some oA) (hAm : ia < m) (hg : oA.guard = none) (hd : oA.dst = some d) (hopA : OpM P [] M oA β T (fun x => r x :: M)) (hid : ∀ x, (r x).id ≠ none)
    (h : DL P n M l (some ia) (l.take m) 0 F (fun F' => ∀ x, GL P C b n ds l (l.drop m) m k ((d, T x) :: F') (r x :: M) R)) : G P C b n ds (.code (.region id l.toArray true) :: k) F M R := by
  obtain ⟨Ts, h1, h2, h3⟩ := h.ex
  have hD := drOk_spec hok
  have hf : Facts P n m M l (befs l) (some ia) F Ts := ⟨hD, by rw [h1, List.length_take]; have := hD.le; omega, fun j o hj ho => by
    have := h3 j o (by rw [List.getElem?_take, if_pos hj]; exact ho)
    simpa using this⟩
  refine ⟨fun t w V hs hTF hev hM hI => ?_⟩
  refine Runs.head (fun _ => m_draw) ?_
  simp only [Region.schedule, hP, Bool.true_or, if_true]
  have hev' : Evo C.X C.w0 C.V0 { w with drawn := w.drawn + 1 } V := hev.trans (Evo.draw (X := []) hev.has) (by simp)
  have hM' : Mem M { w with drawn := w.drawn + 1 } V := hM.evo hev.has (Evo.draw (X := []) hev.has) (by simp)
  unfold Region.linearise
  have h00 : ∀ i, (Array.replicate l.length false).getD i false = false := fun i => by
    rw [Array.getD_eq_getD_getElem?, Array.getElem?_replicate]; split <;> rfl
  refine Inv.phase (C := C) (SpD := d) (β := β) (T := T) (r := r) hf (fun a e => by cases e; exact ⟨oA, hA, hg, hd, hAm, hopA, hid⟩) ?_ _ _ _ t _ V ?_ ?_ ?_
  · intro L t' w' V' inv hall
    have hmem := inv.mem
    unfold MemX at hmem
    simp only at hmem
    rw [if_pos (hall ia hAm)] at hmem
    obtain ⟨x, hx1, hx2, hx3⟩ := hmem
    have hlen : (l.drop m).length = l.length - m := by simp
    have hGL := (h2 x).h fun j => by simp
    rw [hlen] at hGL
    refine hGL.h t' w' V' inv.size ?_ inv.evo hx2 hx3
    intro s U hU
    simp only [Rt.look] at hU
    cases hb : Nat.beq s d with
    | true =>
      rw [hb] at hU
      have := Nat.eq_of_beq_eq_true hb
      subst this
      simp only [cond_true, Option.some.injEq] at hU
      subst hU
      exact hx1
    | false =>
      rw [hb] at hU
      simp only [cond_false] at hU
      have htk : Ts.take m = Ts := by rw [← hf.len]; exact List.take_length
      have hlk := hf.look m s
      rw [htk] at hlk
      rcases hlk with ⟨a, y, g1, g2, g3, g4⟩ | ⟨g1, g2⟩
      · rw [g4] at hU; cases hU
        have := inv.done a y g2 (hall a g1)
        rw [g3] at this; exact this
      · rw [g2] at hU
        refine inv.old s (fun i y hy _ => ?_) U hU
        exact g1 i y (by rw [← hf.len]; exact (List.getElem?_eq_some_iff.1 hy).1) hy
  · refine ⟨hs, by simp, ?_, ?_, ?_, hev', ?_⟩
    · intro i x _ hl
      rw [show l.toArray.size = l.length from rfl, h00] at hl; cases hl
    · intro s _ U hU; exact hTF s U hU
    · intro i o _ hl
      rw [show l.toArray.size = l.length from rfl, h00] at hl; cases hl
    · unfold MemX
      simp only
      rw [show l.toArray.size = l.length from rfl, h00, if_neg (by simp)]
      exact ⟨hM', hI⟩
  · intro i _ _; rw [show l.toArray.size = l.length from rfl, h00]
  · simp

/-- A region whose order Go leaves open: its first m operations one by one (none turns a resource), then the rest, whose order is forced. -/
theorem gd_region {b : Base} {ds : List Deferred} {k : List Item} {F : List (Nat × Ty)} {R : Value → World → Prop} {l : List Oper} {id : Nat} (m : Nat) (hP : P.follows .mixedOrders = true) (hok : drOk l m = true)
    (h : DL P n M l none (l.take m) 0 F (fun F' => GL P C b n ds l (l.drop m) m k F' M R)) : G P C b n ds (.code (.region id l.toArray true) :: k) F M R := by
  obtain ⟨Ts, h1, h2, h3⟩ := h.ex
  have hD := drOk_spec hok
  have hf : Facts P n m M l (befs l) none F Ts := ⟨hD, by rw [h1, List.length_take]; have := hD.le; omega, fun j o hj ho => by
    have := h3 j o (by rw [List.getElem?_take, if_pos hj]; exact ho)
    simpa using this⟩
  refine ⟨fun t w V hs hTF hev hM hI => ?_⟩
  refine Runs.head (fun _ => m_draw) ?_
  simp only [Region.schedule, hP, Bool.true_or, if_true]
  have hev' : Evo C.X C.w0 C.V0 { w with drawn := w.drawn + 1 } V := hev.trans (Evo.draw (X := []) hev.has) (by simp)
  have hM' : Mem M { w with drawn := w.drawn + 1 } V := hM.evo hev.has (Evo.draw (X := []) hev.has) (by simp)
  unfold Region.linearise
  have h00 : ∀ i, (Array.replicate l.length false).getD i false = false := fun i => by
    rw [Array.getD_eq_getD_getElem?, Array.getElem?_replicate]; split <;> rfl
  refine Inv.phase (C := C) (SpD := 0) (β := Unit) (T := fun _ => anyTy) (r := fun _ => ⟨none, fun _ _ => True, fun _ _ _ _ _ => trivial⟩) hf (fun _ e => by cases e) ?_ _ _ _ t _ V ?_ ?_ ?_
  · intro L t' w' V' inv hall
    have hmem := inv.mem
    unfold MemX at hmem
    have hlen : (l.drop m).length = l.length - m := by simp
    have hGL := h2.h fun j => by simp
    rw [hlen] at hGL
    refine hGL.h t' w' V' inv.size ?_ inv.evo hmem.1 hmem.2
    intro s U hU
    have htk : Ts.take m = Ts := by rw [← hf.len]; exact List.take_length
    have hlk := hf.look m s
    rw [htk] at hlk
    rcases hlk with ⟨a, x, g1, g2, g3, g4⟩ | ⟨g1, g2⟩
    · rw [g4] at hU; cases hU
      have := inv.done a x g2 (hall a g1)
      rw [g3] at this; exact this
    · rw [g2] at hU
      refine inv.old s (fun i x hx _ => ?_) U hU
      exact g1 i x (by rw [← hf.len]; exact (List.getElem?_eq_some_iff.1 hx).1) hx
  · refine ⟨hs, by simp, ?_, ?_, ?_, hev', ?_⟩
    · intro i x _ hl
      rw [show l.toArray.size = l.length from rfl, h00] at hl; cases hl
    · intro s _ U hU; exact hTF s U hU
    · intro i o _ hl
      rw [show l.toArray.size = l.length from rfl, h00] at hl; cases hl
    · unfold MemX; exact ⟨hM', hI⟩
  · intro i _ _; rw [show l.toArray.size = l.length from rfl, h00]
  · simp

end

section
variable {P : Program} {n : Nat} {M : List Res} {ops l : List Oper} {i : Nat} {F : List (Nat × Ty)} {K : List (Nat × Ty) → Prop} {sp : Option Nat}

theorem dl_nil (h : K F) : DL P n M ops sp [] i F K := .nil h

theorem dl_op {d : Nat} {op : Op} {ty : TypeId} {pos : String} {af : Array Edge} {T : Ty}
    (hop : OpT P F M ⟨some d, op, ty, pos, af, none⟩ T) (h : DL P n M ops sp l (i + 1) ((d, T) :: F) K) (hd : isDefer op = false := by rfl) (hn : okDst d n = true := by rfl) (hs : sp ≠ some i := by decide) :
    DL P n M ops sp (⟨some d, op, ty, pos, af, none⟩ :: l) i F K :=
  .cons ⟨rfl, hd, by simpa [okDst] using hn, .inr (.inl ⟨hs, rfl, hop⟩)⟩ h

/-- The one operation that makes a resource: nothing is known of its slot till the region's end. -/
theorem dl_skip {d : Nat} {op : Op} {ty : TypeId} {pos : String} {af : Array Edge}
    (h : DL P n M ops sp l (i + 1) ((d, anyTy) :: F) K) (hs : sp = some i := by rfl) (hd : isDefer op = false := by rfl) (hn : okDst d n = true := by rfl) :
    DL P n M ops sp (⟨some d, op, ty, pos, af, none⟩ :: l) i F K :=
  .cons ⟨rfl, hd, by simpa [okDst] using hn, .inl ⟨hs, rfl⟩⟩ h

theorem dl_guard {d j dj : Nat} {want : Bool} {c : Prop} {op : Op} {ty : TypeId} {pos : String} {af : Array Edge} {T : Ty}
    (hdj : (ops[j]?).bind (·.dst) = some dj := by rfl) (hg : GuardC F dj want c := by first | exact gc_is rfl | exact gc_when rfl)
    (hop : c → OpT P F M ⟨some d, op, ty, pos, af, some (j, want)⟩ T) (h : DL P n M ops sp l (i + 1) ((d, When c T) :: F) K)
    (hdn : okDst dj n = true := by rfl) (hd : isDefer op = false := by rfl) (hn : okDst d n = true := by rfl) (hs : sp ≠ some i := by decide) :
    DL P n M ops sp (⟨some d, op, ty, pos, af, some (j, want)⟩ :: l) i F K :=
  .cons ⟨rfl, hd, by simpa [okDst] using hn, .inr (.inr ⟨hs, j, want, dj, c, T, rfl, hdj, by simpa [okDst] using hdn, hg, hop, rfl⟩)⟩ h
end

end Go.Rt
