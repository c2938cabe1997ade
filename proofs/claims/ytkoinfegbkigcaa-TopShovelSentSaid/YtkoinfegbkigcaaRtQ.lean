/- Regions whose order Go leaves open, where some operations turn memory: those come one behind the other. -/
import Derived.Test.YtkoinfegbkigcaaRtP
namespace Go.Rt

def drOk2 (ops : List Oper) (m : Nat) : Bool :=
  let ms := befs ops
  let n := ops.length
  (Nat.ble m n) &&
  ((List.range n).all fun i => match ops[i]? with
    | none => false
    | some o => ms.getD i 0 == maskOf ms o && (o.after.toList.all fun e => !Region.binds .any e || Nat.blt e.on i)) &&
  ((List.range m).all fun j => match ops[j]? with
    | none => false
    | some o => ((List.range m).all fun i => match ops[i]? with
        | none => false
        | some p => Nat.beq i j || ((p.dst != o.dst) && ((tmpsOf o).all fun s => p.dst != some s || (if Nat.blt i j then (ms.getD j 0).testBit i else (ms.getD i 0).testBit j))))
      && (match o.guard with | none => true | some (g, _) => Nat.blt g j && (ms.getD j 0).testBit g)) &&
  ((List.range n).all fun j => Nat.blt j m || (List.range j).all fun i => (ms.getD j 0).testBit i)

theorem drOk2_spec {ops : List Oper} {m : Nat} (h : drOk2 ops m = true) : DrOk ops m (befs ops) := by
  unfold drOk2 at h
  simp only [Bool.and_eq_true, List.all_eq_true, List.mem_range] at h
  obtain ⟨⟨⟨h1, h2⟩, h3⟩, h4⟩ := h
  have hle : m ≤ ops.length := by simpa using h1
  refine ⟨hle, ?_, ?_, ?_, ?_, ?_⟩
  · intro i o ho
    have hi := (List.getElem?_eq_some_iff.1 ho).1
    have := h2 i hi
    rw [ho] at this
    simp only [Bool.and_eq_true, beq_iff_eq, List.all_eq_true, Bool.or_eq_true, Bool.not_eq_true', Array.mem_toList_iff] at this
    refine ⟨this.1, fun e he hb => ?_⟩
    rcases this.2 e he with h5 | h5
    · rw [hb] at h5; cases h5
    · simpa using h5
  · intro i j o p hi hj hne ho hp e
    have := h3 j hj
    rw [ho] at this
    simp only [Bool.and_eq_true, List.all_eq_true, List.mem_range] at this
    have h5 := this.1 i hi
    rw [hp] at h5
    simp only [Bool.or_eq_true, Bool.and_eq_true, bne_iff_ne, ne_eq] at h5
    rcases h5 with h6 | h6
    · exact hne (Nat.eq_of_beq_eq_true h6)
    · exact h6.1 e
  · intro i j o p s hi hj hne ho hp hs e
    have := h3 j hj
    rw [ho] at this
    simp only [Bool.and_eq_true, List.all_eq_true, List.mem_range] at this
    have h5 := this.1 i hi
    rw [hp] at h5
    simp only [Bool.or_eq_true, Bool.and_eq_true, bne_iff_ne, ne_eq, List.all_eq_true] at h5
    rcases h5 with h6 | h6
    · exact absurd (Nat.eq_of_beq_eq_true h6) hne
    · rcases h6.2 s hs with h7 | h7
      · exact absurd e h7
      · by_cases hlt : i < j
        · have : Nat.blt i j = true := by simpa using hlt
          rw [if_pos this] at h7
          exact ⟨fun _ => h7, fun h => by omega⟩
        · have : ¬ Nat.blt i j = true := by simpa using hlt
          rw [if_neg this] at h7
          exact ⟨fun h => by omega, fun _ => h7⟩
  · intro j o g b hj ho hg
    have := h3 j hj
    rw [ho] at this
    simp only [Bool.and_eq_true, hg] at this
    exact ⟨by simpa using this.2.1, this.2.2⟩
  · intro j hm hj i hi
    have := h4 j hj
    simp only [Bool.or_eq_true, List.all_eq_true, List.mem_range] at this
    rcases this with h5 | h5
    · have : j < m := by simpa using h5
      omega
    · exact h5 i hi

/-- The operations that turn memory: each behind the last; what they read is not written behind them; es: which operations come ahead of the one that turns what is read. -/
def incr : List Nat → Bool
  | [] => true
  | i :: is => (is.all fun j => Nat.blt i j) && incr is

theorem incr_spec : ∀ {l : List Nat}, incr l = true → ∀ l0 i l1, l = l0 ++ i :: l1 → ∀ j ∈ l1, i < j
  | [], _, l0, i, l1, e, j, hj => by cases l0 <;> cases e
  | a :: l, h, l0, i, l1, e, j, hj => by
    simp only [incr, Bool.and_eq_true, List.all_eq_true] at h
    cases l0 with
    | nil => cases e; simpa using h.1 j hj
    | cons b l0 => cases e; exact incr_spec h.2 l0 i l1 rfl j hj

def spChk (ops : List Oper) (m : Nat) (sps : List Nat) (brk : Option Nat) (es : List Bool) : Bool :=
  let ms := befs ops
  (sps.all fun i => Nat.blt i m && match ops[i]? with
    | none => false
    | some o => o.guard.isNone && (List.range m).all fun a => Nat.ble a i || match ops[a]? with
        | none => false
        | some p => (tmpsOf o).all fun s => p.dst != some s) &&
  (sps.all fun i => sps.all fun j => Nat.ble i j || (ms.getD i 0).testBit j) && incr sps &&
  ((List.range m).all fun i => !es.getD i false || match brk with
    | none => true
    | some b => (ms.getD b 0).testBit i)

structure SpOk (ops : List Oper) (m : Nat) (ms : List Nat) (sps : List Nat) (brk : Option Nat) (es : List Bool) : Prop where
  lt : ∀ i ∈ sps, i < m
  gd : ∀ i ∈ sps, ∀ o, ops[i]? = some o → o.guard = none
  rd : ∀ i ∈ sps, ∀ o, ops[i]? = some o → ∀ a p, a < m → i < a → ops[a]? = some p → ∀ s ∈ tmpsOf o, p.dst ≠ some s
  ord : ∀ i ∈ sps, ∀ j ∈ sps, j < i → (ms.getD i 0).testBit j = true
  inc : incr sps = true
  early : ∀ i, i < m → es.getD i false = true → ∀ b, brk = some b → (ms.getD b 0).testBit i = true

theorem spChk_spec {ops : List Oper} {m : Nat} {sps : List Nat} {brk : Option Nat} {es : List Bool} (h : spChk ops m sps brk es = true) : SpOk ops m (befs ops) sps brk es := by
  unfold spChk at h
  simp only [Bool.and_eq_true, List.all_eq_true, List.mem_range] at h
  obtain ⟨⟨⟨h1, h2⟩, h0⟩, h3⟩ := h
  refine ⟨fun i hi => by simpa using (h1 i hi).1, fun i hi o ho => ?_, fun i hi o ho a p ha hia hp s hs => ?_, fun i hi j hj hlt => ?_, h0, fun i hi he b hb => ?_⟩
  · have := (h1 i hi).2
    rw [ho] at this
    simp only [Bool.and_eq_true, Option.isNone_iff_eq_none] at this
    exact this.1
  · have := (h1 i hi).2
    rw [ho] at this
    simp only [Bool.and_eq_true, List.all_eq_true, List.mem_range, Bool.or_eq_true] at this
    rcases this.2 a ha with h4 | h4
    · have : a ≤ i := by simpa using h4
      omega
    · rw [hp] at h4
      simp only [List.all_eq_true, bne_iff_ne, ne_eq] at h4
      exact h4 s hs
  · rcases (by simpa using h2 i hi j hj : i ≤ j ∨ _) with h4 | h4
    · omega
    · simpa using h4
  · have := h3 i hi
    rw [he, hb] at this
    simpa using this

/-- What is known of one operation. -/
structure OpFact2 (P : Program) (n : Nat) (M : List Res) (ops : List Oper) (sps : List Nat) (es : List Bool) (i : Nat) (o : Oper) (F : List (Nat × Ty)) (x : Nat × Ty) : Prop where
  nd : isDefer o.op = false
  dst : (o.dst = some x.1 ∧ x.1 < n) ∨ (i ∈ sps ∧ o.dst = none ∧ x.1 = n + i)
  run : (i ∈ sps ∧ x.2 = anyTy) ∨ (i ∉ sps ∧ o.guard = none ∧ ((es.getD i false = true ∧ OpT P F M o x.2) ∨ ∀ M', OpT P F M' o x.2)) ∨
    (i ∉ sps ∧ ∃ j want dj c T, o.guard = some (j, want) ∧ (ops[j]?).bind (·.dst) = some dj ∧ dj < n ∧ GuardC F dj want c ∧ (c → (es.getD i false = true ∧ OpT P F M o T) ∨ ∀ M', OpT P F M' o T) ∧ x.2 = When c T)

inductive DQ (P : Program) (n : Nat) (M : List Res) (ops : List Oper) (sps : List Nat) (es : List Bool) : List Oper → Nat → List (Nat × Ty) → (List (Nat × Ty) → Prop) → Prop
  | nil {i : Nat} {F : List (Nat × Ty)} {K : List (Nat × Ty) → Prop} : K F → DQ P n M ops sps es [] i F K
  | cons {o : Oper} {l : List Oper} {i : Nat} {F : List (Nat × Ty)} {x : Nat × Ty} {K : List (Nat × Ty) → Prop} : OpFact2 P n M ops sps es i o F x → DQ P n M ops sps es l (i + 1) (x :: F) K → DQ P n M ops sps es (o :: l) i F K

theorem DQ.ex {P : Program} {n : Nat} {M : List Res} {ops : List Oper} {sps : List Nat} {es : List Bool} {l : List Oper} {i : Nat} {F : List (Nat × Ty)} {K : List (Nat × Ty) → Prop} (h : DQ P n M ops sps es l i F K) :
    ∃ Ts : List (Nat × Ty), Ts.length = l.length ∧ K (Ts.reverse ++ F) ∧ ∀ j o, l[j]? = some o → ∃ x, Ts[j]? = some x ∧ OpFact2 P n M ops sps es (i + j) o ((Ts.take j).reverse ++ F) x := by
  induction h with
  | nil h => exact ⟨[], rfl, h, fun j o e => by simp at e⟩
  | @cons o l i F x K hx _ ih =>
    obtain ⟨Ts, h1, h2, h3⟩ := ih
    refine ⟨x :: Ts, by simp [h1], by simpa using h2, fun j o' e => ?_⟩
    cases j with
    | zero => simp at e; subst e; exact ⟨x, rfl, by simpa using hx⟩
    | succ j =>
      obtain ⟨y, h4, h5⟩ := h3 j o' (by simpa using e)
      exact ⟨y, by simpa using h4, by simpa [Nat.add_assoc, Nat.add_comm 1 j] using h5⟩

/-- The operations that turn memory, one by one. -/
inductive SC (P : Program) (ops : List Oper) (brk : Option Nat) (F : List (Nat × Ty)) (K : List (Nat × Ty) → List Res → Prop) : List Nat → List (Nat × Ty) → List Res → Prop
  | nil {Fs : List (Nat × Ty)} {M : List Res} : K Fs M → SC P ops brk F K [] Fs M
  | cons {i : Nat} {is : List Nat} {Fs : List (Nat × Ty)} {M : List Res} {o : Oper} {β : Type} {T : β → Ty} {M' : β → List Res} : ops[i]? = some o → OpM P (Fs ++ F) M o β T M' →
      (brk = some i ∨ ∀ x w V, Mem (M' x) w V → Mem M w V) → (∀ x, SC P ops brk F K is (wr o (T x) Fs) (M' x)) → SC P ops brk F K (i :: is) Fs M

structure Facts2 (P : Program) (n m : Nat) (M : List Res) (ops : List Oper) (ms : List Nat) (sps : List Nat) (brk : Option Nat) (es : List Bool) (F0 : List (Nat × Ty)) (Ts : List (Nat × Ty)) : Prop where
  ok : DrOk ops m ms
  sp : SpOk ops m ms sps brk es
  len : Ts.length = m
  fact : ∀ j o, j < m → ops[j]? = some o → ∃ x, Ts[j]? = some x ∧ OpFact2 P n M ops sps es j o ((Ts.take j).reverse ++ F0) x

section
variable {P : Program} {n m : Nat} {M : List Res} {ops : List Oper} {ms : List Nat} {sps : List Nat} {brk : Option Nat} {es : List Bool} {F0 Ts : List (Nat × Ty)}

theorem Facts2.get (h : Facts2 P n m M ops ms sps brk es F0 Ts) {j : Nat} (hj : j < m) : ∃ o x, ops[j]? = some o ∧ Ts[j]? = some x ∧ OpFact2 P n M ops sps es j o ((Ts.take j).reverse ++ F0) x := by
  have ho := List.getElem?_eq_getElem (show j < ops.length from Nat.lt_of_lt_of_le hj h.ok.le)
  obtain ⟨x, h1, h2⟩ := h.fact j _ hj ho
  exact ⟨_, x, ho, h1, h2⟩

theorem Facts2.inj (h : Facts2 P n m M ops ms sps brk es F0 Ts) {i j : Nat} {x y : Nat × Ty} (hi : Ts[i]? = some x) (hj : Ts[j]? = some y) (e : x.1 = y.1) : i = j := by
  have hil : i < m := by rw [← h.len]; exact (List.getElem?_eq_some_iff.1 hi).1
  have hjl : j < m := by rw [← h.len]; exact (List.getElem?_eq_some_iff.1 hj).1
  obtain ⟨o, x', h1, h2, h3⟩ := h.get hil
  obtain ⟨p, y', h4, h5, h6⟩ := h.get hjl
  rw [hi] at h2; cases h2
  rw [hj] at h5; cases h5
  by_cases hne : i = j
  · exact hne
  · rcases h3.dst with ⟨a1, a2⟩ | ⟨_, a1, a2⟩ <;> rcases h6.dst with ⟨b1, b2⟩ | ⟨_, b1, b2⟩
    · exact absurd (by rw [a1, b1, e]) (h.ok.dst i j p o hil hjl hne h4 h1)
    · omega
    · omega
    · omega

theorem Facts2.look (h : Facts2 P n m M ops ms sps brk es F0 Ts) (j s : Nat) : (∃ a x, a < j ∧ Ts[a]? = some x ∧ x.1 = s ∧ Rt.look ((Ts.take j).reverse ++ F0) s = some x.2) ∨
    ((∀ a x, a < j → Ts[a]? = some x → x.1 ≠ s) ∧ Rt.look ((Ts.take j).reverse ++ F0) s = Rt.look F0 s) := by
  by_cases hex : ∃ a x, a < j ∧ Ts[a]? = some x ∧ x.1 = s
  · obtain ⟨a, x, h1, h2, h3⟩ := hex
    refine .inl ⟨a, x, h1, h2, h3, ?_⟩
    rw [look_append, look_some (A := (Ts.take j).reverse) (s := s) (T := x.2)]
    · rfl
    · rw [List.mem_reverse]
      have : (Ts.take j)[a]? = some x := by rw [List.getElem?_take, if_pos h1]; exact h2
      subst h3
      exact List.mem_of_getElem? this
    · intro y hy e
      rw [List.mem_reverse] at hy
      obtain ⟨b, hb⟩ := List.getElem?_of_mem hy
      rw [List.getElem?_take] at hb
      split at hb
      · have := h.inj h2 hb (by rw [h3, e])
        subst this
        rw [h2] at hb; cases hb
        rw [← h3]
      · cases hb
  · refine .inr ⟨fun a x h1 h2 h3 => hex ⟨a, x, h1, h2, h3⟩, ?_⟩
    rw [look_append, look_none]
    · rfl
    · intro y hy e
      rw [List.mem_reverse] at hy
      obtain ⟨b, hb⟩ := List.getElem?_of_mem hy
      rw [List.getElem?_take] at hb
      split at hb
      · rename_i hlt; exact hex ⟨b, y, hlt, hb, e⟩
      · cases hb

/-- The state where the operations L are done. -/
structure Inv2 (P : Program) (C : Ctx) (n m : Nat) (M : List Res) (ops : List Oper) (sps : List Nat) (brk : Option Nat) (F0 Ts : List (Nat × Ty)) (K : List (Nat × Ty) → List Res → Prop) (L : Array Bool) (t : Array Value) (w : World) (V : View) : Prop where
  size : t.size = n
  lsize : L.size = ops.length
  done : ∀ i x, Ts[i]? = some x → L.getD i false = true → x.2.p (t.getD x.1 undef) V
  old : ∀ s, (∀ i o, i < m → ops[i]? = some o → L.getD i false = true → o.dst ≠ some s) → ∀ U, Rt.look F0 s = some U → U.p (t.getD s undef) V
  closed : ∀ i o, ops[i]? = some o → L.getD i false = true → ∀ e ∈ o.after, Region.binds .any e = true → L.getD e.on false = true
  evo : Evo C.X C.w0 C.V0 w V
  ch : ∃ is0 is Fs M', sps = is0 ++ is ∧ (∀ i ∈ is0, L.getD i false = true) ∧ (∀ i ∈ is, L.getD i false = false) ∧ SC P ops brk (Ts.reverse ++ F0) K is Fs M' ∧ TF Fs t V ∧
    (∀ s, Rt.look Fs s ≠ none → ∃ i ∈ is0, ∃ o, ops[i]? = some o ∧ o.dst = some s) ∧ Mem M' w V ∧ IdsOk C M' ∧ ((∀ b, brk = some b → L.getD b false = false) → ∀ w V, Mem M' w V → Mem M w V)

variable {C : Ctx} {K : List (Nat × Ty) → List Res → Prop} {L : Array Bool} {t : Array Value} {w : World} {V : View}

theorem Inv2.mask (hf : Facts2 P n m M ops ms sps brk es F0 Ts) (inv : Inv2 P C n m M ops sps brk F0 Ts K L t w V) {i : Nat} {o : Oper} (hi : i < ops.length) (ho : ops[i]? = some o)
    (hed : ∀ e ∈ o.after, Region.binds .any e = true → L.getD e.on false = true) : ∀ j, (ms.getD i 0).testBit j = true → L.getD j false = true := by
  intro j hb
  obtain ⟨h1, h2⟩ := hf.ok.mask i o ho
  rw [h1] at hb
  obtain ⟨e, he, hbd, h3⟩ := maskOf_bit hb
  have hl := hed e he hbd
  rcases h3 with rfl | h3
  · exact hl
  · exact closed_mask (S := fun k => L.getD k false = true) hf.ok inv.closed e.on (Nat.lt_trans (h2 e he hbd) hi) hl j h3

theorem Inv2.operands (hf : Facts2 P n m M ops ms sps brk es F0 Ts) (inv : Inv2 P C n m M ops sps brk F0 Ts K L t w V) {i : Nat} {o : Oper} (hi : i < m) (ho : ops[i]? = some o)
    (hun : L.getD i false = false) (hed : ∀ e ∈ o.after, Region.binds .any e = true → L.getD e.on false = true) :
    (∀ s, (s ∈ tmpsOf o ∨ ∃ g b p, o.guard = some (g, b) ∧ ops[g]? = some p ∧ p.dst = some s) → TFx ((Ts.take i).reverse ++ F0) (.tmp s) t V) := by
  intro s hs U hU
  have hlen : i < ops.length := Nat.lt_of_lt_of_le hi hf.ok.le
  have hmask := inv.mask hf hlen ho hed
  rcases hf.look i s with ⟨a, z, h1, h2, h3, h4⟩ | ⟨h1, h2⟩
  · rw [h4] at hU
    cases hU
    have ham : a < m := Nat.lt_trans h1 hi
    obtain ⟨p, z', hp, hz', hfact⟩ := hf.get ham
    rw [h2] at hz'; cases hz'
    rcases hfact.dst with ⟨hd, _⟩ | ⟨hsp, _, _⟩
    · have hla : L.getD a false = true := by
        rcases hs with hs | ⟨g, b, q, hg, hq, hqd⟩
        · exact hmask a ((hf.ok.reads a i o p s ham hi (by omega) ho hp hs (by rw [hd, h3])).1 h1)
        · obtain ⟨hgl, hgb⟩ := hf.ok.guard i o g b hi ho hg
          have : a = g := by
            by_cases e : a = g
            · exact e
            · have hgm : g < m := by omega
              exact absurd (by rw [hd, h3, ← hqd]) (hf.ok.dst a g q p ham hgm e hq hp)
          subst this
          exact hmask _ hgb
      have := inv.done a z h2 hla
      rw [h3] at this
      exact this
    · have : z.2 = anyTy := by
        rcases hfact.run with ⟨_, h⟩ | ⟨h, _⟩ | ⟨h, _⟩
        · exact h
        · exact absurd hsp h
        · exact absurd hsp h
      rw [this]; trivial
  · rw [h2] at hU
    refine inv.old s ?_ U hU
    intro a p ham hp hla e
    obtain ⟨p', z, hp', hz, hfact⟩ := hf.get ham
    rw [hp] at hp'; cases hp'
    have hz1 : z.1 = s := by
      rcases hfact.dst with ⟨hd, _⟩ | ⟨_, hd, _⟩
      · rw [e] at hd; exact (Option.some.inj hd).symm
      · rw [e] at hd; cases hd
    rcases Nat.lt_trichotomy a i with hlt | heq | hgt
    · exact h1 a z hlt hz hz1
    · subst heq; rw [hun] at hla; cases hla
    · rcases hs with hs | ⟨g, b, q, hg, hq, hqd⟩
      · have hb := (hf.ok.reads a i o p s ham hi (by omega) ho hp hs e).2 hgt
        have := closed_mask (S := fun k => L.getD k false = true) hf.ok inv.closed a (Nat.lt_of_lt_of_le ham hf.ok.le) hla i hb
        rw [hun] at this; cases this
      · obtain ⟨hgl, hgb⟩ := hf.ok.guard i o g b hi ho hg
        have hgm : g < m := by omega
        exact absurd (by rw [hqd, e]) (hf.ok.dst g a p q hgm ham (by omega) hp hq)

theorem Inv2.next (hf : Facts2 P n m M ops ms sps brk es F0 Ts) (inv : Inv2 P C n m M ops sps brk F0 Ts K L t w V) {i : Nat} {o : Oper} {x : Nat × Ty} (hi : i < m) (ho : ops[i]? = some o) (hx : Ts[i]? = some x)
    (hd : (o.dst = some x.1 ∧ x.1 < n) ∨ (o.dst = none ∧ x.1 = n + i ∧ x.2 = anyTy)) (hed : ∀ e ∈ o.after, Region.binds .any e = true → L.getD e.on false = true)
    {v : Value} {w' : World} {V' : View} (hle : V.Le V') (hv : x.2.p v V') (he : Evo C.X C.w0 C.V0 w' V')
    (hm : ∃ is0 is Fs M', sps = is0 ++ is ∧ (∀ j ∈ is0, (L.setIfInBounds i true).getD j false = true) ∧ (∀ j ∈ is, (L.setIfInBounds i true).getD j false = false) ∧ SC P ops brk (Ts.reverse ++ F0) K is Fs M' ∧ TF Fs (put o v t) V' ∧
      (∀ s, Rt.look Fs s ≠ none → ∃ i ∈ is0, ∃ o, ops[i]? = some o ∧ o.dst = some s) ∧ Mem M' w' V' ∧ IdsOk C M' ∧ ((∀ b, brk = some b → (L.setIfInBounds i true).getD b false = false) → ∀ w V, Mem M' w V → Mem M w V)) :
    Inv2 P C n m M ops sps brk F0 Ts K (L.setIfInBounds i true) (put o v t) w' V' := by
  have hiL : i < L.size := by rw [inv.lsize]; exact Nat.lt_of_lt_of_le hi hf.ok.le
  have hsame : ∀ s, o.dst ≠ some s → (put o v t).getD s undef = t.getD s undef := fun s hs => by
    unfold put
    split
    · rename_i d hdd
      have : d ≠ s := fun e => hs (by rw [hdd, e])
      simp [Array.getD_eq_getD_getElem?, this]
    · rfl
  refine ⟨by rw [size_put]; exact inv.size, by simp [inv.lsize], ?_, ?_, ?_, he, hm⟩
  · intro j y hy hl
    rw [set_getD hiL] at hl
    by_cases e : j = i
    · subst e; rw [hx] at hy; cases hy
      rcases hd with ⟨hd, hlt⟩ | ⟨_, _, h⟩
      · have hself : (put o v t).getD x.1 undef = v := by
          unfold put; rw [hd]; simp [Array.getD_eq_getD_getElem?, show x.1 < t.size by rw [inv.size]; exact hlt]
        rw [hself]; exact hv
      · rw [h]; trivial
    · rw [if_neg e] at hl
      have hne : y.1 ≠ x.1 := fun h => e (hf.inj hy hx h)
      have hnd : o.dst ≠ some y.1 := fun h => by
        rcases hd with ⟨hd, _⟩ | ⟨hd, _⟩
        · rw [h] at hd; exact hne (Option.some.inj hd)
        · rw [h] at hd; cases hd
      rw [hsame _ hnd]
      exact y.2.mono _ _ _ hle (inv.done j y hy hl)
  · intro s hs U hU
    have hne : o.dst ≠ some s := hs i o hi ho (by rw [set_getD hiL]; simp)
    rw [hsame _ hne]
    refine U.mono _ _ _ hle (inv.old s (fun j p hj hp hl => hs j p hj hp ?_) U hU)
    rw [set_getD hiL]
    split
    · rfl
    · exact hl
  · intro j p hp hl e hem hb
    rw [set_getD hiL] at hl ⊢
    split
    · rfl
    · split at hl
      · rename_i hj; subst hj; rw [ho] at hp; cases hp; exact hed e hem hb
      · exact inv.closed j p hp hl e hem hb

/-- A state behind an operation that turns no memory. -/
theorem Inv2.pure (hf : Facts2 P n m M ops ms sps brk es F0 Ts) (inv : Inv2 P C n m M ops sps brk F0 Ts K L t w V) {i : Nat} {o : Oper} {x : Nat × Ty} (hi : i < m) (ho : ops[i]? = some o) (hx : Ts[i]? = some x)
    (hsp : i ∉ sps) (hd : o.dst = some x.1 ∧ x.1 < n) (hed : ∀ e ∈ o.after, Region.binds .any e = true → L.getD e.on false = true)
    {v : Value} {w' : World} {V' : View} (hev : Evo [] w V w' V') (hv : x.2.p v V') : Inv2 P C n m M ops sps brk F0 Ts K (L.setIfInBounds i true) (put o v t) w' V' := by
  have hiL : i < L.size := by rw [inv.lsize]; exact Nat.lt_of_lt_of_le hi hf.ok.le
  have hHas := inv.evo.has
  refine inv.next hf hi ho hx (.inl hd) hed (hev.le hHas) hv (inv.evo.trans hev (by simp)) ?_
  obtain ⟨is0, is, Fs, M', h1, h2, h3, h4, h5, h6, h7, h8, h9⟩ := inv.ch
  refine ⟨is0, is, Fs, M', h1, fun j hj => ?_, fun j hj => ?_, h4, fun s U hU => ?_, h6, h7.evo hHas hev (by simp), h8, fun hb => h9 fun b hbb => ?_⟩
  · rw [set_getD hiL]; split
    · rfl
    · exact h2 j hj
  · rw [set_getD hiL, if_neg (fun e => hsp (by rw [h1, ← e]; simp [hj]))]; exact h3 j hj
  · obtain ⟨a, ha, p, hp, hpd⟩ := h6 s (by rw [hU]; simp)
    have ham : a < m := hf.sp.lt a (by rw [h1]; simp [ha])
    have hne : a ≠ i := fun e => hsp (by rw [h1, ← e]; simp [ha])
    have hnd : o.dst ≠ some s := fun e => hf.ok.dst i a p o hi ham (Ne.symm hne) hp ho (by rw [e, hpd])
    have : (put o v t).getD s undef = t.getD s undef := by
      unfold put; rw [hd.1]
      have : x.1 ≠ s := fun e => hnd (by rw [hd.1, e])
      simp [Array.getD_eq_getD_getElem?, this]
    rw [this]
    exact U.mono _ _ _ (hev.le hHas) (h5 s U hU)
  · have := hb b hbb
    rw [set_getD hiL] at this
    split at this
    · cases this
    · exact this

/-- One operation more, in whatever order. -/
theorem Inv2.step {b : Base} {ds : List Deferred} {k : List Item} {R : Value → World → Prop} (hf : Facts2 P n m M ops ms sps brk es F0 Ts)
    (inv : Inv2 P C n m M ops sps brk F0 Ts K L t w V) {i : Nat} (hi : i < m) (hr : i ∈ Region.ready .any ops.toArray L) (rest : List Nat)
    (hK : ∀ t' w' V', Inv2 P C n m M ops sps brk F0 Ts K (L.setIfInBounds i true) t' w' V' → Runs P b (b.at t' ds (.inRegion ops.toArray rest :: k)) w' R) :
    Runs P b (b.at t ds (.inRegion ops.toArray (i :: rest) :: k)) w R := by
  obtain ⟨o, x, ho, hx, fact⟩ := hf.get hi
  obtain ⟨hun, o', ho', hed⟩ := mem_ready.1 hr
  have ho'' : ops[i]? = some o' := by simpa using ho'
  rw [ho] at ho''; cases ho''
  have hun' := getD_tf hun
  have hops := inv.operands hf hi ho hun' hed
  have hlen : i < ops.length := Nat.lt_of_lt_of_le hi hf.ok.le
  have hiL : i < L.size := by rw [inv.lsize]; exact hlen
  have hmask := inv.mask hf hlen ho hed
  have hTFo : TFo ((Ts.take i).reverse ++ F0) o t V := by
    intro y hy
    cases y with
    | tmp s => exact hops s (.inl (by unfold tmpsOf; rw [List.mem_filterMap]; exact ⟨.tmp s, by simpa using hy, rfl⟩))
    | const => trivial
    | global => trivial
    | func => trivial
  obtain ⟨is0, is, Fs, M', h1, h2, h3, h4, h5, h6, h7, h8, h9⟩ := id inv.ch
  have hHas := inv.evo.has
  have hwr : ops.toArray[i]? = some o := by simpa using ho
  have hpure : ∀ T, ((es.getD i false = true ∧ OpT P ((Ts.take i).reverse ++ F0) M o T) ∨ ∀ M', OpT P ((Ts.take i).reverse ++ F0) M' o T) → OpRuns P o t w fun v w' => ∃ V', Evo [] w V w' V' ∧ T.p v V' := by
    rintro T (⟨he, hop⟩ | hop)
    · refine hop.h t w V hTFo hHas (h9 (fun bb hbb => ?_) w V h7)
      cases hLb : L.getD bb false with
      | false => rfl
      | true =>
        have hbit := hf.sp.early i hi he bb hbb
        have hbl : bb < ops.length := by
          by_cases hlt : bb < ops.length
          · exact hlt
          · rw [Array.getD_eq_getD_getElem?, Array.getElem?_eq_none (by rw [inv.lsize]; omega)] at hLb; cases hLb
        have := closed_mask (S := fun k => L.getD k false = true) hf.ok inv.closed bb hbl hLb i hbit
        rw [hun'] at this; cases this
    · exact (hop M').h t w V hTFo hHas h7
  rcases fact.run with ⟨hs, hany⟩ | ⟨hs, hg, hop⟩ | ⟨hs, j, want, dj, c, T', hg, hdj, hdjn, hgc, hop, hT⟩
  · -- one that turns memory
    have hiis : i ∈ is := by
      rw [h1] at hs
      rcases List.mem_append.1 hs with h | h
      · have := h2 i h; rw [hun'] at this; cases this
      · exact h
    cases h4 with
    | nil => cases hiis
    | @cons i' is' _ _ o' β T M'' ho2 hop hk hrest =>
      have hii : i = i' := by
        rcases List.mem_cons.1 hiis with h | h
        · exact h
        · have hlt := incr_spec hf.sp.inc is0 i' is' h1 i h
          have := hmask i' (hf.sp.ord i hs i' (by rw [h1]; simp) hlt)
          rw [h3 i' (by simp)] at this; cases this
      subst hii
      rw [ho] at ho2; cases ho2
      have hgn := hf.sp.gd i hs o ho
      have hTF2 : TFo (Fs ++ (Ts.reverse ++ F0)) o t V := by
        intro y hy
        cases y with
        | tmp s =>
          intro U hU
          have hsm : s ∈ tmpsOf o := by unfold tmpsOf; rw [List.mem_filterMap]; exact ⟨.tmp s, by simpa using hy, rfl⟩
          rw [look_append] at hU
          cases hl : Rt.look Fs s with
          | some U' => rw [hl] at hU; cases hU; exact h5 s _ hl
          | none =>
            rw [hl] at hU
            simp only [Option.none_or] at hU
            have htk : Ts.take m = Ts := by rw [← hf.len]; exact List.take_length
            have hlk := hf.look m s
            rw [htk] at hlk
            rcases hlk with ⟨a, z, g1, g2, g3, g4⟩ | ⟨g1, g2⟩
            · rw [g4] at hU; cases hU
              obtain ⟨p, z', hp, hz', hfact⟩ := hf.get g1
              rw [g2] at hz'; cases hz'
              by_cases hasp : a ∈ sps
              · have : z.2 = anyTy := by
                  rcases hfact.run with ⟨_, h⟩ | ⟨h, _⟩ | ⟨h, _⟩
                  · exact h
                  · exact absurd hasp h
                  · exact absurd hasp h
                rw [this]; trivial
              · have hd : p.dst = some z.1 := (hfact.dst.elim id (fun h => absurd h.1 hasp)).1
                rw [g3] at hd
                have hne : a ≠ i := fun e => hasp (by rw [e]; exact hs)
                have hai : a < i := by
                  rcases Nat.lt_or_ge a i with h | h
                  · exact h
                  · exact absurd hd (hf.sp.rd i hs o ho a p g1 (by omega) hp s hsm)
                have hla := hmask a ((hf.ok.reads a i o p s g1 hi hne ho hp hsm hd).1 hai)
                have := inv.done a z g2 hla
                rw [g3] at this
                exact this
            · rw [g2] at hU
              refine inv.old s (fun a p ham hp _ e => ?_) U hU
              obtain ⟨p', z, hp', hz, hfact⟩ := hf.get ham
              rw [hp] at hp'; cases hp'
              refine g1 a z ham hz ?_
              rcases hfact.dst with ⟨hd, _⟩ | ⟨_, hd, _⟩
              · rw [e] at hd; exact (Option.some.inj hd).symm
              · rw [e] at hd; cases hd
        | const => trivial
        | global => trivial
        | func => trivial
      refine Runs.op hwr (by simp [Region.wanted, hgn]) fact.nd ((hop.h t w V hTF2 hHas h7).mono ?_)
      rintro v w' ⟨y, V', he, hty, hmem, hids⟩
      have hd : (o.dst = some x.1 ∧ x.1 < n) ∨ (o.dst = none ∧ x.1 = n + i ∧ x.2 = anyTy) := fact.dst.imp id fun h => ⟨h.2.1, h.2.2, hany⟩
      refine hK _ w' V' (inv.next hf hi ho hx hd hed (he.le hHas) (by rw [hany]; trivial) (inv.evo.trans he h8) ?_)
      have hdt : ∀ d, o.dst = some d → d < t.size := fun d e => by
        rcases hd with ⟨hd, hlt⟩ | ⟨hd, _⟩
        · rw [e] at hd; cases hd; rw [inv.size]; exact hlt
        · rw [e] at hd; cases hd
      refine ⟨is0 ++ [i], is', _, _, by simp [h1], fun j hj => ?_, fun j hj => ?_, hrest y, TF.wr (h5.le (he.le hHas)) hdt hty, fun s hs' => ?_, hmem, fun b' hb' => ?_, fun hb => ?_⟩
      · rw [set_getD hiL]
        split
        · rfl
        · rename_i hne
          rcases List.mem_append.1 hj with h | h
          · exact h2 j h
          · simp at h; exact absurd h hne
      · have hlt := incr_spec hf.sp.inc is0 i is' h1 j hj
        rw [set_getD hiL, if_neg (by omega)]
        exact h3 j (by simp [hj])
      · by_cases hod : o.dst = some s
        · exact ⟨i, by simp, o, ho, hod⟩
        · have : Rt.look (wr o (T y) Fs) s = Rt.look Fs s := by
            unfold wr
            split
            · rename_i d hdd
              have hne : s ≠ d := fun e => hod (by rw [hdd, e])
              simp only [Rt.look]
              have : Nat.beq s d = false := by
                cases hb : Nat.beq s d with
                | false => rfl
                | true => exact absurd (Nat.eq_of_beq_eq_true hb) hne
              rw [this]; rfl
            · rfl
          rw [this] at hs'
          obtain ⟨a, ha, p, hp, hpd⟩ := h6 s hs'
          exact ⟨a, by simp [ha], p, hp, hpd⟩
      · rcases hids b' hb' with h6' | h6'
        · exact h8 b' h6'
        · exact .inr (Nat.le_trans inv.evo.size h6')
      · intro w2 V2 hm2
        have hnb : brk ≠ some i := fun e => by
          have := hb i e
          rw [set_getD hiL, if_pos rfl] at this; cases this
        have hk' := hk.resolve_left hnb
        refine h9 (fun bb hbb => ?_) w2 V2 (hk' y w2 V2 hm2)
        have := hb bb hbb
        rw [set_getD hiL] at this
        split at this
        · cases this
        · exact this
  · refine Runs.op hwr (by simp [Region.wanted, hg]) fact.nd ((hpure _ hop).mono ?_)
    rintro v w' ⟨V', he, hv⟩
    have hd : o.dst = some x.1 ∧ x.1 < n := fact.dst.elim id (fun h => absurd h.1 hs)
    exact hK _ w' V' (inv.pure hf hi ho hx hs hd hed he hv)
  · have hd : o.dst = some x.1 ∧ x.1 < n := fact.dst.elim id (fun h => absurd h.1 hs)
    obtain ⟨Tg, hlook, hiff⟩ := hgc.h
    have hgj : ∃ p, ops[j]? = some p ∧ p.dst = some dj := by
      cases hoj : ops[j]? with
      | none => rw [hoj] at hdj; cases hdj
      | some p => rw [hoj] at hdj; exact ⟨p, rfl, hdj⟩
    obtain ⟨p, hp1, hp2⟩ := hgj
    have hgv := hops dj (.inr ⟨j, want, p, hg, hp1, hp2⟩) Tg hlook
    have hy := yields_of (ops := ops.toArray) (t := t) (j := j) (dj := dj) (by simpa using hdj) (by rw [inv.size]; exact hdjn) want
    have hc := hiff _ V hgv
    by_cases hcc : c
    · refine Runs.op hwr (by simp [Region.wanted, hg, hy.2 (hc.2 hcc)]) fact.nd ((hpure _ (hop hcc)).mono ?_)
      rintro v w' ⟨V', he, hv⟩
      exact hK _ w' V' (inv.pure hf hi ho hx hs hd hed he (by rw [hT]; exact ⟨fun _ => hv, fun hn => absurd hcc hn⟩))
    · have hw : Region.wanted o (yielded ops.toArray t) = false := by
        have : ¬ yielded ops.toArray t j = some want := fun e => hcc (hc.1 (hy.1 e))
        simp [Region.wanted, hg, this]
      refine Runs.head (fun cs => skip_step hwr hw) ?_
      exact hK _ w V (inv.pure hf hi ho hx hs hd hed (Evo.refl hHas) (by rw [hT]; exact ⟨fun e => absurd e hcc, fun _ => rfl⟩))

theorem Inv2.phase {b : Base} {ds : List Deferred} {k : List Item} {R : Value → World → Prop} (hf : Facts2 P n m M ops ms sps brk es F0 Ts)
    (hfin : ∀ L t w V, Inv2 P C n m M ops sps brk F0 Ts K L t w V → (∀ i, i < m → L.getD i false = true) →
      Runs P b (b.at t ds (.inRegion ops.toArray (List.range' m (ops.length - m)) :: k)) w R) :
    ∀ fuel tt L t w V, Inv2 P C n m M ops sps brk F0 Ts K L t w V → (∀ i, m ≤ i → i < ops.length → L.getD i false = false) → L.toList.count false ≤ fuel →
      Runs P b (b.at t ds (.inRegion ops.toArray (Region.linearise.go .any ops.toArray fuel tt L []) :: k)) w R := by
  intro fuel
  induction fuel with
  | zero =>
    intro tt L t w V inv hT hc
    have hall : ∀ i, i < L.size → L.getD i false = true := by
      intro i hi
      have h0 : L.toList.count false = 0 := by omega
      have hnm := List.count_eq_zero.1 h0
      cases hL : L[i] with
      | true => simp [Array.getD_eq_getD_getElem?, hi, hL]
      | false => exact absurd (by rw [← hL]; exact Array.getElem_mem_toList hi) hnm
    have hn : ops.length ≤ m := by
      by_cases h : ops.length ≤ m
      · exact h
      · have h1 := hT m (Nat.le_refl _) (by omega)
        have h2 := hall m (by rw [inv.lsize]; omega)
        rw [h1] at h2; cases h2
    have := hfin L t w V inv (fun i hi => hall i (by rw [inv.lsize]; exact Nat.lt_of_lt_of_le hi hf.ok.le))
    rw [show ops.length - m = 0 from by omega] at this
    exact this
  | succ fuel ih =>
    intro tt L t w V inv hT hc
    by_cases hall : ∀ i, i < m → L.getD i false = true
    · have := hfin L t w V inv hall
      have hcount : L.toList.count false = ops.length - m := by
        have hLl : L.toList = List.replicate m true ++ List.replicate (ops.length - m) false := by
          apply List.ext_getElem
          · have := hf.ok.le
            simp [inv.lsize]; omega
          · intro j h1 h2
            have hj : j < L.size := by simpa using h1
            rw [List.getElem_append]
            have hg : L.getD j false = L[j] := by simp [Array.getD_eq_getD_getElem?, hj]
            split
            · rename_i hjm
              simp only [List.length_replicate] at hjm
              have := hall j hjm
              rw [hg] at this
              simpa using this
            · rename_i hjm
              simp only [List.length_replicate, Nat.not_lt] at hjm
              have := hT j hjm (by rw [← inv.lsize]; exact hj)
              rw [hg] at this
              simpa using this
        rw [hLl]
        simp [List.count_append, List.count_replicate]
      rw [go_tail hf.ok (ops.length - m) m (fuel + 1) tt L rfl (Nat.le_refl _) hf.ok.le inv.lsize hall hT (by omega)]
      exact this
    · have hex : ∃ i, i < m ∧ L.getD i false = false ∧ ∀ j, j < i → L.getD j false = true := by
        have h0 : ∃ i, i < m ∧ L.getD i false = false := by
          false_or_by_contra
          rename_i hno
          refine hall fun i hi => ?_
          cases hL : L.getD i false with
          | true => rfl
          | false => exact absurd ⟨i, hi, hL⟩ hno
        obtain ⟨i, hi, hL⟩ := h0
        clear hall
        induction i using Nat.strongRecOn with
        | _ i ih2 =>
          by_cases h : ∀ j, j < i → L.getD j false = true
          · exact ⟨i, hi, hL, h⟩
          · have : ∃ j, j < i ∧ L.getD j false = false := by
              false_or_by_contra
              rename_i hno
              refine h fun j hj => ?_
              cases hLj : L.getD j false with
              | true => rfl
              | false => exact absurd ⟨j, hj, hLj⟩ hno
            obtain ⟨j, hj, hLj⟩ := this
            exact ih2 j hj (by omega) hLj
      obtain ⟨i0, hi0, hL0, hbelow⟩ := hex
      have hi0l : i0 < ops.length := Nat.lt_of_lt_of_le hi0 hf.ok.le
      have ho0 := List.getElem?_eq_getElem hi0l
      have hmem : i0 ∈ Region.ready .any ops.toArray L := mem_ready.2 ⟨by
        rw [Array.getD_eq_getD_getElem?] at *
        rw [Array.getElem?_eq_getElem (by rw [inv.lsize]; exact hi0l)] at *
        simpa using hL0, _, by simp, fun e he hb => hbelow _ ((hf.ok.mask i0 _ ho0).2 e he hb)⟩
      obtain ⟨i, t', hi, hgo⟩ := go_cons .any ops.toArray fuel tt L (fun e => by rw [e] at hmem; cases hmem)
      rw [hgo]
      obtain ⟨hu, o, hoi, hed⟩ := mem_ready.1 hi
      have hoi' : ops[i]? = some o := by simpa using hoi
      have hil : i < ops.length := (List.getElem?_eq_some_iff.1 hoi').1
      have him : i < m := by
        by_cases h : i < m
        · exact h
        · have hb := hf.ok.tail i (by omega) hil i0 (by omega)
          rw [(hf.ok.mask i o hoi').1] at hb
          obtain ⟨e, he, hbd, h8⟩ := maskOf_bit hb
          have hl := hed e he hbd
          have : L.getD i0 false = true := by
            rcases h8 with h8 | h8
            · rw [h8]; exact hl
            · exact closed_mask (S := fun k => L.getD k false = true) hf.ok inv.closed e.on (Nat.lt_trans ((hf.ok.mask i o hoi').2 e he hbd) hil) hl i0 h8
          rw [hL0] at this; cases this
      refine inv.step hf him hi _ fun t1 w1 V1 inv1 => ?_
      have hiL : i < L.size := by rw [inv.lsize]; exact hil
      refine ih t' _ t1 w1 V1 inv1 (fun j h1 h2 => by rw [set_getD hiL, if_neg (by omega)]; exact hT j h1 h2) ?_
      have hLi : L[i] = false := by
        have := getD_tf hu
        simpa [Array.getD_eq_getD_getElem?, hiL] using this
      rw [Array.toList_setIfInBounds, List.count_set (by simpa using hiL)]
      have e1 : (L.toList[i]'(by simpa using hiL) == false) = true := by simp [hLi]
      have e2 : (true == false) = false := rfl
      rw [e1, e2, if_pos rfl, if_neg (by simp)]
      omega

/-- A region whose order Go leaves open, where the operations sps of the first m turn memory, one behind the other. -/
theorem gd_regionS {b : Base} {ds : List Deferred} {k : List Item} {F : List (Nat × Ty)} {R : Value → World → Prop} {l : List Oper} {id : Nat} (m : Nat) (sps : List Nat) (brk : Option Nat) (es : List Bool) (hP : P.follows .mixedOrders = true) (hok : drOk2 l m = true) (hsp : spChk l m sps brk es = true)
    (h : DQ P n M l sps es (l.take m) 0 F (fun F' => SC P l brk F' (fun Fs M' => GL P C b n ds l (l.drop m) m k (Fs ++ F') M' R) sps [] M)) : G P C b n ds (.code (.region id l.toArray true) :: k) F M R := by
  obtain ⟨Ts, h1, h2, h3⟩ := h.ex
  have hD := drOk2_spec hok
  have hf : Facts2 P n m M l (befs l) sps brk es F Ts := ⟨hD, spChk_spec hsp, by rw [h1, List.length_take]; have := hD.le; omega, fun j o hj ho => by
    have := h3 j o (by rw [List.getElem?_take, if_pos hj]; exact ho)
    simpa using this⟩
  refine ⟨fun t w V hs hTF hev hM hI => ?_⟩
  refine Runs.head (fun _ => m_draw) ?_
  simp only [Region.schedule, hP, Bool.true_or, if_true]
  have hev' : Evo C.X C.w0 C.V0 { w with drawn := w.drawn + 1 } V := hev.trans (Evo.draw (X := []) hev.has) (by simp)
  have hM' : Mem M { w with drawn := w.drawn + 1 } V := hM.evo hev.has (Evo.draw (X := []) hev.has) (by simp)
  unfold Region.linearise
  have h00 : ∀ i, (Array.replicate l.length false).getD i false = false := fun i => by
    rw [Array.getD_eq_getD_getElem?, Array.getElem?_replicate]; split <;> rfl
  refine Inv2.phase (C := C) (K := fun Fs M' => GL P C b n ds l (l.drop m) m k (Fs ++ (Ts.reverse ++ F)) M' R) hf ?_ _ _ _ t _ V ?_ ?_ ?_
  · intro L t' w' V' inv hall
    obtain ⟨is0, is, Fs, M', g1, g2, g3, g4, g5, g6, g7, g8, g9⟩ := inv.ch
    have his : is = [] := by
      cases is with
      | nil => rfl
      | cons i is =>
        have := g3 i (by simp)
        rw [hall i (hf.sp.lt i (by rw [g1]; simp))] at this; cases this
    subst his
    cases g4 with
    | nil hGL0 =>
      have hlen : (l.drop m).length = l.length - m := by simp
      have hGL := hGL0.h fun j => by simp
      rw [hlen] at hGL
      refine hGL.h t' w' V' inv.size ?_ inv.evo g7 g8
      intro s U hU
      rw [look_append] at hU
      cases hl : Rt.look Fs s with
      | some U' => rw [hl] at hU; cases hU; exact g5 s _ hl
      | none =>
        rw [hl] at hU
        simp only [Option.none_or] at hU
        have htk : Ts.take m = Ts := by rw [← hf.len]; exact List.take_length
        have hlk := hf.look m s
        rw [htk] at hlk
        rcases hlk with ⟨a, y, e1, e2, e3, e4⟩ | ⟨e1, e2⟩
        · rw [e4] at hU; cases hU
          have := inv.done a y e2 (hall a e1)
          rw [e3] at this; exact this
        · rw [e2] at hU
          refine inv.old s (fun a p ham hp _ e => ?_) U hU
          obtain ⟨p', z, hp', hz, hfact⟩ := hf.get ham
          rw [hp] at hp'; cases hp'
          refine e1 a z ham hz ?_
          rcases hfact.dst with ⟨hd, _⟩ | ⟨_, hd, _⟩
          · rw [e] at hd; exact (Option.some.inj hd).symm
          · rw [e] at hd; cases hd
  · refine ⟨hs, by simp, ?_, ?_, ?_, hev', ?_⟩
    · intro i x _ hl
      rw [show l.toArray.size = l.length from rfl, h00] at hl; cases hl
    · intro s _ U hU; exact hTF s U hU
    · intro i o _ hl
      rw [show l.toArray.size = l.length from rfl, h00] at hl; cases hl
    · exact ⟨[], sps, [], M, rfl, by simp, fun i _ => by rw [show l.toArray.size = l.length from rfl, h00], h2, fun s U hU => by simp [Rt.look] at hU, fun s hs' => absurd rfl hs', hM', hI, fun _ _ _ h => h⟩
  · intro i _ _; rw [show l.toArray.size = l.length from rfl, h00]
  · simp

end

section
variable {P : Program} {n : Nat} {M : List Res} {ops l : List Oper} {i : Nat} {F : List (Nat × Ty)} {K : List (Nat × Ty) → Prop} {sps : List Nat} {es : List Bool}

theorem dq_nil (h : K F) : DQ P n M ops sps es [] i F K := .nil h

theorem notin_of {sps : List Nat} {i : Nat} (h : sps.all (fun j => !Nat.beq i j) = true) : i ∉ sps := fun hm => by
  have := List.all_eq_true.1 h i hm
  simp at this

theorem dq_op {d : Nat} {op : Op} {ty : TypeId} {pos : String} {af : Array Edge} {T : Ty}
    (hop : OpT P F M ⟨some d, op, ty, pos, af, none⟩ T) (h : DQ P n M ops sps es l (i + 1) ((d, T) :: F) K) (he : es.getD i false = true := by rfl) (hd : isDefer op = false := by rfl) (hn : okDst d n = true := by rfl) (hs : sps.all (fun j => !Nat.beq i j) = true := by rfl) :
    DQ P n M ops sps es (⟨some d, op, ty, pos, af, none⟩ :: l) i F K :=
  .cons (x := (d, T)) ⟨hd, .inl ⟨rfl, by simpa [okDst] using hn⟩, .inr (.inl ⟨notin_of hs, rfl, .inl ⟨he, hop⟩⟩)⟩ h

/-- One that reads no memory that turns: it may come anywhere. -/
theorem dq_opU {d : Nat} {op : Op} {ty : TypeId} {pos : String} {af : Array Edge} {T : Ty}
    (hop : ∀ M', OpT P F M' ⟨some d, op, ty, pos, af, none⟩ T) (h : DQ P n M ops sps es l (i + 1) ((d, T) :: F) K) (hd : isDefer op = false := by rfl) (hn : okDst d n = true := by rfl) (hs : sps.all (fun j => !Nat.beq i j) = true := by rfl) :
    DQ P n M ops sps es (⟨some d, op, ty, pos, af, none⟩ :: l) i F K :=
  .cons (x := (d, T)) ⟨hd, .inl ⟨rfl, by simpa [okDst] using hn⟩, .inr (.inl ⟨notin_of hs, rfl, .inr hop⟩)⟩ h

/-- One that turns memory: nothing is known of its slot till the region's end. -/
theorem dq_skip {d : Nat} {op : Op} {ty : TypeId} {pos : String} {af : Array Edge}
    (h : DQ P n M ops sps es l (i + 1) ((d, anyTy) :: F) K) (hs : i ∈ sps := by simp) (hd : isDefer op = false := by rfl) (hn : okDst d n = true := by rfl) :
    DQ P n M ops sps es (⟨some d, op, ty, pos, af, none⟩ :: l) i F K :=
  .cons (x := (d, anyTy)) ⟨hd, .inl ⟨rfl, by simpa [okDst] using hn⟩, .inl ⟨hs, rfl⟩⟩ h
theorem dq_skip0 {op : Op} {ty : TypeId} {pos : String} {af : Array Edge}
    (h : DQ P n M ops sps es l (i + 1) ((n + i, anyTy) :: F) K) (hs : i ∈ sps := by simp) (hd : isDefer op = false := by rfl) :
    DQ P n M ops sps es (⟨none, op, ty, pos, af, none⟩ :: l) i F K :=
  .cons (x := (n + i, anyTy)) ⟨hd, .inr ⟨hs, rfl, rfl⟩, .inl ⟨hs, rfl⟩⟩ h

theorem dq_guard {d j dj : Nat} {want : Bool} {c : Prop} {op : Op} {ty : TypeId} {pos : String} {af : Array Edge} {T : Ty}
    (hdj : (ops[j]?).bind (·.dst) = some dj := by rfl) (hg : GuardC F dj want c := by first | exact gc_is rfl | exact gc_when rfl)
    (hop : c → OpT P F M ⟨some d, op, ty, pos, af, some (j, want)⟩ T) (h : DQ P n M ops sps es l (i + 1) ((d, When c T) :: F) K)
    (he : es.getD i false = true := by rfl) (hdn : okDst dj n = true := by rfl) (hd : isDefer op = false := by rfl) (hn : okDst d n = true := by rfl) (hs : sps.all (fun j => !Nat.beq i j) = true := by rfl) :
    DQ P n M ops sps es (⟨some d, op, ty, pos, af, some (j, want)⟩ :: l) i F K :=
  .cons (x := (d, When c T)) ⟨hd, .inl ⟨rfl, by simpa [okDst] using hn⟩, .inr (.inr ⟨notin_of hs, j, want, dj, c, T, rfl, hdj, by simpa [okDst] using hdn, hg, fun hc => .inl ⟨he, hop hc⟩, rfl⟩)⟩ h

variable {Fs : List (Nat × Ty)} {KK : List (Nat × Ty) → List Res → Prop} {brk : Option Nat} {is : List Nat}
theorem sc_nil (h : KK Fs M) : SC P ops brk F KK [] Fs M := .nil h
/-- A new block. -/
theorem sc_new {o : Oper} {β : Type} {T : β → Ty} {r : β → Res} {d : Nat} (ho : ops[i]? = some o) (hop : OpM P (Fs ++ F) M o β T (fun x => r x :: M)) (hd : o.dst = some d) (h : ∀ x, SC P ops brk F KK is ((d, T x) :: Fs) (r x :: M)) : SC P ops brk F KK (i :: is) Fs M :=
  .cons ho hop (.inr fun _ _ _ hm => hm.tail) fun x => by unfold wr; rw [hd]; exact h x
/-- The first that turns what is read. -/
theorem sc_brk {o : Oper} {M' : List Res} (ho : ops[i]? = some o) (hop : OpM P (Fs ++ F) M o Unit (fun _ => anyTy) (fun _ => M')) (hd : o.dst = none) (hb : brk = some i) (h : SC P ops brk F KK is Fs M') : SC P ops brk F KK (i :: is) Fs M :=
  .cons ho hop (.inl hb) fun _ => by unfold wr; rw [hd]; exact h
end
section
variable {P : Program} {n : Nat} {M : List Res} {ops l : List Oper} {i : Nat} {F : List (Nat × Ty)} {K : List (Nat × Ty) → Prop} {sps : List Nat} {es : List Bool} {d : Option Nat} {ty : TypeId} {pos : String} {af : Array Edge}
theorem dq_p_move {x : Operand} (h : DQ P n M ops sps es (⟨d, (.move x), ty, pos, af, none⟩ :: l) i F K) : DQ P n M ops sps es (⟨d, (.move x), ty, pos, af, none⟩ :: l) i F K := h
theorem dq_p_assign {x : Operand} (h : DQ P n M ops sps es (⟨d, (.assign x), ty, pos, af, none⟩ :: l) i F K) : DQ P n M ops sps es (⟨d, (.assign x), ty, pos, af, none⟩ :: l) i F K := h
theorem dq_p_pick {x y z : Operand} (h : DQ P n M ops sps es (⟨d, (.pick x y z), ty, pos, af, none⟩ :: l) i F K) : DQ P n M ops sps es (⟨d, (.pick x y z), ty, pos, af, none⟩ :: l) i F K := h
theorem dq_p_load {t : TypeId} {x : Operand} (h : DQ P n M ops sps es (⟨d, (.load t x), ty, pos, af, none⟩ :: l) i F K) : DQ P n M ops sps es (⟨d, (.load t x), ty, pos, af, none⟩ :: l) i F K := h
theorem dq_p_field {t : TypeId} {x : Operand} {f : Nat} (h : DQ P n M ops sps es (⟨d, (.fieldAddr t x f), ty, pos, af, none⟩ :: l) i F K) : DQ P n M ops sps es (⟨d, (.fieldAddr t x f), ty, pos, af, none⟩ :: l) i F K := h
theorem dq_p_indexAddr {t : TypeId} {x y : Operand} (h : DQ P n M ops sps es (⟨d, (.indexAddr t x y), ty, pos, af, none⟩ :: l) i F K) : DQ P n M ops sps es (⟨d, (.indexAddr t x y), ty, pos, af, none⟩ :: l) i F K := h
theorem dq_p_bin {o : BinOp} {t u : TypeId} {x y : Operand} (h : DQ P n M ops sps es (⟨d, (.binOp o t x y u), ty, pos, af, none⟩ :: l) i F K) : DQ P n M ops sps es (⟨d, (.binOp o t x y u), ty, pos, af, none⟩ :: l) i F K := h
theorem dq_p_un {o : UnOp} {t : TypeId} {x : Operand} (h : DQ P n M ops sps es (⟨d, (.unOp o t x), ty, pos, af, none⟩ :: l) i F K) : DQ P n M ops sps es (⟨d, (.unOp o t x), ty, pos, af, none⟩ :: l) i F K := h
theorem dq_p_conv {t u : TypeId} {x : Operand} (h : DQ P n M ops sps es (⟨d, (.convert t u x), ty, pos, af, none⟩ :: l) i F K) : DQ P n M ops sps es (⟨d, (.convert t u x), ty, pos, af, none⟩ :: l) i F K := h
theorem dq_p_call {c : Call} (h : DQ P n M ops sps es (⟨d, (.call c), ty, pos, af, none⟩ :: l) i F K) : DQ P n M ops sps es (⟨d, (.call c), ty, pos, af, none⟩ :: l) i F K := h
theorem dq_p_extract {x : Operand} {f : Nat} (h : DQ P n M ops sps es (⟨d, (.extract x f), ty, pos, af, none⟩ :: l) i F K) : DQ P n M ops sps es (⟨d, (.extract x f), ty, pos, af, none⟩ :: l) i F K := h
theorem dq_p_build {t : TypeId} {ps : Array (Nat × Operand)} (h : DQ P n M ops sps es (⟨d, (.build t ps), ty, pos, af, none⟩ :: l) i F K) : DQ P n M ops sps es (⟨d, (.build t ps), ty, pos, af, none⟩ :: l) i F K := h
theorem dq_p_buildSlice {t : TypeId} {f : Nat} {ps : Array (Nat × Operand)} (h : DQ P n M ops sps es (⟨d, (.buildSlice t f ps), ty, pos, af, none⟩ :: l) i F K) : DQ P n M ops sps es (⟨d, (.buildSlice t f ps), ty, pos, af, none⟩ :: l) i F K := h
theorem dq_p_box {t : TypeId} {x : Operand} (h : DQ P n M ops sps es (⟨d, (.box t x), ty, pos, af, none⟩ :: l) i F K) : DQ P n M ops sps es (⟨d, (.box t x), ty, pos, af, none⟩ :: l) i F K := h
theorem dq_p_alloc {t : TypeId} (h : DQ P n M ops sps es (⟨d, (.alloc t), ty, pos, af, none⟩ :: l) i F K) : DQ P n M ops sps es (⟨d, (.alloc t), ty, pos, af, none⟩ :: l) i F K := h
theorem dq_p_store {t : TypeId} {x y : Operand} (h : DQ P n M ops sps es (⟨d, (.store t x y), ty, pos, af, none⟩ :: l) i F K) : DQ P n M ops sps es (⟨d, (.store t x y), ty, pos, af, none⟩ :: l) i F K := h
theorem dq_p_slice {t : TypeId} {x : Operand} {y z u : Option Operand} (h : DQ P n M ops sps es (⟨d, (.slice t x y z u), ty, pos, af, none⟩ :: l) i F K) : DQ P n M ops sps es (⟨d, (.slice t x y z u), ty, pos, af, none⟩ :: l) i F K := h
theorem dq_p_guard {op : Op} {g : Nat × Bool} (h : DQ P n M ops sps es (⟨d, op, ty, pos, af, some g⟩ :: l) i F K) : DQ P n M ops sps es (⟨d, op, ty, pos, af, some g⟩ :: l) i F K := h
end
end Go.Rt
