/- Strings, slices of slices, shifts. -/
import Derived.Test.YtkoinfegbkigcaaRtL
import Derived.Laws.RangeString
import Derived.Laws.Shifts
namespace Go.Rt

/-- A string's iterator. -/
def Iter (b : Nat) (s : ByteArray) (pos : Nat) : Res := ⟨some b, fun o _ => o = some (.stringIter s pos), fun _ _ _ _ h => h⟩

def byteAt (s : ByteArray) (i : Nat) : UInt8 := s.data.toList.getD i 0

theorem byteAt_eq {s : ByteArray} {i : Nat} (h : i < s.size) : s[i]'h = byteAt s i := by
  have h' : i < s.data.size := h
  show s.data[i]'h' = _
  simp [byteAt, List.getD]
  rw [Array.getElem?_eq_getElem h', Option.getD_some]

section
variable {P : Program} {F : List (Nat × Ty)} {M : List Res} {o : Oper} {T : Ty}

theorem m_range {t : TypeId} {x : Operand} {s : ByteArray} (ho : o.op = .range t x := by rfl) (hx : OT F x (Is (.string s)) := by exact ot_tmp rfl) (u : UndT P t .string := by infer_instance) :
    OpM P F M o Nat (fun b => Is (.pointer (some ⟨b, 0, none⟩))) (fun b => Iter b s 0 :: M) := by
  refine ⟨fun tm w V hf hh hm => ?_⟩
  have h1 := ot_is hx hf (by simp [ho, Op.operands])
  unfold OpRuns
  have : (execOp (ev tm) o).run P w = .ok (.value (.pointer (some ⟨w.heap.size, 0, none⟩))) (w.iter s 0) := by
    simp [execOp, ho, h1, run_range_string w t s u.h]
  rw [this]
  refine ⟨w.heap.size, V, evo_push_hidden hh _, rfl, ?_, fun b' hb' => ?_⟩
  · exact hm.push hh (r := Iter w.heap.size s 0) rfl rfl
  · rw [ids_cons_some rfl] at hb'
    rcases List.mem_cons.1 hb' with rfl | h
    · exact .inr (Nat.le_refl _)
    · exact .inl h

theorem Iter.get {b pos : Nat} {s : ByteArray} {w : World} {V : View} (h : (Iter b s pos).at w V) : w.heap[b]? = some (.stringIter s pos) := by
  obtain ⟨o, h1, _, h3⟩ := h
  cases h3
  exact h1

theorem m_next {x : Operand} {b pos : Nat} {s : ByteArray} {M' : List Res} (ho : o.op = .next x true := by rfl) (hx : OT F x (Is (.pointer (some ⟨b, 0, none⟩))) := by exact ot_tmp rfl)
    (hu : Upd M (Iter b s pos) M' (Iter b s (pos + 1)) := by (repeat (first | exact Upd.head | apply Upd.tail)); first | done | fail) (hp : pos < s.size) (ha : (byteAt s pos).toNat < 128) :
    OpM P F M o Unit (fun _ => Tup [Is (.bool true), Is (.int .i64 pos), Is (.int .i32 (byteAt s pos).toNat)]) (fun _ => M') := by
  refine ⟨fun tm w V hf hh hm => ?_⟩
  have h1 := ot_is hx hf (by simp [ho, Op.operands])
  have hr := hm.all _ hu.mem
  have hg := Iter.get hr
  have ha' : (s[pos]'hp).toNat < 128 := by rw [byteAt_eq hp]; exact ha
  have hbl : b < w.heap.size := (Array.getElem?_eq_some_iff.1 hg).1
  unfold OpRuns
  have : (execOp (ev tm) o).run P w = .ok (.value (.tuple #[.bool true, .int .i64 pos, .int .i32 (byteAt s pos).toNat])) { w with heap := w.heap.setIfInBounds b (.stringIter s (pos + 1)) } := by
    simp only [execOp, ho, h1, Instr.next, getObj, setObj, Sem.run_bind, Sem.run, hg, Result.andThen, hp, if_true, decode_ascii s pos hp ha']
    simp [goInt, byteAt_eq hp]
  rw [this]
  have hne : ∀ k, k ≠ b → (w.heap.setIfInBounds b (Obj.stringIter s (pos + 1)))[k]? = w.heap[k]? := fun k hk => by
    rw [Array.getElem?_setIfInBounds, if_neg (fun e => hk e.symm)]
  have hmem := hm.upd hu (b := b) (w' := { w with heap := w.heap.setIfInBounds b (.stringIter s (pos + 1)) }) rfl rfl hne (by simp [hbl]) rfl
  obtain ⟨_, _, g2, _⟩ := hr
  exact ⟨(), V, evo_upd hh (mem_ids.2 ⟨_, hu.mem, rfl⟩) g2 rfl rfl rfl (by simp) hne, ⟨_, rfl, rfl, fun i T e => by
    match i, e with
    | 0, e => cases e; exact ⟨_, rfl, rfl⟩
    | 1, e => cases e; exact ⟨_, rfl, rfl⟩
    | 2, e => cases e; exact ⟨_, rfl, rfl⟩⟩, hmem.1, fun b' hb' => .inl (hmem.2 ▸ hb')⟩

theorem t_next_end {x : Operand} {b pos : Nat} {s : ByteArray} (ho : o.op = .next x true := by rfl) (hx : OT F x (Is (.pointer (some ⟨b, 0, none⟩))) := by exact ot_tmp rfl)
    (hu : Iter b s pos ∈ M := by (repeat (first | exact List.Mem.head _ | apply List.Mem.tail)); first | done | fail) (hp : s.size ≤ pos) : OpT P F M o (Tup [Is (.bool false)]) :=
  opT_val fun tm V w hf hh hm => by
    have h1 := ot_is hx hf (by simp [ho, Op.operands])
    have hg := Iter.get (hm.all _ hu)
    refine ⟨.tuple #[.bool false], ?_, _, rfl, rfl, fun i T e => ?_⟩
    · simp [execOp, ho, h1, Instr.next, getObj, Sem.run, hg, Nat.not_lt.2 hp]
    · match i, e with
      | 0, e => cases e; exact ⟨_, rfl, rfl⟩

theorem t_index_str {t : TypeId} {x i : Operand} {s : ByteArray} {k : IntKind} {n : Int} (ho : o.op = .index t x i := by rfl) (hx : OT F x (Is (.string s)) := by first | exact ot_tmp rfl | exact ot_when rfl (by first | assumption | (simp_all; done)))
    (hi : OT F i (Is (.int k n)) := by first | exact ot_tmp rfl | exact ot_const | exact ot_when rfl (by first | assumption | (simp_all; done))) (u : UndT P t .string := by infer_instance) (h0 : 0 ≤ n := by omega) (hn : n < s.size := by omega) : OpT P F M o (Is (.int .u8 (byteAt s n.toNat).toNat)) :=
  opT_val fun tm V w hf _ _ => by
    have h1 := ot_is hx hf (by simp [ho, Op.operands])
    have h2 := ot_is hi hf (by simp [ho, Op.operands])
    have hl : n.toNat < s.size := by omega
    refine ⟨_, ?_, rfl⟩
    simp [execOp, ho, h1, h2, Instr.index, asIntOf, run_underlying u.h, h0, hl, byteAt_eq hl]

theorem t_index_arr {Ts : List Ty} {t e : TypeId} {x i : Operand} {k : IntKind} {n : Int} {len : Nat} (ho : o.op = .index t x i := by rfl) (hx : OT F x (Agg Ts) := by first | exact ot_tmp rfl)
    (hi : OT F i (Is (.int k n)) := by first | exact ot_tmp rfl | exact ot_const) (u : UndT P t (.array len e) := by infer_instance) (sz : SizeT P e 1 := by infer_instance) (ag : AggT P e false := by infer_instance) (h0 : 0 ≤ n := by omega) (hn : n < len := by omega) (hT : Ts[n.toNat]? = some T) : OpT P F M o T :=
  opT_val fun tm V w hf _ _ => by
    obtain ⟨cs, h1, h2, h3⟩ := hx.h tm V (hf _ (by simp [ho, Op.operands]))
    have h4 := ot_is hi hf (by simp [ho, Op.operands])
    obtain ⟨c, h5, h6⟩ := h3 _ _ hT
    refine ⟨c, ?_, h6⟩
    simp [execOp, ho, h1, h4, Instr.index, asIntOf, run_underlying u.h, h0, hn, sz.h w, ag.h w, part, h5]

theorem run_bound {P : Program} {w : World} {k : IntKind} {i : Int} {y : Nat} {c : BoundsCode} (h0 : 0 ≤ i) (h1 : i ≤ y) : (Instr.sliceBound (.int k i) y c).run P w = .ok i.toNat w := by
  simp [Instr.sliceBound, asIntOf, h0, h1]

/-- What lies between two bounds of a slice. -/
theorem sl_part {α : Type} [Enc α] {xs : List α} {V : View} {a : Option Addr} {cap l h : Nat} (hs : (Sl xs).p (.slice a xs.length cap) V) (hl : l ≤ h) (hh : h ≤ xs.length) :
    (Sl ((xs.take h).drop l)).p (.slice (if cap = l then a else a.map (·.add (l * Enc.sz α))) (h - l) (cap - l)) V := by
  obtain ⟨a1, n1, c1, h1, h2, h3, h4, h5⟩ := hs
  cases h1
  refine ⟨_, _, _, rfl, by simp; omega, by omega, by omega, fun hne => ?_⟩
  have hlt : l < h := by
    rcases Nat.lt_or_ge l h with h6 | h6
    · exact h6
    · exact absurd (List.drop_of_length_le (by simp; omega)) hne
  obtain ⟨a', rfl, h7⟩ := h5 (by intro e; subst e; simp at hh; omega)
  have hcl : ¬ cap = l := by omega
  rw [if_neg hcl]
  refine ⟨_, rfl, ?_⟩
  have h8 := h7.drop (l * Enc.sz α)
  rw [flatMap_drop] at h8
  refine h8.pre fun i T e => ?_
  rw [List.drop_take] at e
  have hpre : (xs.drop l).flatMap Enc.ty = ((xs.drop l).take (h - l)).flatMap Enc.ty ++ ((xs.drop l).drop (h - l)).flatMap Enc.ty := by
    rw [← List.flatMap_append, List.take_append_drop]
  rw [hpre, List.getElem?_append_left (List.getElem?_eq_some_iff.1 e).1]
  exact e

theorem t_slice_lh {α : Type} [Enc α] {xs : List α} {t e : TypeId} {x lo hi : Operand} {k k' : IntKind} {l h : Int} (ho : o.op = .slice t x (some lo) (some hi) none := by rfl) (hx : OT F x (Sl xs) := by first | exact ot_tmp rfl | exact ot_sub (ot_tmp rfl) sl_slf)
    (hlo : OT F lo (Is (.int k l)) := by first | exact ot_tmp rfl | exact ot_const) (hhi : OT F hi (Is (.int k' h)) := by first | exact ot_tmp rfl | exact ot_const) (u : UndT P t (.slice e) := by infer_instance) (sz : SizeT P e (Enc.sz α) := by infer_instance)
    (h0 : 0 ≤ l := by omega) (h1 : l ≤ h := by omega) (h2 : h ≤ xs.length := by omega) : OpT P F M o (Sl ((xs.take h.toNat).drop l.toNat)) :=
  opT_val fun tm V w hf _ _ => by
    have h3 := hx.h tm V (hf _ (by simp [ho, Op.operands]))
    have h4 := ot_is hlo hf (by simp [ho, Op.operands])
    have h5 := ot_is hhi hf (by simp [ho, Op.operands])
    obtain ⟨a, n, cap, h6, h7, h8, _⟩ := id h3
    subst h7
    rw [h6] at h3
    refine ⟨_, ?_, sl_part h3 (l := l.toNat) (h := h.toNat) (by omega) (by omega)⟩
    have e1 : ((h.toNat : Nat) : Int) = h := Int.toNat_of_nonneg (by omega)
    simp [execOp, ho, h4, h5, h6, Instr.sliceAt, Instr.slice, run_underlying u.h, Instr.sliceBounds, run_bound (P := P) (w := w) (k := k') (i := h) (y := cap) (c := .sliceAcap) (by omega) (by omega), run_bound (P := P) (w := w) (k := k) (i := l) (y := h.toNat) (c := .sliceB) (by omega) (by omega), sz.h w]

theorem t_slice_h {α : Type} [Enc α] {xs : List α} {t e : TypeId} {x hi : Operand} {k' : IntKind} {h : Int} (ho : o.op = .slice t x none (some hi) none := by rfl) (hx : OT F x (Sl xs) := by first | exact ot_tmp rfl | exact ot_sub (ot_tmp rfl) sl_slf)
    (hhi : OT F hi (Is (.int k' h)) := by first | exact ot_tmp rfl | exact ot_const) (u : UndT P t (.slice e) := by infer_instance) (sz : SizeT P e (Enc.sz α) := by infer_instance)
    (h1 : 0 ≤ h := by omega) (h2 : h ≤ xs.length := by omega) : OpT P F M o (Sl (xs.take h.toNat)) :=
  opT_val fun tm V w hf _ _ => by
    have h3 := hx.h tm V (hf _ (by simp [ho, Op.operands]))
    have h5 := ot_is hhi hf (by simp [ho, Op.operands])
    obtain ⟨a, n, cap, h6, h7, h8, _⟩ := id h3
    subst h7
    rw [h6] at h3
    have h9 := sl_part h3 (l := 0) (h := h.toNat) (by omega) (by omega)
    simp only [List.drop_zero] at h9
    refine ⟨_, ?_, h9⟩
    simp [execOp, ho, h5, h6, Instr.sliceAt, Instr.slice, run_underlying u.h, Instr.sliceBounds, run_bound (P := P) (w := w) (k := k') (i := h) (y := cap) (c := .sliceAcap) (by omega) (by omega), sz.h w]

theorem t_slice_l {α : Type} [Enc α] {xs : List α} {t e : TypeId} {x lo : Operand} {k' : IntKind} {h : Int} (ho : o.op = .slice t x (some lo) none none := by rfl) (hx : OT F x (Sl xs) := by first | exact ot_tmp rfl | exact ot_sub (ot_tmp rfl) sl_slf)
    (hhi : OT F lo (Is (.int k' h)) := by first | exact ot_tmp rfl | exact ot_const) (u : UndT P t (.slice e) := by infer_instance) (sz : SizeT P e (Enc.sz α) := by infer_instance)
    (h1 : 0 ≤ h := by omega) (h2 : h ≤ xs.length := by omega) : OpT P F M o (Sl (xs.drop h.toNat)) :=
  opT_val fun tm V w hf _ _ => by
    have h3 := hx.h tm V (hf _ (by simp [ho, Op.operands]))
    have h5 := ot_is hhi hf (by simp [ho, Op.operands])
    obtain ⟨a, n, cap, h6, h7, h8, _⟩ := id h3
    subst h7
    rw [h6] at h3
    have h9 := sl_part h3 (l := h.toNat) (h := xs.length) (by omega) (by omega)
    simp only [List.take_length] at h9
    refine ⟨_, ?_, h9⟩
    simp [execOp, ho, h5, h6, Instr.sliceAt, Instr.slice, run_underlying u.h, Instr.sliceBounds, run_bound (P := P) (w := w) (k := k') (i := h) (y := xs.length) (c := .sliceB) (by omega) (by omega), sz.h w]

/-- All of an array, by its address. -/
theorem t_slice_arr {α : Type} [Enc α] {t e : TypeId} {x : Operand} {Ts : List Ty} {n : Nat} (xs : List α) (ho : o.op = .slice t x none none none := by rfl) (hx : OT F x (PtrTo Ts) := by exact ot_tmp rfl)
    (u : UndT P t (.array n e) := by infer_instance) (sz : SizeT P e (Enc.sz α) := by infer_instance) (hn : xs.length = n := by rfl) (hT : Ts.take (n * Enc.sz α) = xs.flatMap Enc.ty := by rfl) (h63 : n ≤ 9223372036854775807 := by decide) : OpT P F M o (Sl xs) :=
  opT_val fun tm V w hf _ _ => by
    obtain ⟨a, h1, h2⟩ := hx.h tm V (hf _ (by simp [ho, Op.operands]))
    refine ⟨.slice (some a) n n, ?_, some a, n, n, rfl, hn.symm, Nat.le_refl _, h63, fun _ => ⟨a, rfl, hT ▸ h2.take _⟩⟩
    by_cases h0 : n = 0
    · subst h0
      simp [execOp, ho, h1, Instr.sliceAt, Instr.sureAddr, run_underlying u.h, Instr.sliceBounds, sz.h w]
    · simp [execOp, ho, h1, Instr.sliceAt, Instr.sureAddr, run_underlying u.h, Instr.sliceBounds, sz.h w, Addr.add]

theorem t_toArr {α : Type} [Enc α] {t e : TypeId} {x : Operand} {xs : List α} {n : Nat} (ho : o.op = .sliceToArrayPointer t x := by rfl) (hx : OT F x (Sl xs) := by first | exact ot_tmp rfl | exact ot_sub (ot_tmp rfl) sl_slf)
    (u : UndT P t (.array n e) := by infer_instance) (hn : xs.length = n) (hn0 : n ≠ 0 := by decide) : OpT P F M o (PtrTo (xs.flatMap Enc.ty)) :=
  opT_val fun tm V w hf _ _ => by
    obtain ⟨a, len, cap, h1, h2, h3, h4, h5⟩ := hx.h tm V (hf _ (by simp [ho, Op.operands]))
    obtain ⟨a', rfl, h6⟩ := h5 (by intro e; subst e; simp at hn; exact hn0 hn.symm)
    refine ⟨.pointer (some a'), ?_, a', rfl, h6⟩
    simp [execOp, ho, h1, Instr.arrayAt, run_underlying u.h, h2, hn]

theorem t_shr {ty ty' : TypeId} {x y : Operand} {k k' : IntKind} {a b : Int} (ho : o.op = .binOp .shr ty x y ty' := by rfl) (hx : OT F x (Is (.int k a)) := by first | exact ot_tmp rfl | exact ot_const) (hy : OT F y (Is (.int k' b)) := by first | exact ot_tmp rfl | exact ot_const)
    (hb : 0 ≤ b := by omega) : OpT P F M o (Is (.int k (a / 2 ^ min b.toNat k.bits))) :=
  t_bin ho hx hy fun w => by simp [eqGuard, binOp, shift_shr_any k k' a b hb]

theorem t_neb {ty ty' : TypeId} {x y : Operand} {a b : Bool} (ho : o.op = .binOp .neq ty x y ty' := by rfl) (u : UndT P ty .bool := by infer_instance) (hx : OT F x (Is (.bool a)) := by first | exact ot_tmp rfl | exact ot_const) (hy : OT F y (Is (.bool b)) := by first | exact ot_tmp rfl | exact ot_const) : OpT P F M o (Is (.bool (a != b))) :=
  t_bin ho hx hy fun w => by simp [eqGuard, run_neq_bool w ty a b u.h, bne]
end
end Go.Rt
