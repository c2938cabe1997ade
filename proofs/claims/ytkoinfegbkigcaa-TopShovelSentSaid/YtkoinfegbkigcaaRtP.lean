/- Which kind of operation stands next. -/
import Derived.Test.YtkoinfegbkigcaaRtN
namespace Go.Rt
section
variable {P : Program} {C : Ctx} {b : Base} {n : Nat} {ds : List Deferred} {k : List Item} {F : List (Nat × Ty)} {M : List Res} {R : Value → World → Prop} {ops l : List Oper} {i : Nat} {d : Option Nat} {ty : TypeId} {pos : String} {af : Array Edge} {gd : Option (Nat × Bool)} {sp : Option Nat} {K : List (Nat × Ty) → Prop}
theorem gl_p_move {x : Operand} (h : GL P C b n ds ops (⟨d, (.move x), ty, pos, af, none⟩ :: l) i k F M R) : GL P C b n ds ops (⟨d, (.move x), ty, pos, af, none⟩ :: l) i k F M R := h
theorem dl_p_move {x : Operand} (h : DL P n M ops sp (⟨d, (.move x), ty, pos, af, none⟩ :: l) i F K) : DL P n M ops sp (⟨d, (.move x), ty, pos, af, none⟩ :: l) i F K := h
theorem gl_p_assign {x : Operand} (h : GL P C b n ds ops (⟨d, (.assign x), ty, pos, af, none⟩ :: l) i k F M R) : GL P C b n ds ops (⟨d, (.assign x), ty, pos, af, none⟩ :: l) i k F M R := h
theorem dl_p_assign {x : Operand} (h : DL P n M ops sp (⟨d, (.assign x), ty, pos, af, none⟩ :: l) i F K) : DL P n M ops sp (⟨d, (.assign x), ty, pos, af, none⟩ :: l) i F K := h
theorem gl_p_pick {x y z : Operand} (h : GL P C b n ds ops (⟨d, (.pick x y z), ty, pos, af, none⟩ :: l) i k F M R) : GL P C b n ds ops (⟨d, (.pick x y z), ty, pos, af, none⟩ :: l) i k F M R := h
theorem dl_p_pick {x y z : Operand} (h : DL P n M ops sp (⟨d, (.pick x y z), ty, pos, af, none⟩ :: l) i F K) : DL P n M ops sp (⟨d, (.pick x y z), ty, pos, af, none⟩ :: l) i F K := h
theorem gl_p_load {t : TypeId} {x : Operand} (h : GL P C b n ds ops (⟨d, (.load t x), ty, pos, af, none⟩ :: l) i k F M R) : GL P C b n ds ops (⟨d, (.load t x), ty, pos, af, none⟩ :: l) i k F M R := h
theorem dl_p_load {t : TypeId} {x : Operand} (h : DL P n M ops sp (⟨d, (.load t x), ty, pos, af, none⟩ :: l) i F K) : DL P n M ops sp (⟨d, (.load t x), ty, pos, af, none⟩ :: l) i F K := h
theorem gl_p_field {t : TypeId} {x : Operand} {f : Nat} (h : GL P C b n ds ops (⟨d, (.fieldAddr t x f), ty, pos, af, none⟩ :: l) i k F M R) : GL P C b n ds ops (⟨d, (.fieldAddr t x f), ty, pos, af, none⟩ :: l) i k F M R := h
theorem dl_p_field {t : TypeId} {x : Operand} {f : Nat} (h : DL P n M ops sp (⟨d, (.fieldAddr t x f), ty, pos, af, none⟩ :: l) i F K) : DL P n M ops sp (⟨d, (.fieldAddr t x f), ty, pos, af, none⟩ :: l) i F K := h
theorem gl_p_indexAddr {t : TypeId} {x y : Operand} (h : GL P C b n ds ops (⟨d, (.indexAddr t x y), ty, pos, af, none⟩ :: l) i k F M R) : GL P C b n ds ops (⟨d, (.indexAddr t x y), ty, pos, af, none⟩ :: l) i k F M R := h
theorem dl_p_indexAddr {t : TypeId} {x y : Operand} (h : DL P n M ops sp (⟨d, (.indexAddr t x y), ty, pos, af, none⟩ :: l) i F K) : DL P n M ops sp (⟨d, (.indexAddr t x y), ty, pos, af, none⟩ :: l) i F K := h
theorem gl_p_bin {o : BinOp} {t u : TypeId} {x y : Operand} (h : GL P C b n ds ops (⟨d, (.binOp o t x y u), ty, pos, af, none⟩ :: l) i k F M R) : GL P C b n ds ops (⟨d, (.binOp o t x y u), ty, pos, af, none⟩ :: l) i k F M R := h
theorem dl_p_bin {o : BinOp} {t u : TypeId} {x y : Operand} (h : DL P n M ops sp (⟨d, (.binOp o t x y u), ty, pos, af, none⟩ :: l) i F K) : DL P n M ops sp (⟨d, (.binOp o t x y u), ty, pos, af, none⟩ :: l) i F K := h
theorem gl_p_un {o : UnOp} {t : TypeId} {x : Operand} (h : GL P C b n ds ops (⟨d, (.unOp o t x), ty, pos, af, none⟩ :: l) i k F M R) : GL P C b n ds ops (⟨d, (.unOp o t x), ty, pos, af, none⟩ :: l) i k F M R := h
theorem dl_p_un {o : UnOp} {t : TypeId} {x : Operand} (h : DL P n M ops sp (⟨d, (.unOp o t x), ty, pos, af, none⟩ :: l) i F K) : DL P n M ops sp (⟨d, (.unOp o t x), ty, pos, af, none⟩ :: l) i F K := h
theorem gl_p_conv {t u : TypeId} {x : Operand} (h : GL P C b n ds ops (⟨d, (.convert t u x), ty, pos, af, none⟩ :: l) i k F M R) : GL P C b n ds ops (⟨d, (.convert t u x), ty, pos, af, none⟩ :: l) i k F M R := h
theorem dl_p_conv {t u : TypeId} {x : Operand} (h : DL P n M ops sp (⟨d, (.convert t u x), ty, pos, af, none⟩ :: l) i F K) : DL P n M ops sp (⟨d, (.convert t u x), ty, pos, af, none⟩ :: l) i F K := h
theorem gl_p_call {c : Call} (h : GL P C b n ds ops (⟨d, (.call c), ty, pos, af, none⟩ :: l) i k F M R) : GL P C b n ds ops (⟨d, (.call c), ty, pos, af, none⟩ :: l) i k F M R := h
theorem dl_p_call {c : Call} (h : DL P n M ops sp (⟨d, (.call c), ty, pos, af, none⟩ :: l) i F K) : DL P n M ops sp (⟨d, (.call c), ty, pos, af, none⟩ :: l) i F K := h
theorem gl_p_extract {x : Operand} {f : Nat} (h : GL P C b n ds ops (⟨d, (.extract x f), ty, pos, af, none⟩ :: l) i k F M R) : GL P C b n ds ops (⟨d, (.extract x f), ty, pos, af, none⟩ :: l) i k F M R := h
theorem dl_p_extract {x : Operand} {f : Nat} (h : DL P n M ops sp (⟨d, (.extract x f), ty, pos, af, none⟩ :: l) i F K) : DL P n M ops sp (⟨d, (.extract x f), ty, pos, af, none⟩ :: l) i F K := h
theorem gl_p_build {t : TypeId} {ps : Array (Nat × Operand)} (h : GL P C b n ds ops (⟨d, (.build t ps), ty, pos, af, none⟩ :: l) i k F M R) : GL P C b n ds ops (⟨d, (.build t ps), ty, pos, af, none⟩ :: l) i k F M R := h
theorem dl_p_build {t : TypeId} {ps : Array (Nat × Operand)} (h : DL P n M ops sp (⟨d, (.build t ps), ty, pos, af, none⟩ :: l) i F K) : DL P n M ops sp (⟨d, (.build t ps), ty, pos, af, none⟩ :: l) i F K := h
theorem gl_p_buildSlice {t : TypeId} {f : Nat} {ps : Array (Nat × Operand)} (h : GL P C b n ds ops (⟨d, (.buildSlice t f ps), ty, pos, af, none⟩ :: l) i k F M R) : GL P C b n ds ops (⟨d, (.buildSlice t f ps), ty, pos, af, none⟩ :: l) i k F M R := h
theorem dl_p_buildSlice {t : TypeId} {f : Nat} {ps : Array (Nat × Operand)} (h : DL P n M ops sp (⟨d, (.buildSlice t f ps), ty, pos, af, none⟩ :: l) i F K) : DL P n M ops sp (⟨d, (.buildSlice t f ps), ty, pos, af, none⟩ :: l) i F K := h
theorem gl_p_box {t : TypeId} {x : Operand} (h : GL P C b n ds ops (⟨d, (.box t x), ty, pos, af, none⟩ :: l) i k F M R) : GL P C b n ds ops (⟨d, (.box t x), ty, pos, af, none⟩ :: l) i k F M R := h
theorem dl_p_box {t : TypeId} {x : Operand} (h : DL P n M ops sp (⟨d, (.box t x), ty, pos, af, none⟩ :: l) i F K) : DL P n M ops sp (⟨d, (.box t x), ty, pos, af, none⟩ :: l) i F K := h
theorem gl_p_alloc {t : TypeId} (h : GL P C b n ds ops (⟨d, (.alloc t), ty, pos, af, none⟩ :: l) i k F M R) : GL P C b n ds ops (⟨d, (.alloc t), ty, pos, af, none⟩ :: l) i k F M R := h
theorem dl_p_alloc {t : TypeId} (h : DL P n M ops sp (⟨d, (.alloc t), ty, pos, af, none⟩ :: l) i F K) : DL P n M ops sp (⟨d, (.alloc t), ty, pos, af, none⟩ :: l) i F K := h
theorem gl_p_store {t : TypeId} {x y : Operand} (h : GL P C b n ds ops (⟨d, (.store t x y), ty, pos, af, none⟩ :: l) i k F M R) : GL P C b n ds ops (⟨d, (.store t x y), ty, pos, af, none⟩ :: l) i k F M R := h
theorem dl_p_store {t : TypeId} {x y : Operand} (h : DL P n M ops sp (⟨d, (.store t x y), ty, pos, af, none⟩ :: l) i F K) : DL P n M ops sp (⟨d, (.store t x y), ty, pos, af, none⟩ :: l) i F K := h
theorem gl_p_slice {t : TypeId} {x : Operand} {y z u : Option Operand} (h : GL P C b n ds ops (⟨d, (.slice t x y z u), ty, pos, af, none⟩ :: l) i k F M R) : GL P C b n ds ops (⟨d, (.slice t x y z u), ty, pos, af, none⟩ :: l) i k F M R := h
theorem dl_p_slice {t : TypeId} {x : Operand} {y z u : Option Operand} (h : DL P n M ops sp (⟨d, (.slice t x y z u), ty, pos, af, none⟩ :: l) i F K) : DL P n M ops sp (⟨d, (.slice t x y z u), ty, pos, af, none⟩ :: l) i F K := h
theorem gl_p_guard {op : Op} {g : Nat × Bool} (h : GL P C b n ds ops (⟨d, op, ty, pos, af, some g⟩ :: l) i k F M R) : GL P C b n ds ops (⟨d, op, ty, pos, af, some g⟩ :: l) i k F M R := h
theorem dl_p_guard {op : Op} {g : Nat × Bool} (h : DL P n M ops sp (⟨d, op, ty, pos, af, some g⟩ :: l) i F K) : DL P n M ops sp (⟨d, op, ty, pos, af, some g⟩ :: l) i F K := h
theorem gl_p {l : List Oper} (h : GL P C b n ds ops l i k F M R) : GL P C b n ds ops l i k F M R := h
end
end Go.Rt
