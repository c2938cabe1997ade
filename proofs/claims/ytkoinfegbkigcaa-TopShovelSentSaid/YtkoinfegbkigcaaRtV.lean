/- The plain side, on: what the law's loops have made after k rounds. -/
import Derived.Test.YtkoinfegbkigcaaRtTR
namespace Go.Proofs.Ytkoinfegbkigcaa
open Go.Rt

instance : Enc D3 := ⟨true, 3, fun x => [Is (.int .i8 x.1), Is (.int .i8 x.2.1), Is (.int .i8 x.2.2)], fun _ => rfl, by intro x T h; simp at h; rcases h with rfl | rfl | rfl <;> exact scal_is rfl, by decide, by decide⟩

theorem ks_succ (L k : Nat) : ks L (k + 1) = ks L k ++ if keepAt L k = true then [k] else [] := by
  unfold ks
  rw [List.range_succ, List.filter_append]
  congr 1
  by_cases h : keepAt L k = true <;> simp [h]
theorem ks_len (L : Nat) : ∀ k, (ks L k).length ≤ k := fun k => by
  refine Nat.le_trans (List.length_filter_le _ _) ?_
  rw [List.length_range]; exact Nat.le_refl _

theorem keep_iff (L k : Nat) (hk : k ≤ 16) : decide ((L : Int) / 2 ^ min (k : Int).toNat IntKind.u16.bits % 2 ^ 1 = 0) = keepAt L k := by
  have e : min (k : Int).toNat IntKind.u16.bits = k := by
    rw [Int.toNat_natCast]; exact Nat.min_eq_left hk
  rw [e]
  unfold keepAt
  rw [decide_eq_decide]
  have : ((L : Int) / 2 ^ k % 2 ^ 1) = ((L / 2 ^ k % 2 : Nat) : Int) := by
    push_cast; rfl
  rw [this]; omega
theorem lost_iff (L k : Nat) (hk : k ≤ 16) : decide ((L : Int) / 2 ^ min (k : Int).toNat IntKind.u16.bits % 2 ^ 1 = 1) = !keepAt L k := by
  have e : min (k : Int).toNat IntKind.u16.bits = k := by
    rw [Int.toNat_natCast]; exact Nat.min_eq_left hk
  rw [e]
  unfold keepAt
  have : ((L : Int) / 2 ^ k % 2 ^ 1) = ((L / 2 ^ k % 2 : Nat) : Int) := by
    push_cast; rfl
  rw [this]
  have h2 : L / 2 ^ k % 2 = 0 ∨ L / 2 ^ k % 2 = 1 := by omega
  rcases h2 with h2 | h2 <;> rw [h2] <;> decide
theorem shr_lt (L k : Nat) (h : L < 65536) : (L : Int) / 2 ^ min (k : Int).toNat IntKind.u16.bits < 2 ^ IntKind.u16.bits := by
  have h1 : (L : Int) / 2 ^ min (k : Int).toNat IntKind.u16.bits ≤ L := Int.ediv_le_self _ (by omega)
  have h2 : (2 : Int) ^ IntKind.u16.bits = 65536 := by decide
  omega
theorem shr_nn (L k : Nat) : 0 ≤ (L : Int) / 2 ^ min (k : Int).toNat IntKind.u16.bits := Int.ediv_nonneg (by omega) (Int.le_of_lt (Int.pow_pos (by decide)))

def thereP (ds : List D3) (L k : Nat) : List Packet := (ks L k).map fun i => pkt 3 (pkOf i (ds.getD i default))
def backP (ds : List D3) (L k : Nat) : List Packet := (ks L k).reverse.map fun i => pkt 4 (pkOf (ds.length - 1 - i) (turn3 (ds.getD i default)))
theorem thereP_all (ds : List D3) (L : Nat) : thereP ds L ds.length = (pks ds L).map (pkt 3) := by unfold thereP pks; rw [List.map_map]; rfl
theorem backP_all (ds : List D3) (L : Nat) : backP ds L ds.length = (bks ds L).map (pkt 4) := by unfold backP bks; rw [List.map_map]; rfl
theorem strm_append (a b : List Packet) : strm (a ++ b) = strm a ++ strm b := List.flatMap_append
theorem thereP_keep (ds : List D3) (L k : Nat) (h : keepAt L k = true) : strm (thereP ds L (k + 1)) = strm (thereP ds L k) ++ frame (pkt 3 (pkOf k (ds.getD k default))) := by
  unfold thereP
  rw [ks_succ, if_pos h, List.map_append, strm_append]
  simp [strm]
theorem thereP_lose (ds : List D3) (L k : Nat) (h : keepAt L k = false) : thereP ds L (k + 1) = thereP ds L k := by
  unfold thereP
  rw [ks_succ, if_neg (by rw [h]; simp), List.append_nil]
theorem backP_keep (ds : List D3) (L k : Nat) (h : keepAt L k = true) : strm (backP ds L (k + 1)) = frame (pkt 4 (pkOf (ds.length - 1 - k) (turn3 (ds.getD k default)))) ++ strm (backP ds L k) := by
  unfold backP
  rw [ks_succ, if_pos h, List.reverse_append, List.map_append, strm_append]
  simp [strm]
theorem backP_lose (ds : List D3) (L k : Nat) (h : keepAt L k = false) : backP ds L (k + 1) = backP ds L k := by
  unfold backP
  rw [ks_succ, if_neg (by rw [h]; simp), List.append_nil]
theorem thereP_len (ds : List D3) (L k : Nat) : (strm (thereP ds L k)).length ≤ 20 * k := by
  rw [strm_len]; unfold thereP; rw [List.length_map]; have := ks_len L k; omega
theorem backP_len (ds : List D3) (L k : Nat) : (strm (backP ds L k)).length ≤ 20 * k := by
  rw [strm_len]; unfold backP; rw [List.length_map, List.length_reverse]; have := ks_len L k; omega

def smps (d : D3) : List F32 := [smp d.1, smp d.2.1, smp d.2.2]
def wholeS (ds : List D3) (k : Nat) : List F32 := (ds.take k).flatMap smps
theorem wholeS_succ (ds : List D3) {k : Nat} (h : k < ds.length) : wholeS ds (k + 1) = wholeS ds k ++ smps (ds.getD k default) := by
  unfold wholeS; rw [take_snoc h, List.flatMap_append]; simp
theorem wholeS_len (ds : List D3) : ∀ k, k ≤ ds.length → (wholeS ds k).length = 3 * k
  | 0, _ => by simp [wholeS]
  | k + 1, h => by rw [wholeS_succ ds (by omega), List.length_append, wholeS_len ds k (by omega)]; simp only [smps, List.length_cons, List.length_nil]; omega
theorem wholeS_get (ds : List D3) : ∀ k, k ≤ ds.length → ∀ i j, i < k → j < 3 → (wholeS ds k).getD (3 * i + j) default = (smps (ds.getD i default)).getD j default
  | 0, _, i, j, hi, _ => by omega
  | k + 1, h, i, j, hi, hj => by
    rw [wholeS_succ ds (by omega)]
    have hl := wholeS_len ds k (by omega)
    by_cases h1 : i < k
    · rw [getD_append_left (by omega)]; exact wholeS_get ds k (by omega) i j h1 hj
    · have : i = k := by omega
      subst this
      rw [getD_append_right (by omega), hl]; congr 1; omega
theorem smps_get (d : D3) {j : Nat} (hj : j < 3) : (smps d).getD j default = smp (rdAt (some d) j).n := by
  have : j = 0 ∨ j = 1 ∨ j = 2 := by omega
  rcases this with rfl | rfl | rfl <;> rfl

def firstI (l : List Nat) : Int := (l.map fun i : Nat => (i : Int)).headD (-1)
def lastI (l : List Nat) : Int := (l.map fun i : Nat => (i : Int)).getLastD (-1)
theorem firstI_succ (L k : Nat) : firstI (ks L (k + 1)) = if keepAt L k = true ∧ firstI (ks L k) < 0 then (k : Int) else firstI (ks L k) := by
  rw [ks_succ]
  by_cases h : keepAt L k = true
  · rw [if_pos h]
    cases hk : ks L k with
    | nil => simp [firstI, h]
    | cons a l => simp [firstI]; intro _ hneg; omega
  · rw [if_neg h, List.append_nil, if_neg (fun hh => h hh.1)]
theorem lastI_succ (L k : Nat) : lastI (ks L (k + 1)) = if keepAt L k = true then (k : Int) else lastI (ks L k) := by
  rw [ks_succ]
  by_cases h : keepAt L k = true
  · rw [if_pos h, if_pos h]; simp [lastI]
  · rw [if_neg h, if_neg h, List.append_nil]
theorem firstI_nil {l : List Nat} (h : l = []) : firstI l = -1 := by subst h; rfl
theorem firstI_get {l : List Nat} (h : 0 < l.length) : firstI l = (l.getD 0 default : Nat) := by
  cases l with
  | nil => simp at h
  | cons a l => simp [firstI]
theorem lastI_get {l : List Nat} (h : 0 < l.length) : lastI l = (l.getD (l.length - 1) default : Nat) := by
  unfold lastI
  rw [List.getLastD_eq_getLast?, List.getLast?_map, List.getLast?_eq_getElem?]
  rw [List.getElem?_eq_getElem (show l.length - 1 < l.length by omega)]
  simp [List.getD, List.getElem?_eq_getElem (show l.length - 1 < l.length by omega)]
theorem firstI_neg (l : List Nat) : firstI l < 0 ↔ l = [] := by
  cases l with
  | nil => simp [firstI]
  | cons a l => simp [firstI]
theorem firstI_bd (L k : Nat) : -1 ≤ firstI (ks L k) ∧ firstI (ks L k) < k ∨ k = 0 ∧ firstI (ks L k) = -1 := by
  rcases Nat.eq_zero_or_pos (ks L k).length with h | h
  · have := List.eq_nil_of_length_eq_zero h
    rw [firstI_nil this]
    omega
  · rw [firstI_get h]
    have := (mem_ks.1 (getD_mem h)).1
    omega
theorem lastI_bd (L k : Nat) : -1 ≤ lastI (ks L k) ∧ lastI (ks L k) < k ∨ k = 0 ∧ lastI (ks L k) = -1 := by
  rcases Nat.eq_zero_or_pos (ks L k).length with h | h
  · have := List.eq_nil_of_length_eq_zero h
    rw [this]
    have e : lastI [] = -1 := rfl
    rw [e]; omega
  · rw [lastI_get h]
    have := (mem_ks.1 (getD_mem (show (ks L k).length - 1 < (ks L k).length by omega))).1
    omega

theorem rdAt_sm {d : D3} (h : D3ok d) (j : Nat) : SmpR (rdAt (some d) j).n := by
  simp only [rdAt]
  by_cases h0 : j = 0
  · rw [if_pos h0]; exact h.1
  · rw [if_neg h0]
    by_cases h1 : j = 1
    · rw [if_pos h1]; exact h.2.1
    · rw [if_neg h1]; exact h.2.2
theorem cmp_ok {ds : List D3} {L i j : Nat} (hin : i < ds.length) (hd : D3ok (ds.getD i default)) :
    (decide ((0 : Int) ≠ 0) || (rdAt (gd ds L i) j).known != keepAt L i || (rdAt (gd ds L i) j).known && fcmp .neq .f32 (smp (rdAt (gd ds L i) j).n).bits (smp (rdAt (some (ds.getD i default)) j).n).bits) = false := by
  cases hkp : keepAt L i with
  | true =>
    have hg : gd ds L i = some (ds.getD i default) := by unfold gd; rw [if_pos ⟨hin, hkp⟩]
    rw [hg, (smp_good (rdAt_sm hd j)).f.irr]
    rfl
  | false =>
    have hg : gd ds L i = none := by unfold gd; rw [if_neg (fun hh => by rw [hh.2] at hkp; cases hkp)]
    rw [hg]
    rfl
end Go.Proofs.Ytkoinfegbkigcaa
