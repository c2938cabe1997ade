/- The plain side: runs made of readings; packets that come one by one; their run. -/
import Derived.Test.YtkoinfegbkigcaaRtTJ
namespace Go.Proofs.Ytkoinfegbkigcaa
open Go.Rt

/-- A run made of readings. -/
def W (nm : ByteArray) (f : Int) (l : List Reading) : Run := ⟨nm, f, l.map fun x => smp x.n, holesOf l⟩

/-- Readings in their normal form. -/
def Nrm (l : List Reading) : Prop := ∀ x ∈ l, SmpR x.n ∧ (x.known = false → x.n = 0)

def lastHi : Int → List Span → Int
  | last, [] => last
  | _, h :: l => lastHi h.hi l

theorem lastHi_snoc (last : Int) (l : List Span) (s : Span) : lastHi last (l ++ [s]) = s.hi := by
  induction l generalizing last with
  | nil => rfl
  | cons a l ih => exact ih _

theorem HolesOk.mono {n m last : Int} {l : List Span} (h : HolesOk n last l) (hnm : n ≤ m) : HolesOk m last l := by
  induction l generalizing last with
  | nil => trivial
  | cons a l ih => exact ⟨h.1, h.2.1, h.2.2.1, by have := h.2.2.2.1; omega, ih h.2.2.2.2⟩

theorem holesOk_snoc (n last : Int) (l : List Span) (s : Span) : HolesOk n last (l ++ [s]) ↔ HolesOk n last l ∧ lastHi last l < s.lo ∧ 0 ≤ s.lo ∧ s.lo < s.hi ∧ s.hi ≤ n := by
  induction l generalizing last with
  | nil => simp [HolesOk, lastHi]
  | cons a l ih =>
    simp only [List.cons_append, HolesOk, lastHi, ih]
    constructor
    · rintro ⟨h1, h2, h3, h4, h5, h6⟩; exact ⟨⟨h1, h2, h3, h4, h5⟩, h6⟩
    · rintro ⟨⟨h1, h2, h3, h4, h5⟩, h6⟩; exact ⟨h1, h2, h3, h4, h5, h6⟩

theorem inHole_append (a b : List Span) (i : Int) : inHole (a ++ b) i = (inHole a i || inHole b i) := by simp [inHole]
theorem inHole_one (s : Span) (i : Int) : inHole [s] i = decide (s.lo ≤ i ∧ i < s.hi) := by simp [inHole]

theorem holesUp_inv (l : List Reading) : ∀ k, k ≤ l.length → HolesOk k (-1) (holesUp l k) ∧ ∀ i : Nat, inHole (holesUp l k) i = (decide (i < k) && !(l.getD i default).known)
  | 0, _ => ⟨trivial, fun i => by simp [holesUp, inHole]⟩
  | k + 1, h => by
    obtain ⟨h1, h2⟩ := holesUp_inv l k (by omega)
    simp only [holesUp, holeStep]
    cases hkn : (l.getD k default).known with
    | true =>
      rw [if_pos rfl]
      refine ⟨h1.mono (by omega), fun i => ?_⟩
      rw [h2 i]
      by_cases hi : i = k
      · subst hi; rw [hkn]; simp
      · congr 1; rw [decide_eq_decide]; omega
    | false =>
      rw [if_neg (by simp)]
      rcases List.eq_nil_or_concat (holesUp l k) with e | ⟨l', s, e⟩
      · rw [e] at h2
        rw [e, if_neg (by simp)]
        refine ⟨⟨by simp only []; omega, by simp only []; omega, by simp only []; omega, by simp only []; omega, trivial⟩, fun i => ?_⟩
        rw [List.nil_append, inHole_one]
        have h3 := h2 i
        simp only [inHole, List.any_nil] at h3
        by_cases hi : i = k
        · subst hi; rw [hkn]; simp; omega
        · by_cases hlt : i < k
          · simp only [hlt, decide_true, Bool.true_and] at h3
            rw [← h3, Bool.and_false]; simp only [decide_eq_false_iff_not]; omega
          · have e1 : decide (i < k + 1) = false := by simp only [decide_eq_false_iff_not]; omega
            rw [e1, Bool.false_and]; simp only [decide_eq_false_iff_not]; omega
      · rw [List.concat_eq_append] at e
        rw [e] at h1 h2
        obtain ⟨g1, g2, g3, g4, g5⟩ := (holesOk_snoc _ _ _ _).1 h1
        have elast : (l' ++ [s]).getD ((l' ++ [s]).length - 1) default = s := by simp [List.getD]
        rw [e, elast]
        by_cases hs : s.hi = k
        · rw [if_pos ⟨by simp, hs⟩]
          have eset : (l' ++ [s]).set ((l' ++ [s]).length - 1) (Span.mk s.lo (s.hi + 1)) = l' ++ [Span.mk s.lo (s.hi + 1)] := by simp
          rw [eset]
          refine ⟨(holesOk_snoc _ _ _ _).2 ⟨g1.mono (by omega), g2, g3, by simp only []; omega, by simp only []; omega⟩, fun i => ?_⟩
          have h3 := h2 i
          rw [inHole_append, inHole_one] at h3 ⊢
          by_cases hi : i = k
          · subst hi
            rw [hkn]
            have e1 : decide (s.lo ≤ (i : Int) ∧ (i : Int) < s.hi + 1) = true := by simp only [decide_eq_true_eq]; omega
            rw [e1]; simp
          · have e1 : decide (s.lo ≤ (i : Int) ∧ (i : Int) < s.hi + 1) = decide (s.lo ≤ (i : Int) ∧ (i : Int) < s.hi) := by rw [decide_eq_decide]; omega
            rw [e1, h3]; congr 1; rw [decide_eq_decide]; omega
        · rw [if_neg (fun hh => hs hh.2)]
          refine ⟨(holesOk_snoc _ _ _ _).2 ⟨h1.mono (by omega), by rw [lastHi_snoc]; simp only []; omega, by simp only []; omega, by simp only []; omega, by simp only []; omega⟩, fun i => ?_⟩
          rw [inHole_append, h2 i, inHole_one]
          by_cases hi : i = k
          · subst hi
            rw [hkn]
            have e1 : decide ((i : Int) ≤ (i : Int) ∧ (i : Int) < (i : Int) + 1) = true := by simp only [decide_eq_true_eq]; omega
            simp only [e1]; simp
          · have e1 : decide ((k : Int) ≤ (i : Int) ∧ (i : Int) < (k : Int) + 1) = false := by simp only [decide_eq_false_iff_not]; omega
            simp only [e1, Bool.or_false]; congr 1; rw [decide_eq_decide]; omega

theorem inHole_holesOf {l : List Reading} {i : Nat} (h : i < l.length) : inHole (holesOf l) i = !(l.getD i default).known := by
  have := (holesUp_inv l l.length (Nat.le_refl _)).2 i
  rw [holesOf, this, decide_eq_true h, Bool.true_and]

theorem W_len (nm : ByteArray) (f : Int) (l : List Reading) : (W nm f l).xs.length = l.length := by simp [W]
theorem W_get (nm : ByteArray) (f : Int) {l : List Reading} {i : Nat} (h : i < l.length) : (W nm f l).xs.getD i default = smp (l.getD i default).n := by simp [W, List.getD, h]

theorem rds_W {nm : ByteArray} {f : Int} {l : List Reading} (h : Nrm l) : rds (W nm f l) = l := by
  refine ext_getD (by rw [rds_len, W_len]) fun i hi => ?_
  have hi' : i < l.length := by rw [rds_len, W_len] at hi; exact hi
  obtain ⟨g1, g2⟩ := h _ (getD_mem hi')
  rw [rds_get _ (by rw [W_len]; exact hi'), show (W nm f l).hs = holesOf l from rfl, inHole_holesOf hi', W_get nm f hi', smp_val g1]
  cases hk : (l.getD i default).known with
  | true =>
    rw [if_neg (by simp)]
    cases hx : l.getD i default; rw [hx] at hk; simp only at hk; rw [hk]
  | false =>
    rw [if_pos (by simp)]
    have := g2 hk
    cases hx : l.getD i default; rw [hx] at hk this; simp only at hk this; rw [hk, this]

theorem runOk_W {nm : ByteArray} {f : Int} {l : List Reading} (hn : NameOk nm) (hf : 0 ≤ f) (hl : l.length ≤ 4096) (hf1 : f + l.length ≤ 100000000) (h : Nrm l) : RunOk (W nm f l) where
  name := hn
  f0 := hf
  len := by rw [W_len]; exact hl
  f1 := by rw [W_len]; exact hf1
  good := fun x hx => by
    simp only [W, List.mem_map] at hx
    obtain ⟨r, hr, rfl⟩ := hx
    exact smp_good (h r hr).1
  holes := by rw [W_len]; exact (holesUp_inv l l.length (Nat.le_refl _)).1
  zero := fun s hs x hx => by
    obtain ⟨a1, a2, a3⟩ := (holesUp_inv l l.length (Nat.le_refl _)).1.at s hs
    obtain ⟨j, hj⟩ := List.getElem?_of_mem hx
    rw [List.getElem?_drop, List.getElem?_take] at hj
    split at hj
    · rename_i hlt
      have hil : s.lo.toNat + j < l.length := by
        have := (List.getElem?_eq_some_iff.1 hj).1
        rwa [W_len] at this
      have hx : x = smp (l.getD (s.lo.toNat + j) default).n := by
        rw [← W_get nm f hil]
        simp [List.getD, hj]
      have hin : inHole (holesOf l) ((s.lo.toNat + j : Nat) : Int) = true := by
        unfold inHole
        rw [List.any_eq_true]
        exact ⟨s, hs, by simp only [decide_eq_true_eq]; omega⟩
      rw [inHole_holesOf hil] at hin
      obtain ⟨g1, g2⟩ := h _ (getD_mem hil)
      rw [hx, smp_val g1]
      exact g2 (by simpa using hin)
    · cases hj
  hlen := by
    have := holesUp_len l l.length
    have e : (W nm f l).hs = holesUp l l.length := rfl
    rw [e]; omega
  sm := fun x hx => by
    simp only [W, List.mem_map] at hx
    obtain ⟨r, hr, rfl⟩ := hx
    rw [smp_val (h r hr).1]; exact (h r hr).1

theorem Nrm.append {a b : List Reading} (ha : Nrm a) (hb : Nrm b) : Nrm (a ++ b) := fun x hx => (List.mem_append.1 hx).elim (ha x) (hb x)
theorem nrm_gap (n : Nat) : Nrm (List.replicate n ⟨0, false⟩) := fun x hx => by
  rw [List.mem_replicate] at hx; rw [hx.2]; exact ⟨by unfold SmpR; simp, fun _ => rfl⟩
theorem Nrm.reverse {a : List Reading} (ha : Nrm a) : Nrm a.reverse := fun x hx => ha x (List.mem_reverse.1 hx)

/-- A triple that is sent, with its counter. -/
structure Pk where
  c : Nat
  x : Int
  y : Int
  z : Int
  deriving Inhabited
def Pk.d (p : Pk) : Int × Int × Int := (p.x, p.y, p.z)
def Pk.ok (p : Pk) : Prop := SmpR p.x ∧ SmpR p.y ∧ SmpR p.z
def rd3 (d : Int × Int × Int) : List Reading := [⟨d.1, true⟩, ⟨d.2.1, true⟩, ⟨d.2.2, true⟩]
theorem nrm_rd3 {p : Pk} (h : p.ok) : Nrm (rd3 p.d) := by
  intro x hx
  simp only [rd3, Pk.d, List.mem_cons, List.not_mem_nil, or_false] at hx
  rcases hx with rfl | rfl | rfl
  · exact ⟨h.1, fun e => by cases e⟩
  · exact ⟨h.2.1, fun e => by cases e⟩
  · exact ⟨h.2.2, fun e => by cases e⟩
theorem W_rd3 (nm : ByteArray) (f : Int) (d : Int × Int × Int) : W nm f (rd3 d) = ⟨nm, f, [smp d.1, smp d.2.1, smp d.2.2], []⟩ := by
  simp [W, rd3, holesOf, holesUp, holeStep]

/-- The first counter and the readings of the run of the first k packets. -/
def jrun (ps : List Pk) : Nat → Nat × List Reading
  | 0 => (0, [])
  | k + 1 => if k = 0 then ((ps.getD k default).c, rd3 (ps.getD k default).d)
    else ((jrun ps k).1, (jrun ps k).2 ++ List.replicate (3 * (ps.getD k default).c - (3 * (jrun ps k).1 + (jrun ps k).2.length)) ⟨0, false⟩ ++ rd3 (ps.getD k default).d)

/-- What came, in its order: g tells it by its counter. -/
structure Sent (g : Nat → Option (Int × Int × Int)) (ps : List Pk) : Prop where
  inc : ps.Pairwise (fun a b => a.c < b.c)
  val : ∀ p ∈ ps, g p.c = some p.d
  all : ∀ c d, g c = some d → ∃ p ∈ ps, p.c = c
  ok : ∀ p ∈ ps, p.ok

theorem Sent.lt {g : Nat → Option (Int × Int × Int)} {ps : List Pk} (h : Sent g ps) {i j : Nat} (hij : i < j) (hj : j < ps.length) : (ps.getD i default).c < (ps.getD j default).c := by
  have := List.pairwise_iff_getElem.1 h.inc i j (by omega) hj hij
  simpa [List.getD, hj, show i < ps.length by omega] using this

theorem Sent.gap {g : Nat → Option (Int × Int × Int)} {ps : List Pk} (h : Sent g ps) {k : Nat} (hk : k + 1 < ps.length) {c : Nat} (h1 : (ps.getD k default).c < c) (h2 : c < (ps.getD (k + 1) default).c) : g c = none := by
  cases hg : g c with
  | none => rfl
  | some d =>
    obtain ⟨p, hp, rfl⟩ := h.all c d hg
    obtain ⟨i, hi⟩ := List.getElem?_of_mem hp
    have hil := (List.getElem?_eq_some_iff.1 hi).1
    have hpi : ps.getD i default = p := by simp [List.getD, hi]
    rw [← hpi] at h1 h2
    rcases Nat.lt_trichotomy i k with h3 | h3 | h3
    · have := h.lt h3 (by omega); omega
    · subst h3; omega
    · rcases Nat.lt_or_ge (k + 1) i with h4 | h4
      · have := h.lt h4 hil; omega
      · have : i = k + 1 := by omega
        subst this; omega

/-- The reading of a place of a triple. -/
def rdAt (d : Option (Int × Int × Int)) (j : Nat) : Reading :=
  match d with
  | none => ⟨0, false⟩
  | some d => ⟨if j = 0 then d.1 else if j = 1 then d.2.1 else d.2.2, true⟩

theorem getD_append_left {α : Type} [Inhabited α] {a b : List α} {i : Nat} (h : i < a.length) : (a ++ b).getD i default = a.getD i default := by
  simp [List.getD, List.getElem?_append_left h]
theorem getD_append_right {α : Type} [Inhabited α] {a b : List α} {i : Nat} (h : a.length ≤ i) : (a ++ b).getD i default = b.getD (i - a.length) default := by
  simp [List.getD, List.getElem?_append_right h]

theorem rd3_get (d : Int × Int × Int) {j : Nat} (h : j < 3) : (rd3 d).getD j default = rdAt (some d) j := by
  have : j = 0 ∨ j = 1 ∨ j = 2 := by omega
  rcases this with rfl | rfl | rfl <;> rfl

theorem jrun_inv {g : Nat → Option (Int × Int × Int)} {ps : List Pk} (h : Sent g ps) : ∀ k, k < ps.length →
    (jrun ps (k + 1)).1 = (ps.getD 0 default).c ∧ (ps.getD 0 default).c ≤ (ps.getD k default).c ∧ (jrun ps (k + 1)).2.length = 3 * ((ps.getD k default).c + 1 - (ps.getD 0 default).c) ∧ Nrm (jrun ps (k + 1)).2 ∧
      ∀ j, j < (jrun ps (k + 1)).2.length → (jrun ps (k + 1)).2.getD j default = rdAt (g ((ps.getD 0 default).c + j / 3)) (j % 3)
  | 0, hk => by
    have hv := h.val _ (getD_mem hk)
    have ho := h.ok _ (getD_mem hk)
    refine ⟨rfl, Nat.le_refl _, ?_, nrm_rd3 ho, fun j hj => ?_⟩
    · simp [jrun, rd3]
    · have hj3 : j < 3 := by simpa [jrun, rd3] using hj
      have e : (jrun ps (0 + 1)).2 = rd3 (ps.getD 0 default).d := rfl
      rw [e, rd3_get _ hj3, show j / 3 = 0 by omega, Nat.add_zero, hv, show j % 3 = j by omega]
  | k + 1, hk => by
    obtain ⟨h1, h2, h3, h4, h5⟩ := jrun_inv h k (by omega)
    have hv := h.val _ (getD_mem hk)
    have ho := h.ok _ (getD_mem hk)
    have hlt := h.lt (i := k) (j := k + 1) (by omega) hk
    obtain ⟨c0, hc0⟩ : ∃ c0, c0 = (ps.getD 0 default).c := ⟨_, rfl⟩
    obtain ⟨ck, hck⟩ : ∃ ck, ck = (ps.getD k default).c := ⟨_, rfl⟩
    obtain ⟨cn, hcn⟩ : ∃ cn, cn = (ps.getD (k + 1) default).c := ⟨_, rfl⟩
    obtain ⟨L, hL⟩ : ∃ L, L = (jrun ps (k + 1)).2 := ⟨_, rfl⟩
    have e1 : jrun ps (k + 1 + 1) = ((jrun ps (k + 1)).1, (jrun ps (k + 1)).2 ++ List.replicate (3 * (ps.getD (k + 1) default).c - (3 * (jrun ps (k + 1)).1 + (jrun ps (k + 1)).2.length)) ⟨0, false⟩ ++ rd3 (ps.getD (k + 1) default).d) := by
      rw [jrun, if_neg (by omega)]
    rw [e1]
    simp only
    rw [h1]
    have hgap := fun c => h.gap (k := k) hk (c := c)
    rw [← hc0] at h2 h3 h5 ⊢
    rw [← hck] at h2 h3 hlt hgap
    rw [← hcn] at hlt hgap hv ⊢
    rw [← hL] at h3 h4 h5 ⊢
    have hr3 : (rd3 (ps.getD (k + 1) default).d).length = 3 := rfl
    have hlen : (L ++ List.replicate (3 * cn - (3 * c0 + L.length)) (Reading.mk 0 false) ++ rd3 (ps.getD (k + 1) default).d).length = 3 * (cn + 1 - c0) := by
      rw [List.length_append, List.length_append, List.length_replicate, hr3]; omega
    refine ⟨rfl, by omega, hlen, (h4.append (nrm_gap _)).append (nrm_rd3 ho), fun j hj => ?_⟩
    rw [hlen] at hj
    by_cases hj1 : j < L.length
    · rw [getD_append_left (by rw [List.length_append]; omega), getD_append_left hj1, h5 j hj1]
    · by_cases hj2 : j < 3 * (cn - c0)
      · rw [getD_append_left (by rw [List.length_append, List.length_replicate]; omega), getD_append_right (by omega)]
        rw [hgap (c0 + j / 3) (by omega) (by omega)]
        have : j - L.length < 3 * cn - (3 * c0 + L.length) := by omega
        simp [List.getD, this, rdAt]
      · rw [getD_append_right (by rw [List.length_append, List.length_replicate]; omega), List.length_append, List.length_replicate]
        have e2 : c0 + j / 3 = cn := by omega
        rw [e2, hv]
        rw [show j - (L.length + (3 * cn - (3 * c0 + L.length))) = j % 3 by omega]
        exact rd3_get _ (by omega)

def gones (ps : List Pk) : Nat → List Int
  | 0 => []
  | k + 1 => if k = 0 then [] else gones ps k ++ (List.range' ((ps.getD (k - 1) default).c + 1) ((ps.getD k default).c - (ps.getD (k - 1) default).c - 1)).map (fun c : Nat => (c : Int))

theorem gones_inv {g : Nat → Option (Int × Int × Int)} {ps : List Pk} (h : Sent g ps) : ∀ k, k < ps.length →
    gones ps (k + 1) = ((List.range' (ps.getD 0 default).c ((ps.getD k default).c + 1 - (ps.getD 0 default).c)).filter fun c : Nat => (g c).isNone).map (fun c : Nat => (c : Int))
  | 0, hk => by
    have hv := h.val _ (getD_mem hk)
    rw [show (ps.getD 0 default).c + 1 - (ps.getD 0 default).c = 1 by omega]
    simp only [gones, List.range'_one, List.filter_cons, hv, List.filter_nil]
    rfl
  | k + 1, hk => by
    have ih := gones_inv h k (by omega)
    have hv := h.val _ (getD_mem hk)
    have hlt := h.lt (i := k) (j := k + 1) (by omega) hk
    have h2 := (jrun_inv h k (by omega)).2.1
    have hgap := fun c => h.gap (k := k) hk (c := c)
    rw [gones, if_neg (by omega), ih, Nat.add_sub_cancel]
    obtain ⟨c0, hc0⟩ : ∃ c0, c0 = (ps.getD 0 default).c := ⟨_, rfl⟩
    obtain ⟨ck, hck⟩ : ∃ ck, ck = (ps.getD k default).c := ⟨_, rfl⟩
    obtain ⟨cn, hcn⟩ : ∃ cn, cn = (ps.getD (k + 1) default).c := ⟨_, rfl⟩
    rw [← hc0] at h2 ⊢
    rw [← hck] at h2 hlt hgap ⊢
    rw [← hcn] at hlt hgap hv ⊢
    have e1 : List.range' c0 (cn + 1 - c0) = List.range' c0 (ck + 1 - c0) ++ (List.range' (ck + 1) (cn - ck - 1) ++ [cn]) := by
      have a1 := List.range'_append_1 (s := ck + 1) (m := cn - ck - 1) (n := 1)
      rw [List.range'_one, show ck + 1 + (cn - ck - 1) = cn by omega] at a1
      rw [a1]
      have a2 := List.range'_append_1 (s := c0) (m := ck + 1 - c0) (n := cn - ck - 1 + 1)
      rw [show c0 + (ck + 1 - c0) = ck + 1 by omega] at a2
      rw [a2]; congr 1; omega
    have e2 : (List.range' (ck + 1) (cn - ck - 1)).filter (fun c : Nat => (g c).isNone) = List.range' (ck + 1) (cn - ck - 1) := by
      rw [List.filter_eq_self]
      intro c hc
      rw [List.mem_range'_1] at hc
      rw [hgap c (by omega) (by omega)]; rfl
    rw [e1, List.filter_append, List.filter_append, e2]
    simp [hv]

def turn3 (d : Int × Int × Int) : Int × Int × Int := (d.2.2, d.2.1, d.1)
theorem rdAt_turn (o : Option (Int × Int × Int)) {j : Nat} (h : j < 3) : rdAt (o.map turn3) j = rdAt o (2 - j) := by
  have : j = 0 ∨ j = 1 ∨ j = 2 := by omega
  cases o <;> rcases this with rfl | rfl | rfl <;> rfl

theorem getD_reverse {α : Type} [Inhabited α] {l : List α} {j : Nat} (h : j < l.length) : l.reverse.getD j default = l.getD (l.length - 1 - j) default := by
  simp [List.getD, List.getElem?_reverse h]

theorem seg_rev {g g' : Nat → Option (Int × Int × Int)} {ps ps' : List Pk} {n : Nat} (h : Sent g ps) (h' : Sent g' ps') (k : Nat) (hk : k + 1 = ps.length) (hk' : k + 1 = ps'.length) (hb : (ps.getD k default).c < n)
    (hf : (ps'.getD 0 default).c = n - 1 - (ps.getD k default).c) (hl : (ps'.getD k default).c = n - 1 - (ps.getD 0 default).c) (hg : ∀ c, c < n → g' (n - 1 - c) = (g c).map turn3) :
    (jrun ps' (k + 1)).2 = (jrun ps (k + 1)).2.reverse := by
  obtain ⟨a1, a2, a3, a4, a5⟩ := jrun_inv h k (by omega)
  obtain ⟨b1, b2, b3, b4, b5⟩ := jrun_inv h' k (by omega)
  refine ext_getD (by rw [List.length_reverse]; omega) fun j hj => ?_
  rw [b5 j hj, getD_reverse (by omega), a5 _ (by omega)]
  obtain ⟨c0, hc0⟩ : ∃ c0, c0 = (ps.getD 0 default).c := ⟨_, rfl⟩
  obtain ⟨ck, hck⟩ : ∃ ck, ck = (ps.getD k default).c := ⟨_, rfl⟩
  rw [← hc0] at a2 a3 hl ⊢
  rw [← hck] at a2 a3 hf hb
  rw [hf, hl] at b3
  rw [hf]
  have e1 : n - 1 - ck + j / 3 = n - 1 - (ck - j / 3) := by omega
  have e2 : c0 + ((jrun ps (k + 1)).2.length - 1 - j) / 3 = ck - j / 3 := by omega
  have e3 : ((jrun ps (k + 1)).2.length - 1 - j) % 3 = 2 - j % 3 := by omega
  rw [e1, hg _ (by omega), rdAt_turn _ (by omega), e2, e3]

/-- Is packet i not lost? -/
def keepAt (lost i : Nat) : Bool := decide (lost / 2 ^ i % 2 = 0)
/-- The packets that come, in their order; those of the other end. -/
def ks (lost n : Nat) : List Nat := (List.range n).filter (keepAt lost)
abbrev D3 := Int × Int × Int
def pkOf (c : Nat) (d : D3) : Pk := ⟨c, d.1, d.2.1, d.2.2⟩
def pks (ds : List D3) (lost : Nat) : List Pk := (ks lost ds.length).map fun i => pkOf i (ds.getD i default)
def bks (ds : List D3) (lost : Nat) : List Pk := (ks lost ds.length).reverse.map fun i => pkOf (ds.length - 1 - i) (turn3 (ds.getD i default))
def gd (ds : List D3) (lost c : Nat) : Option D3 := if c < ds.length ∧ keepAt lost c = true then some (ds.getD c default) else none
def gb (ds : List D3) (lost c : Nat) : Option D3 := if c < ds.length then (gd ds lost (ds.length - 1 - c)).map turn3 else none
def D3ok (d : D3) : Prop := SmpR d.1 ∧ SmpR d.2.1 ∧ SmpR d.2.2

theorem mem_ks {lost n i : Nat} : i ∈ ks lost n ↔ i < n ∧ keepAt lost i = true := by simp [ks]
theorem ks_inc (lost n : Nat) : (ks lost n).Pairwise (· < ·) := List.Pairwise.filter _ List.pairwise_lt_range

theorem sent_pks {ds : List D3} {lost : Nat} (h : ∀ d ∈ ds, D3ok d) : Sent (gd ds lost) (pks ds lost) where
  inc := by
    unfold pks
    rw [List.pairwise_map]
    exact ks_inc _ _
  val := fun p hp => by
    simp only [pks, List.mem_map] at hp
    obtain ⟨i, hi, rfl⟩ := hp
    rw [mem_ks] at hi
    exact if_pos hi
  all := fun c d hc => by
    unfold gd at hc
    split at hc
    · rename_i hh
      exact ⟨pkOf c (ds.getD c default), List.mem_map.2 ⟨c, mem_ks.2 hh, rfl⟩, rfl⟩
    · cases hc
  ok := fun p hp => by
    simp only [pks, List.mem_map] at hp
    obtain ⟨i, hi, rfl⟩ := hp
    exact h _ (getD_mem (mem_ks.1 hi).1)

theorem sent_bks {ds : List D3} {lost : Nat} (h : ∀ d ∈ ds, D3ok d) : Sent (gb ds lost) (bks ds lost) where
  inc := by
    unfold bks
    rw [List.pairwise_map, List.pairwise_reverse]
    refine (ks_inc lost ds.length).imp_of_mem fun ha hb hlt => ?_
    have := (mem_ks.1 hb).1
    simp only [pkOf]; omega
  val := fun p hp => by
    simp only [bks, List.mem_map, List.mem_reverse] at hp
    obtain ⟨i, hi, rfl⟩ := hp
    rw [mem_ks] at hi
    have e : ds.length - 1 - (ds.length - 1 - i) = i := by omega
    simp only [gb, pkOf, e, gd]
    rw [if_pos (by omega), if_pos hi]; rfl
  all := fun c d hc => by
    unfold gb gd at hc
    split at hc
    · split at hc
      · rename_i h1 h2
        refine ⟨pkOf (ds.length - 1 - (ds.length - 1 - c)) (turn3 (ds.getD (ds.length - 1 - c) default)), List.mem_map.2 ⟨ds.length - 1 - c, List.mem_reverse.2 (mem_ks.2 h2), rfl⟩, ?_⟩
        simp only [pkOf]; omega
      · cases hc
    · cases hc
  ok := fun p hp => by
    simp only [bks, List.mem_map, List.mem_reverse] at hp
    obtain ⟨i, hi, rfl⟩ := hp
    have := h _ (getD_mem (mem_ks.1 hi).1)
    exact ⟨this.2.2, this.2.1, this.1⟩

theorem gb_gd (ds : List D3) (lost : Nat) : ∀ c, c < ds.length → gb ds lost (ds.length - 1 - c) = (gd ds lost c).map turn3 := fun c hc => by
  unfold gb
  rw [if_pos (by omega), show ds.length - 1 - (ds.length - 1 - c) = c by omega]

theorem bks_len (ds : List D3) (lost : Nat) : (bks ds lost).length = (pks ds lost).length := by simp [bks, pks]
theorem pks_c {ds : List D3} {lost i : Nat} (h : i < (pks ds lost).length) : ((pks ds lost).getD i default).c = (ks lost ds.length).getD i default := by
  have h' : i < (ks lost ds.length).length := by simpa [pks] using h
  simp [pks, List.getD, h', pkOf]
theorem bks_c {ds : List D3} {lost i : Nat} (h : i < (pks ds lost).length) : ((bks ds lost).getD i default).c = ds.length - 1 - ((pks ds lost).getD ((pks ds lost).length - 1 - i) default).c := by
  have h' : i < (ks lost ds.length).length := by simpa [pks] using h
  have hl : (pks ds lost).length = (ks lost ds.length).length := by simp [pks]
  rw [pks_c (by omega), hl]
  simp only [bks, List.getD, List.getElem?_map, List.getElem?_reverse h']
  rw [List.getElem?_eq_getElem (show (ks lost ds.length).length - 1 - i < (ks lost ds.length).length by omega)]
  rfl

/-- What is received from the other end is the reversed run. -/
theorem back_rev {ds : List D3} {lost : Nat} (h : ∀ d ∈ ds, D3ok d) (k : Nat) (hk : k + 1 = (pks ds lost).length) :
    (jrun (bks ds lost) (k + 1)).2 = (jrun (pks ds lost) (k + 1)).2.reverse := by
  have hb : ((pks ds lost).getD k default).c < ds.length := by
    rw [pks_c (by omega)]
    have h' : k < (ks lost ds.length).length := by have : (pks ds lost).length = (ks lost ds.length).length := by simp [pks]
                                                   omega
    exact (mem_ks.1 (getD_mem h')).1
  refine seg_rev (n := ds.length) (sent_pks h) (sent_bks h) k hk (by rw [bks_len]; exact hk) hb ?_ ?_ (gb_gd ds lost)
  · rw [bks_c (by omega), show (pks ds lost).length - 1 - 0 = k by omega]
  · rw [bks_c (by omega), show (pks ds lost).length - 1 - k = 0 by omega]

end Go.Proofs.Ytkoinfegbkigcaa
