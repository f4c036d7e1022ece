/- Plain mathematics of the basis: both lists of candidates have the same least elements; each solution is a sum of them. -/
import Derived.Test.YtfnkobcmhbdcoaaDio
namespace Go.Proofs.Ytfnkobcmhbdcoaa.DioL
open Go.Proofs.Ytfnkobcmhbdcoaa.Dio
set_option linter.unusedVariables false
set_option linter.unusedSimpArgs false

def gt (l : List Int) (i : Nat) : Int := l.getD i 0
theorem gt_lt {l : List Int} {i : Nat} (h : i < l.length) : gt l i = l[i] := by simp [gt, h]
theorem gt_ge {l : List Int} {i : Nat} (h : l.length ≤ i) : gt l i = 0 := by simp [gt, h]
theorem gt_cons_succ (a : Int) (l : List Int) (i : Nat) : gt (a :: l) (i + 1) = gt l i := by simp [gt]
theorem gt_cons_zero (a : Int) (l : List Int) : gt (a :: l) 0 = a := by simp [gt]
theorem gt_ext {x y : List Int} (hl : x.length = y.length) (h : ∀ i, i < x.length → gt x i = gt y i) : x = y := by
  apply List.ext_getElem hl
  intro i h1 h2
  have := h i h1
  rwa [gt_lt h1, gt_lt h2] at this
/-- The list of a function. -/
def tab (n : Nat) (y : Nat → Int) : List Int := (List.range n).map y
@[simp] theorem tab_length (n : Nat) (y : Nat → Int) : (tab n y).length = n := by simp [tab]
theorem gt_tab {n : Nat} {y : Nat → Int} {i : Nat} (h : i < n) : gt (tab n y) i = y i := by
  rw [gt_lt (by simpa using h)]
  simp [tab]

/-! ### all lists under bounds, in order -/
def lexB : List Nat → List (List Int)
  | [] => [[]]
  | b :: bs => (List.range (b + 1)).flatMap fun (k : Nat) => (lexB bs).map fun x => (k : Int) :: x
def withinB : List Nat → List Int → Bool
  | [], [] => true
  | b :: bs, x :: xs => (decide (0 ≤ x) && decide (x ≤ b)) && withinB bs xs
  | _, _ => false
theorem mem_lexB (bs : List Nat) : ∀ x, x ∈ lexB bs ↔ withinB bs x = true := by
  induction bs with
  | nil => intro x; cases x <;> simp [lexB, withinB]
  | cons b bs ih =>
    intro x
    cases x with
    | nil => simp [lexB, withinB]
    | cons x xs =>
      simp only [lexB, List.mem_flatMap, List.mem_range, List.mem_map, withinB, Bool.and_eq_true, decide_eq_true_eq]
      constructor
      · rintro ⟨k, hk, y, hy, he⟩
        injection he with h1 h2
        subst h1; subst h2
        exact ⟨by omega, (ih _).1 hy⟩
      · rintro ⟨h1, h2⟩
        exact ⟨x.toNat, by omega, xs, (ih _).2 h2, by rw [Int.toNat_of_nonneg h1.1]⟩
theorem nodup_lexB (bs : List Nat) : (lexB bs).Nodup := by
  induction bs with
  | nil => simp [lexB]
  | cons b bs ih =>
    unfold lexB
    refine List.pairwise_flatMap.2 ⟨fun k _ => ?_, ?_⟩
    · refine List.Pairwise.map _ (fun a b h => ?_) ih
      intro e
      injection e with _ e
      exact h e
    · refine List.Pairwise.imp ?_ (List.nodup_range (n := b + 1))
      intro a a' hne x hx y hy e
      obtain ⟨x', _, rfl⟩ := List.mem_map.1 hx
      obtain ⟨y', _, rfl⟩ := List.mem_map.1 hy
      injection e with e _
      exact hne (by omega)
theorem withinB_iff (bs : List Nat) : ∀ x, withinB bs x = true ↔ x.length = bs.length ∧ ∀ i, i < x.length → 0 ≤ gt x i ∧ gt x i ≤ (bs.getD i 0 : Nat) := by
  induction bs with
  | nil => intro x; cases x <;> simp [withinB]
  | cons b bs ih =>
    intro x
    cases x with
    | nil => simp [withinB]
    | cons x xs =>
      simp only [withinB, Bool.and_eq_true, decide_eq_true_eq, ih]
      constructor
      · rintro ⟨h1, h2, h3⟩
        refine ⟨by simp [h2], fun i hi => ?_⟩
        cases i with
        | zero => simpa [gt] using h1
        | succ i => simpa [gt] using h3 i (by simpa using hi)
      · rintro ⟨h1, h2⟩
        refine ⟨by simpa [gt] using h2 0 (by simp), by simpa using h1, fun i hi => ?_⟩
        simpa [gt] using h2 (i + 1) (by simpa using hi)
/-- Smaller bounds pick out. -/
def under : List Nat → List Nat → Prop
  | [], [] => True
  | b :: bs, c :: cs => b ≤ c ∧ under bs cs
  | _, _ => False
theorem range_flat {α : Type} (f : Nat → List α) (b : Nat) : ∀ c, b ≤ c → (List.range (c + 1)).flatMap (fun k => if k ≤ b then f k else []) = (List.range (b + 1)).flatMap f := by
  intro c
  induction c with
  | zero =>
    intro h
    obtain rfl : b = 0 := by omega
    simp [List.range_succ]
  | succ c ih =>
    intro h
    by_cases e : b ≤ c
    · rw [List.range_succ, List.flatMap_append, ih e]
      simp; omega
    · obtain rfl : b = c + 1 := by omega
      have : ∀ l : List Nat, (∀ k ∈ l, k ≤ c + 1) → l.flatMap (fun k => if k ≤ c + 1 then f k else []) = l.flatMap f := by
        intro l
        induction l with
        | nil => intro _; rfl
        | cons a l ih =>
          intro h
          simp only [List.flatMap_cons]
          rw [ih (fun k hk => h k (List.mem_cons_of_mem _ hk)), if_pos (h a List.mem_cons_self)]
      exact this _ (fun k hk => by have := List.mem_range.1 hk; omega)
theorem lexB_filter : ∀ (bs cs : List Nat), under bs cs → (lexB cs).filter (withinB bs) = lexB bs := by
  intro bs
  induction bs with
  | nil =>
    intro cs h
    cases cs with
    | nil => rfl
    | cons c cs => exact h.elim
  | cons b bs ih =>
    intro cs h
    cases cs with
    | nil => exact h.elim
    | cons c cs =>
      simp only [lexB, List.filter_flatMap]
      rw [← range_flat (fun (k : Nat) => (lexB bs).map fun x => (k : Int) :: x) b c h.1]
      congr 1
      funext k
      rw [List.filter_map]
      split
      · rename_i hk
        rw [← ih cs h.2]
        congr 1
        apply List.filter_congr
        intro x _
        simp [withinB]
        intro _; omega
      · rename_i hk
        rw [List.map_eq_nil_iff, List.filter_eq_nil_iff]
        intro x _
        simp [withinB]
        omega

/-! ### one list to the next -/
def nextL : List Int → Option (List Int)
  | [] => none
  | x :: xs => match nextL xs with
    | some ys => some (x :: ys)
    | none => if x < 5 then some ((x + 1) :: List.replicate xs.length 0) else none
def Run : List Int → List (List Int) → Prop
  | c, [] => nextL c = none
  | c, d :: ds => nextL c = some d ∧ Run d ds
theorem nextL_len : ∀ (c d : List Int), nextL c = some d → d.length = c.length := by
  intro c
  induction c with
  | nil => intro d h; simp [nextL] at h
  | cons x xs ih =>
    intro d h
    unfold nextL at h
    split at h
    · rename_i ys hy
      injection h with h
      subst h
      simp [ih _ hy]
    · split at h
      · injection h with h
        subst h
        simp
      · cases h
theorem run_last : ∀ (ds : List (List Int)) (c : List Int), Run c ds → Run (5 :: c) (ds.map fun x => 5 :: x) := by
  intro ds
  induction ds with
  | nil => intro c h; simp only [Run] at h; simp [Run, nextL, h]
  | cons d ds ih =>
    intro c h
    obtain ⟨h1, h2⟩ := h
    exact ⟨by simp [nextL, h1], ih d h2⟩
theorem run_next (k : Int) (hk : k < 5) (rest : List (List Int)) (n : Nat) : ∀ (ds : List (List Int)) (c : List Int), c.length = n → Run c ds → Run ((k + 1) :: List.replicate n 0) rest → Run (k :: c) ((ds.map fun x => k :: x) ++ ((k + 1) :: List.replicate n 0) :: rest) := by
  intro ds
  induction ds with
  | nil =>
    intro c hn h hr
    simp only [Run] at h
    exact ⟨by simp [nextL, h, hk, hn], hr⟩
  | cons d ds ih =>
    intro c hn h hr
    obtain ⟨h1, h2⟩ := h
    exact ⟨by simp [nextL, h1], ih d (by rw [nextL_len _ _ h1, hn]) h2 hr⟩
theorem run_lex (n : Nat) : ∃ T, lexB (List.replicate n 5) = List.replicate n 0 :: T ∧ Run (List.replicate n 0) T := by
  induction n with
  | zero => exact ⟨[], rfl, rfl⟩
  | succ n ih =>
    obtain ⟨T, hT, hR⟩ := ih
    have e : List.range 6 = [0, 1, 2, 3, 4, 5] := rfl
    have hz : (List.replicate n (0 : Int)).length = n := by simp
    have r5 := run_last T _ hR
    have r4 := run_next 4 (by omega) _ n T _ hz hR r5
    have r3 := run_next 3 (by omega) _ n T _ hz hR r4
    have r2 := run_next 2 (by omega) _ n T _ hz hR r3
    have r1 := run_next 1 (by omega) _ n T _ hz hR r2
    have r0 := run_next 0 (by omega) _ n T _ hz hR r1
    refine ⟨_, ?_, r0⟩
    simp [List.replicate_succ, lexB, hT, e]

/-! ### solutions, least ones -/
def cf (a b : List Int) : Nat → Int := fun i => if i < a.length then gt a i else - gt b (i - a.length)
def bal (a b x : List Int) : Int := val (cf a b) (gt x) (a.length + b.length)
def zeroB (x : List Int) : Bool := x.all fun k => k == 0
def below (x y : List Int) : Bool := (List.range x.length).all fun i => decide (gt x i ≤ gt y i)
theorem below_iff {x y : List Int} : below x y = true ↔ ∀ i, i < x.length → gt x i ≤ gt y i := by
  unfold below
  rw [List.all_eq_true]
  constructor
  · intro h i hi
    simpa using h i (List.mem_range.2 hi)
  · intro h i hi
    simpa using h i (List.mem_range.1 hi)
def leastB (L : List (List Int)) (x : List Int) : Bool := L.all fun y => (y == x) || !below y x
theorem leastB_iff {L : List (List Int)} {x : List Int} : leastB L x = true ↔ ∀ y ∈ L, below y x = true → y = x := by
  unfold leastB
  rw [List.all_eq_true]
  constructor
  · intro h y hy hb
    have := h y hy
    simpa [hb] using this
  · intro h y hy
    cases hb : below y x with
    | false => simp
    | true => simp [h y hy hb]
def least (L : List (List Int)) : List (List Int) := L.filter (leastB L)
def mostN : List Int → Nat
  | [] => 0
  | x :: xs => max x.toNat (mostN xs)
theorem mostN_ge {l : List Int} {i : Nat} (h : i < l.length) : gt l i ≤ mostN l := by
  induction l generalizing i with
  | nil => simp at h
  | cons x xs ih =>
    cases i with
    | zero => simp only [gt_cons_zero, mostN]; omega
    | succ i =>
      have := ih (i := i) (by simpa using h)
      simp only [gt_cons_succ, mostN]; omega
def solve (a b : List Int) (x : List Int) : Bool := (bal a b x == 0) && !zeroB x
def bnds (a b : List Int) : List Nat := List.replicate a.length (mostN b) ++ List.replicate b.length (mostN a)
def allP (a b : List Int) : List (List Int) := (lexB (List.replicate (a.length + b.length) 5)).filter (solve a b)
def allR (a b : List Int) : List (List Int) := (lexB (bnds a b)).filter (solve a b)
/-- The factors are from 1 to 5. -/
def Fac (l : List Int) : Prop := ∀ i, i < l.length → 1 ≤ gt l i ∧ gt l i ≤ 5
theorem mostN_le {l : List Int} (h : Fac l) : mostN l ≤ 5 := by
  induction l with
  | nil => simp [mostN]
  | cons x xs ih =>
    have h0 := h 0 (by simp)
    have := ih (fun i hi => by have := h (i + 1) (by simpa using hi); rwa [gt_cons_succ] at this)
    rw [gt_cons_zero] at h0
    simp only [mostN]
    omega
theorem mostN_pos {l : List Int} (h : Fac l) (hl : 0 < l.length) : 0 < mostN l := by
  have h0 := h 0 hl
  have := mostN_ge hl
  omega
theorem under_rep : ∀ (n m : Nat), n ≤ m → ∀ k, under (List.replicate k n) (List.replicate k m) := by
  intro n m h k
  induction k with
  | zero => trivial
  | succ k ih => exact ⟨h, ih⟩
theorem under_append : ∀ (a b c d : List Nat), under a b → under c d → under (a ++ c) (b ++ d) := by
  intro a
  induction a with
  | nil =>
    intro b c d h1 h2
    cases b with
    | nil => exact h2
    | cons => exact h1.elim
  | cons x xs ih =>
    intro b c d h1 h2
    cases b with
    | nil => exact h1.elim
    | cons y ys => exact ⟨h1.1, ih ys c d h1.2 h2⟩
theorem under_bnds {a b : List Int} (ha : Fac a) (hb : Fac b) : under (bnds a b) (List.replicate (a.length + b.length) 5) := by
  rw [← List.replicate_append_replicate]
  exact under_append _ _ _ _ (under_rep _ _ (mostN_le hb) _) (under_rep _ _ (mostN_le ha) _)
theorem bnds_get {a b : List Int} (i : Nat) (hi : i < a.length + b.length) : (bnds a b).getD i 0 = if i < a.length then mostN b else mostN a := by
  unfold bnds
  rw [List.getD_eq_getElem?_getD]
  split
  · rename_i h
    rw [List.getElem?_append_left (by simpa using h)]
    simp [h]
  · rename_i h
    rw [List.getElem?_append_right (by simpa using h)]
    simp
    have : i - a.length < b.length := by omega
    simp [this]
theorem cf_ne {a b : List Int} (ha : Fac a) (hb : Fac b) : ∀ i, i < a.length + b.length → cf a b i ≠ 0 := by
  intro i hi
  unfold cf
  split
  · rename_i h; have := ha i h; omega
  · have := hb (i - a.length) (by omega); omega
theorem cf_lo {a b : List Int} (ha : Fac a) (hb : Fac b) : ∀ i, i < a.length + b.length → - cf a b i ≤ (mostN b : Nat) := by
  intro i hi
  unfold cf
  split
  · rename_i h; have := ha i h; omega
  · have := mostN_ge (l := b) (i := i - a.length) (by omega); omega
theorem cf_hi {a b : List Int} (ha : Fac a) (hb : Fac b) : ∀ i, i < a.length + b.length → cf a b i ≤ (mostN a : Nat) := by
  intro i hi
  unfold cf
  split
  · rename_i h; exact mostN_ge h
  · have := hb (i - a.length) (by omega); omega
theorem zeroB_iff {x : List Int} : zeroB x = true ↔ ∀ i, i < x.length → gt x i = 0 := by
  unfold zeroB
  rw [List.all_eq_true]
  constructor
  · intro h i hi
    rw [gt_lt hi]
    simpa using h _ (List.getElem_mem hi)
  · intro h y hy
    obtain ⟨i, hi, rfl⟩ := List.mem_iff_getElem.1 hy
    have := h i hi
    rw [gt_lt hi] at this
    simpa using this
theorem nonzero_iff {x : List Int} (h : ∀ i, i < x.length → 0 ≤ gt x i) : zeroB x = false ↔ ∃ i, i < x.length ∧ 0 < gt x i := by
  constructor
  · intro hz
    apply Classical.byContradiction
    intro hno
    have : zeroB x = true := zeroB_iff.2 (fun i hi => by
      have := h i hi
      have : ¬ 0 < gt x i := fun e => hno ⟨i, hi, e⟩
      omega)
    rw [this] at hz
    cases hz
  · rintro ⟨i, hi, hp⟩
    cases hz : zeroB x with
    | false => rfl
    | true => have := zeroB_iff.1 hz i hi; omega
/-- What lies in the list of candidates. -/
theorem mem_allP {a b x : List Int} : x ∈ allP a b ↔ (x.length = a.length + b.length ∧ ∀ i, i < x.length → 0 ≤ gt x i ∧ gt x i ≤ 5) ∧ bal a b x = 0 ∧ ∃ i, i < x.length ∧ 0 < gt x i := by
  unfold allP solve
  rw [List.mem_filter, mem_lexB, withinB_iff]
  simp only [List.length_replicate, Bool.and_eq_true, beq_iff_eq, Bool.not_eq_true']
  have hrep : ∀ i, i < a.length + b.length → ((List.replicate (a.length + b.length) 5).getD i 0 : Nat) = 5 := fun i hi => by simp [List.getD_eq_getElem?_getD, hi]
  constructor
  · rintro ⟨⟨h1, h2⟩, h3, h4⟩
    refine ⟨⟨h1, fun i hi => ?_⟩, h3, (nonzero_iff (fun i hi => (h2 i hi).1)).1 h4⟩
    have := h2 i hi
    rw [hrep i (by omega)] at this
    omega
  · rintro ⟨⟨h1, h2⟩, h3, h4⟩
    refine ⟨⟨h1, fun i hi => ?_⟩, h3, (nonzero_iff (fun i hi => (h2 i hi).1)).2 h4⟩
    have := h2 i hi
    rw [hrep i (by omega)]
    omega
theorem allR_eq {a b : List Int} (ha : Fac a) (hb : Fac b) : allR a b = (allP a b).filter (withinB (bnds a b)) := by
  unfold allR allP
  rw [← lexB_filter _ _ (under_bnds ha hb), List.filter_filter, List.filter_filter]
  apply List.filter_congr
  intro x _
  rw [Bool.and_comm]
theorem nodup_allP (a b : List Int) : (allP a b).Nodup := (nodup_lexB _).filter _
theorem nodup_allR (a b : List Int) : (allR a b).Nodup := (nodup_lexB _).filter _
/-- Least among the candidates: least of all. -/
theorem mini_of {a b x : List Int} (hx : x ∈ allP a b) (hl : leastB (allP a b) x = true) : Mini (a.length + b.length) (cf a b) (gt x) := by
  obtain ⟨⟨h1, h2⟩, h3, h4⟩ := mem_allP.1 hx
  intro y y0 yx ⟨j, hj, hp⟩ hv
  have hm : tab (a.length + b.length) y ∈ allP a b := by
    refine mem_allP.2 ⟨⟨by simp, fun i hi => ?_⟩, ?_, j, by simpa using hj, by rw [gt_tab hj]; exact hp⟩
    · rw [tab_length] at hi
      rw [gt_tab hi]
      have q0 : 0 ≤ y i := y0 i hi
      have := yx i hi
      have := h2 i (by omega)
      omega
    · unfold bal
      rw [← hv]
      unfold val
      exact sm_congr (fun i hi => by rw [gt_tab hi])
  have he := leastB_iff.1 hl _ hm (below_iff.2 (fun i hi => by
    rw [tab_length] at hi
    rw [gt_tab hi]
    exact yx i hi))
  intro i hi
  rw [← he, gt_tab hi]
theorem least_within {a b x : List Int} (ha : Fac a) (hb : Fac b) (la : 0 < a.length) (lb : 0 < b.length) (hx : x ∈ allP a b) (hl : leastB (allP a b) x = true) : withinB (bnds a b) x = true := by
  obtain ⟨⟨h1, h2⟩, h3, h4⟩ := mem_allP.1 hx
  have hmi := mini_of hx hl
  have h0 : le (a.length + b.length) (fun _ => 0) (gt x) := fun i hi => (h2 i (by omega)).1
  refine (withinB_iff _ _).2 ⟨by simp [bnds, h1], fun i hi => ⟨(h2 i hi).1, ?_⟩⟩
  rw [bnds_get i (by omega)]
  by_cases e : i < a.length
  · rw [if_pos e]
    exact small _ _ _ _ (mostN_pos hb lb) (cf_ne ha hb) (cf_lo ha hb) h3 h0 hmi (by omega) (by unfold cf; rw [if_pos e]; have := ha i e; omega)
  · rw [if_neg e]
    exact small' _ _ _ _ (mostN_pos ha la) (cf_ne ha hb) (cf_hi ha hb) h3 h0 hmi (by omega) (by unfold cf; rw [if_neg e]; have := hb (i - a.length) (by omega); omega)
theorem basis_eq {a b : List Int} (ha : Fac a) (hb : Fac b) (la : 0 < a.length) (lb : 0 < b.length) : least (allR a b) = least (allP a b) := by
  unfold least
  have e := allR_eq ha hb
  rw [show (allR a b).filter (leastB (allR a b)) = ((allP a b).filter (withinB (bnds a b))).filter (leastB (allR a b)) by rw [← e], List.filter_filter]
  apply List.filter_congr
  intro x hx
  obtain ⟨⟨h1, h2⟩, h3, h4⟩ := mem_allP.1 hx
  rw [Bool.eq_iff_iff, Bool.and_eq_true]
  constructor
  · rintro ⟨hl, hw⟩
    refine leastB_iff.2 (fun y hy hb' => ?_)
    have hyw : withinB (bnds a b) y = true := by
      obtain ⟨⟨g1, g2⟩, _⟩ := mem_allP.1 hy
      obtain ⟨w1, w2⟩ := (withinB_iff _ _).1 hw
      refine (withinB_iff _ _).2 ⟨by omega, fun i hi => ⟨(g2 i hi).1, ?_⟩⟩
      exact Int.le_trans (below_iff.1 hb' i hi) (w2 i (by omega)).2
    exact leastB_iff.1 hl y (by rw [e]; exact List.mem_filter.2 ⟨hy, hyw⟩) hb'
  · intro hl
    refine ⟨leastB_iff.2 (fun y hy hb' => ?_), least_within ha hb la lb hx hl⟩
    rw [e] at hy
    exact leastB_iff.1 hl y (List.mem_filter.1 hy).1 hb'

/-! ### every solution lies over a least one -/
theorem under_some {a b : List Int} (ha : Fac a) (hb : Fac b) (la : 0 < a.length) (lb : 0 < b.length) : ∀ (m : Nat) (z : List Int), z.length = a.length + b.length → (∀ i, i < z.length → 0 ≤ gt z i) → bal a b z = 0 → (∃ i, i < z.length ∧ 0 < gt z i) → sm (gt z) z.length ≤ m → ∃ y ∈ least (allP a b), below y z = true := by
  intro m
  induction m with
  | zero =>
    intro z hz h0 hb0 ⟨i, hi, hp⟩ hm
    have := sm_le_of h0 hi
    omega
  | succ m ih =>
    intro z hz h0 hb0 hne hm
    by_cases hmi : Mini (a.length + b.length) (cf a b) (gt z)
    · have h0' : le (a.length + b.length) (fun _ => 0) (gt z) := fun i hi => h0 i (by omega)
      have hm5 : ∀ i, i < z.length → gt z i ≤ 5 := by
        intro i hi
        have h5a := mostN_le ha
        have h5b := mostN_le hb
        by_cases e : i < a.length
        · have := small _ _ _ _ (mostN_pos hb lb) (cf_ne ha hb) (cf_lo ha hb) hb0 h0' hmi (i := i) (by omega) (by unfold cf; rw [if_pos e]; have := ha i e; omega)
          omega
        · have := small' _ _ _ _ (mostN_pos ha la) (cf_ne ha hb) (cf_hi ha hb) hb0 h0' hmi (i := i) (by omega) (by unfold cf; rw [if_neg e]; have := hb (i - a.length) (by omega); omega)
          omega
      have hin : z ∈ allP a b := mem_allP.2 ⟨⟨hz, fun i hi => ⟨h0 i hi, hm5 i hi⟩⟩, hb0, hne⟩
      refine ⟨z, List.mem_filter.2 ⟨hin, leastB_iff.2 (fun y hy hbel => ?_)⟩, below_iff.2 (fun i _ => Int.le_refl _)⟩
      obtain ⟨⟨g1, g2⟩, g3, j, hj, hp⟩ := mem_allP.1 hy
      exact gt_ext (by omega) (fun i hi => hmi (gt y) (fun i hi => (g2 i (by omega)).1) (fun i hi => below_iff.1 hbel i (by omega)) ⟨j, by omega, hp⟩ g3 i (by omega))
    · obtain ⟨y, h⟩ := Classical.not_forall.1 hmi
      obtain ⟨y0, h⟩ := Classical.not_forall.1 h
      obtain ⟨yz, h⟩ := Classical.not_forall.1 h
      obtain ⟨yne, h⟩ := Classical.not_forall.1 h
      obtain ⟨yv, h⟩ := Classical.not_forall.1 h
      obtain ⟨k, h⟩ := Classical.not_forall.1 h
      obtain ⟨hk, hkne⟩ := Classical.not_forall.1 h
      obtain ⟨j, hj, hp⟩ := yne
      have hs : sm y (a.length + b.length) < sm (gt z) z.length := by
        rw [hz]
        have h1 := sm_sub (gt z) y (a.length + b.length)
        have h2 := sm_le_of (f := fun i => gt z i - y i) (n := a.length + b.length) (fun i hi => by have := yz i hi; omega) hk
        have := yz k hk
        (try simp only [] at h2)
        omega
      have hgt : sm (gt (tab (a.length + b.length) y)) (a.length + b.length) = sm y (a.length + b.length) := sm_congr (fun i hi => gt_tab hi)
      obtain ⟨t, ht, htb⟩ := ih (tab (a.length + b.length) y) (by simp) (fun i hi => by
          rw [tab_length] at hi
          rw [gt_tab hi]
          exact y0 i hi)
        (by
          unfold bal
          rw [← yv]
          unfold val
          exact sm_congr (fun i hi => by rw [gt_tab hi]))
        ⟨j, by simpa using hj, by rw [gt_tab hj]; exact hp⟩ (by rw [tab_length, hgt]; omega)
      refine ⟨t, ht, below_iff.2 (fun i hi => ?_)⟩
      have h1 := below_iff.1 htb i hi
      obtain ⟨⟨g1, _⟩, _⟩ := mem_allP.1 (List.mem_filter.1 ht).1
      rw [gt_tab (by omega)] at h1
      exact Int.le_trans h1 (yz i (by omega))

/-! ### taking away -/
def sub (r y : List Int) : List Int := tab r.length (fun i => gt r i - gt y i)
def tk : Nat → List Int → List Int → Nat × List Int
  | 0, _, r => (0, r)
  | f + 1, y, r => if below y r = true then ((tk f y (sub r y)).1 + 1, (tk f y (sub r y)).2) else (0, r)
/-- What taking y away as often as it fits leaves. -/
theorem tk_spec (y : List Int) (j : Nat) (hj : j < y.length) (hp : 0 < gt y j) : ∀ (f : Nat) (r : List Int), y.length = r.length → (∀ i, i < r.length → 0 ≤ gt r i) → gt r j < f →
    (tk f y r).2.length = r.length ∧ (∀ i, i < r.length → gt (tk f y r).2 i = gt r i - (tk f y r).1 * gt y i ∧ 0 ≤ gt (tk f y r).2 i) ∧ below y (tk f y r).2 = false ∧ ((tk f y r).1 : Int) ≤ gt r j := by
  intro f
  induction f with
  | zero => intro r hl h0 hf; have := h0 j (by omega); omega
  | succ f ih =>
    intro r hl h0 hf
    unfold tk
    cases hb : below y r with
    | false =>
      simp only [if_neg (show ¬ (false = true) by decide)]
      refine ⟨trivial, fun i hi => ⟨by simp, h0 i hi⟩, hb, ?_⟩
      have := h0 j (by omega)
      simpa using this
    | true =>
      simp only [if_true]
      have hbe := below_iff.1 hb
      have hsg : ∀ i, i < r.length → gt (sub r y) i = gt r i - gt y i := fun i hi => by unfold sub; rw [gt_tab hi]
      have hsl : (sub r y).length = r.length := by simp [sub]
      obtain ⟨g1, g2, g3, g4⟩ := ih (sub r y) (by rw [hsl]; exact hl) (fun i hi => by
          rw [hsl] at hi
          rw [hsg i hi]
          have := hbe i (by omega)
          omega) (by rw [hsg j (by omega)]; have := hbe j hj; omega)
      refine ⟨by rw [g1, hsl], fun i hi => ?_, g3, ?_⟩
      · obtain ⟨q1, q2⟩ := g2 i (by omega)
        refine ⟨?_, q2⟩
        rw [q1, hsg i hi, Int.natCast_add, Int.add_mul]
        simp
        omega
      · rw [hsg j (by omega)] at g4
        omega
theorem tk_mono {f g : Nat} {y r : List Int} (hy : ∃ j, j < y.length ∧ 0 < gt y j ∧ gt r j < f) (hl : y.length = r.length) (h0 : ∀ i, i < r.length → 0 ≤ gt r i) (hfg : f ≤ g) : tk g y r = tk f y r := by
  obtain ⟨j, hj, hp, hf⟩ := hy
  induction f generalizing r g with
  | zero => have := h0 j (by omega); omega
  | succ f ih =>
    obtain ⟨g', rfl⟩ : ∃ g', g = g' + 1 := ⟨g - 1, by omega⟩
    unfold tk
    cases hb : below y r with
    | false => simp
    | true =>
      have hbe := below_iff.1 hb
      have hsg : ∀ i, i < r.length → gt (sub r y) i = gt r i - gt y i := fun i hi => by unfold sub; rw [gt_tab hi]
      have hsl : (sub r y).length = r.length := by simp [sub]
      have := ih (g := g') (r := sub r y) (by rw [hsl]; exact hl) (fun i hi => by
          rw [hsl] at hi
          rw [hsg i hi]
          have := hbe i (by omega)
          omega) (by omega) (by rw [hsg j (by omega)]; have := hbe j hj; omega)
      rw [this]
def gr : List (List Int) → List Int → List Nat × List Int
  | [], r => ([], r)
  | y :: ys, r => ((tk 1001 y r).1 :: (gr ys (tk 1001 y r).2).1, (gr ys (tk 1001 y r).2).2)
/-- How much the pieces come to at place j. -/
def tot : List Nat → List (List Int) → Nat → Int
  | n :: ns, y :: ys, j => n * gt y j + tot ns ys j
  | _, _, _ => 0
theorem gr_spec {n : Nat} : ∀ (B : List (List Int)) (r : List Int), (∀ y ∈ B, y.length = n ∧ (∀ i, i < n → 0 ≤ gt y i) ∧ ∃ j, j < n ∧ 0 < gt y j) → r.length = n → (∀ i, i < n → 0 ≤ gt r i ∧ gt r i ≤ 1000) →
    (gr B r).1.length = B.length ∧ (gr B r).2.length = n ∧ (∀ i, i < n → gt (gr B r).2 i = gt r i - tot (gr B r).1 B i ∧ 0 ≤ gt (gr B r).2 i ∧ gt (gr B r).2 i ≤ gt r i) ∧ (∀ y ∈ B, below y (gr B r).2 = false) ∧ ∀ k ∈ (gr B r).1, k ≤ 1000 := by
  intro B
  induction B with
  | nil =>
    intro r hB hr h0
    exact ⟨rfl, hr, fun i hi => ⟨by simp [gr, tot], (h0 i hi).1, Int.le_refl _⟩, (fun y hy => by cases hy), (fun k hk => by cases hk)⟩
  | cons y ys ih =>
    intro r hB hr h0
    obtain ⟨hyl, hy0, j, hj, hp⟩ := hB y List.mem_cons_self
    obtain ⟨t1, t2, t3, t4⟩ := tk_spec y j (by omega) hp 1001 r (by omega) (fun i hi => (h0 i (by omega)).1) (by have := h0 j hj; omega)
    have hle : ∀ i, i < n → gt (tk 1001 y r).2 i ≤ gt r i := by
      intro i hi
      have h1 := (t2 i (by omega)).1
      have h2 : 0 ≤ ((tk 1001 y r).1 : Int) * gt y i := Int.mul_nonneg (by omega) (hy0 i hi)
      omega
    obtain ⟨g1, g2, g3, g4, g5⟩ := ih (tk 1001 y r).2 (fun z hz => hB z (List.mem_cons_of_mem _ hz)) (by omega) (fun i hi => ⟨(t2 i (by omega)).2, by have := hle i hi; have := h0 i hi; omega⟩)
    refine ⟨by simp [gr, g1], by simp [gr, g2], fun i hi => ?_, fun z hz => ?_, fun k hk => ?_⟩
    · obtain ⟨q1, q2, q3⟩ := g3 i hi
      refine ⟨?_, q2, Int.le_trans q3 (hle i hi)⟩
      simp only [gr, tot]
      rw [q1, (t2 i (by omega)).1]
      omega
    · rcases List.mem_cons.1 hz with rfl | hz
      · cases hb : below z (gr (z :: ys) r).2 with
        | false => rfl
        | true =>
          exfalso
          have : below z (tk 1001 z r).2 = true := below_iff.2 (fun i hi => Int.le_trans (below_iff.1 hb i hi) (g3 i (by omega)).2.2)
          rw [this] at t3
          cases t3
      · exact g4 z hz
    · rcases List.mem_cons.1 hk with rfl | hk
      · have := h0 j hj
        omega
      · exact g5 k hk
theorem tot_bal {a b : List Int} : ∀ (ns : List Nat) (B : List (List Int)), (∀ y ∈ B, bal a b y = 0) → val (cf a b) (tot ns B) (a.length + b.length) = 0 := by
  intro ns
  induction ns with
  | nil =>
    intro B _
    unfold val
    rw [sm_congr (g := fun _ => 0) (fun i _ => by simp [tot]), sm_zero_fn]
  | cons n ns ih =>
    intro B hB
    cases B with
    | nil =>
      unfold val
      rw [sm_congr (g := fun _ => 0) (fun i _ => by simp [tot]), sm_zero_fn]
    | cons y ys =>
      have h1 := hB y List.mem_cons_self
      have h2 := ih ys (fun z hz => hB z (List.mem_cons_of_mem _ hz))
      unfold bal at h1
      have h3 : ∀ m, val (cf a b) (tot (n :: ns) (y :: ys)) m = n * val (cf a b) (gt y) m + val (cf a b) (tot ns ys) m := by
        intro m
        unfold val
        induction m with
        | zero => simp [sm]
        | succ m ihm =>
          simp only [sm]
          rw [ihm]
          simp only [tot]
          rw [Int.mul_add, Int.mul_add, ← Int.mul_assoc, ← Int.mul_assoc, Int.mul_comm (cf a b m) n]
          omega
      rw [h3, h1, h2]
      simp
/-- Taking the least ones away leaves nothing. -/
theorem gr_all {a b x : List Int} (ha : Fac a) (hb : Fac b) (la : 0 < a.length) (lb : 0 < b.length) (hx : x.length = a.length + b.length) (h0 : ∀ i, i < x.length → 0 ≤ gt x i ∧ gt x i ≤ 1000) (hbal : bal a b x = 0) :
    (gr (least (allP a b)) x).1.length = (least (allP a b)).length ∧ (∀ i, i < x.length → tot (gr (least (allP a b)) x).1 (least (allP a b)) i = gt x i) ∧ ∀ k ∈ (gr (least (allP a b)) x).1, k ≤ 1000 := by
  have hB : ∀ y ∈ least (allP a b), y.length = a.length + b.length ∧ (∀ i, i < a.length + b.length → 0 ≤ gt y i) ∧ ∃ j, j < a.length + b.length ∧ 0 < gt y j := by
    intro y hy
    obtain ⟨⟨g1, g2⟩, g3, j, hj, hp⟩ := mem_allP.1 (List.mem_filter.1 hy).1
    exact ⟨g1, fun i hi => (g2 i (by omega)).1, j, by omega, hp⟩
  obtain ⟨g1, g2, g3, g4, g5⟩ := gr_spec (n := a.length + b.length) (least (allP a b)) x hB hx (fun i hi => h0 i (by omega))
  refine ⟨g1, fun i hi => ?_, g5⟩
  have hz : bal a b (gr (least (allP a b)) x).2 = 0 := by
    have e1 := val_sub (cf a b) (gt x) (tot (gr (least (allP a b)) x).1 (least (allP a b))) (a.length + b.length)
    have e2 := tot_bal (a := a) (b := b) (gr (least (allP a b)) x).1 (least (allP a b)) (fun y hy => (mem_allP.1 (List.mem_filter.1 hy).1).2.1)
    have e3 : bal a b (gr (least (allP a b)) x).2 = val (cf a b) (fun i => gt x i - tot (gr (least (allP a b)) x).1 (least (allP a b)) i) (a.length + b.length) := by
      unfold bal val
      exact sm_congr (fun i hi => by rw [(g3 i hi).1])
    rw [e3, e1, e2]
    unfold bal at hbal
    omega
  apply Classical.byContradiction
  intro hne
  have hpos : 0 < gt (gr (least (allP a b)) x).2 i := by
    obtain ⟨q1, q2, _⟩ := g3 i (by omega)
    omega
  obtain ⟨y, hy, hyb⟩ := under_some ha hb la lb (sm (gt (gr (least (allP a b)) x).2) (gr (least (allP a b)) x).2.length).toNat (gr (least (allP a b)) x).2 g2 (fun i hi => (g3 i (by omega)).2.1) hz ⟨i, by omega, hpos⟩ (by
    have := sm_nonneg (f := gt (gr (least (allP a b)) x).2) (n := (gr (least (allP a b)) x).2.length) (fun i hi => (g3 i (by omega)).2.1)
    omega)
  rw [g4 y hy] at hyb
  cases hyb

/-! ### how the program lists them -/
theorem lexB_len (n : Nat) : (lexB (List.replicate n 5)).length = 6 ^ n := by
  induction n with
  | zero => rfl
  | succ n ih =>
    have e : List.range 6 = [0, 1, 2, 3, 4, 5] := rfl
    simp [List.replicate_succ, lexB, e, ih, Nat.pow_succ]
    omega
theorem allP_tail {a b : List Int} {T : List (List Int)} (h : lexB (List.replicate (a.length + b.length) 5) = List.replicate (a.length + b.length) 0 :: T) : allP a b = T.filter (fun x => bal a b x == 0) := by
  have hnd := nodup_lexB (List.replicate (a.length + b.length) 5)
  have hz : zeroB (List.replicate (a.length + b.length) 0) = true := zeroB_iff.2 (fun i hi => by
    rw [gt_lt hi]; simp)
  unfold allP
  rw [h] at hnd ⊢
  rw [List.filter_cons_of_neg (by simp [solve, hz])]
  apply List.filter_congr
  intro x hx
  have hm : x ∈ lexB (List.replicate (a.length + b.length) 5) := by rw [h]; exact List.mem_cons_of_mem _ hx
  have hl := ((withinB_iff _ _).1 ((mem_lexB _ _).1 hm)).1
  rw [List.length_replicate] at hl
  have hne : zeroB x = false := by
    cases hzx : zeroB x with
    | false => rfl
    | true =>
      exfalso
      have e : x = List.replicate (a.length + b.length) 0 := gt_ext (by simp [hl]) (fun i hi => by
        rw [zeroB_iff.1 hzx i hi, zeroB_iff.1 hz i (by simpa using (by omega : i < a.length + b.length))])
      rw [e] at hx
      exact (List.nodup_cons.1 hnd).1 hx
  simp [solve, hne]
/-- No other one of the first k lies under L[j]. -/
def lsT (L : List (List Int)) (j k : Nat) : Bool := (List.range k).all fun i => decide (i = j) || !below (L.getD i []) (L.getD j [])
theorem lsT_succ (L : List (List Int)) (j k : Nat) : lsT L j (k + 1) = (lsT L j k && (decide (k = j) || !below (L.getD k []) (L.getD j []))) := by
  unfold lsT
  rw [List.range_succ, List.all_append]
  simp
theorem lsT_full {L : List (List Int)} (hn : L.Nodup) {j : Nat} (hj : j < L.length) : lsT L j L.length = leastB L (L.getD j []) := by
  rw [Bool.eq_iff_iff, leastB_iff]
  unfold lsT
  rw [List.all_eq_true]
  have e : L.getD j [] = L[j] := by simp [hj]
  rw [e]
  constructor
  · intro h y hy hb
    obtain ⟨i, hi, rfl⟩ := List.mem_iff_getElem.1 hy
    have := h i (List.mem_range.2 hi)
    have e' : L.getD i [] = L[i] := by simp [hi]
    rw [e', hb] at this
    simp at this
    subst this
    rfl
  · intro h i hi
    have hi := List.mem_range.1 hi
    have e' : L.getD i [] = L[i] := by simp [hi]
    rw [e']
    cases hb : below L[i] L[j] with
    | false => simp
    | true =>
      have := h L[i] (List.getElem_mem _) hb
      have hij : i = j := by
        have hp := List.pairwise_iff_getElem.1 hn
        rcases Nat.lt_trichotomy i j with h1 | h1 | h1
        · exact absurd this (hp i j hi hj h1)
        · exact h1
        · exact absurd this.symm (hp j i hj hi h1)
      simp [hij]

/-! ### how the reference lists them -/
def ext (a b x : List Int) : List (List Int) := ((lexB ((bnds a b).drop x.length)).map (fun y => x ++ y)).filter (solve a b)
theorem ext_end {a b x : List Int} (h : x.length = a.length + b.length) : ext a b x = if solve a b x = true then [x] else [] := by
  unfold ext
  rw [List.drop_of_length_le (by simp [bnds]; omega)]
  simp [lexB]
  cases hs : solve a b x <;> simp [hs]
theorem ext_step {a b x : List Int} (h : x.length < a.length + b.length) : ext a b x = (List.range ((bnds a b).getD x.length 0 + 1)).flatMap (fun (k : Nat) => ext a b (x ++ [(k : Int)])) := by
  have hl : x.length < (bnds a b).length := by simp [bnds]; omega
  unfold ext
  rw [List.drop_eq_getElem_cons hl]
  have e : (bnds a b).getD x.length 0 = (bnds a b)[x.length] := by simp [hl]
  rw [e]
  simp only [lexB, List.map_flatMap, List.filter_flatMap, List.map_map]
  congr 1
  funext k
  rw [List.length_append, List.length_singleton]
  congr 2
  funext y
  simp
theorem ext_nil (a b : List Int) : ext a b [] = allR a b := by
  unfold ext allR
  simp
theorem ext_len {a b : List Int} (ha : Fac a) (hb : Fac b) : ∀ (d : Nat) (x : List Int), a.length + b.length - x.length = d → (ext a b x).length ≤ 6 ^ d := by
  intro d
  induction d with
  | zero =>
    intro x hd
    unfold ext
    rw [List.drop_of_length_le (by simp [bnds]; omega)]
    exact Nat.le_trans (List.length_filter_le _ _) (by simp [lexB])
  | succ d ih =>
    intro x hd
    rw [ext_step (by omega)]
    have hb5 : (bnds a b).getD x.length 0 ≤ 5 := by
      rw [bnds_get _ (by omega)]
      have := mostN_le ha
      have := mostN_le hb
      split <;> omega
    have : ∀ m, ((List.range m).flatMap (fun (k : Nat) => ext a b (x ++ [(k : Int)]))).length ≤ m * 6 ^ d := by
      intro m
      induction m with
      | zero => simp
      | succ m ihm =>
        rw [List.range_succ, List.flatMap_append, List.length_append]
        have h1 := ih (x ++ [(m : Int)]) (by simp; omega)
        simp only [List.flatMap_cons, List.flatMap_nil, List.append_nil]
        rw [Nat.add_mul]
        omega
    refine Nat.le_trans (this _) ?_
    rw [Nat.pow_succ, Nat.mul_comm (6 ^ d) 6]
    exact Nat.mul_le_mul_right _ (by omega)
end Go.Proofs.Ytfnkobcmhbdcoaa.DioL
