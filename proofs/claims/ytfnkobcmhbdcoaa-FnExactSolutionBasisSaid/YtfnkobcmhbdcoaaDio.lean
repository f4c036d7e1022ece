/- Plain mathematics of balanced sums: every part of a least solution is at most the largest factor of the other side. -/
namespace Go.Proofs.Ytfnkobcmhbdcoaa.Dio
set_option linter.unusedVariables false
set_option linter.unusedSimpArgs false

def sm (f : Nat → Int) : Nat → Int
  | 0 => 0
  | n + 1 => sm f n + f n
theorem sm_congr {f g : Nat → Int} {n : Nat} (h : ∀ i, i < n → f i = g i) : sm f n = sm g n := by
  induction n with
  | zero => rfl
  | succ n ih => simp only [sm]; rw [ih (fun i hi => h i (by omega)), h n (by omega)]
theorem sm_nonneg {f : Nat → Int} {n : Nat} (h : ∀ i, i < n → 0 ≤ f i) : 0 ≤ sm f n := by
  induction n with
  | zero => simp [sm]
  | succ n ih =>
    have := ih (fun i hi => h i (by omega))
    have := h n (by omega)
    simp only [sm]; omega
theorem sm_le_of {f : Nat → Int} {n : Nat} (h : ∀ i, i < n → 0 ≤ f i) {i : Nat} (hi : i < n) : f i ≤ sm f n := by
  induction n with
  | zero => omega
  | succ n ih =>
    have h0 := sm_nonneg (fun i hi => h i (by omega) : ∀ i, i < n → 0 ≤ f i)
    have hn := h n (by omega)
    simp only [sm]
    by_cases e : i = n
    · subst e; omega
    · have := ih (fun i hi => h i (by omega)) (by omega); omega
theorem sm_pos {f : Nat → Int} {n : Nat} (h : 0 < sm f n) : ∃ i, i < n ∧ 0 < f i := by
  induction n with
  | zero => simp [sm] at h
  | succ n ih =>
    simp only [sm] at h
    by_cases e : 0 < f n
    · exact ⟨n, by omega, e⟩
    · obtain ⟨i, hi, hp⟩ := ih (by omega)
      exact ⟨i, by omega, hp⟩
theorem sm_neg {f : Nat → Int} {n : Nat} (h : sm f n < 0) : ∃ i, i < n ∧ f i < 0 := by
  induction n with
  | zero => simp [sm] at h
  | succ n ih =>
    simp only [sm] at h
    by_cases e : f n < 0
    · exact ⟨n, by omega, e⟩
    · obtain ⟨i, hi, hp⟩ := ih (by omega)
      exact ⟨i, by omega, hp⟩
theorem sm_zero {f : Nat → Int} {n : Nat} (h : ∀ i, i < n → f i ≤ 0) (h0 : 0 ≤ sm f n) : ∀ i, i < n → f i = 0 := by
  intro i hi
  have h1 := sm_le_of (f := fun i => - f i) (n := n) (fun i hi => by have := h i hi; omega) hi
  have h2 : sm (fun i => - f i) n = - sm f n := by
    clear h h0 h1 hi
    induction n with
    | zero => simp [sm]
    | succ n ih => simp only [sm]; omega
  have := h i hi
  simp only [h2] at h1
  omega
theorem sm_sub (f g : Nat → Int) (n : Nat) : sm (fun i => f i - g i) n = sm f n - sm g n := by
  induction n with
  | zero => simp [sm]
  | succ n ih => simp only [sm]; omega
theorem sm_neg_fn (f : Nat → Int) (n : Nat) : sm (fun i => - f i) n = - sm f n := by
  induction n with
  | zero => simp [sm]
  | succ n ih => simp only [sm]; omega
theorem sm_zero_fn (n : Nat) : sm (fun _ => 0) n = 0 := by
  induction n with
  | zero => rfl
  | succ n ih => simp only [sm, ih]; omega
/-- One more at i. -/
def bump (v : Nat → Int) (i : Nat) : Nat → Int := fun k => if k = i then v k + 1 else v k
theorem sm_point {f g : Nat → Int} {n i : Nat} {d : Int} (hi : i < n) (h : ∀ k, k ≠ i → g k = f k) (hd : g i = f i + d) : sm g n = sm f n + d := by
  induction n with
  | zero => omega
  | succ n ih =>
    simp only [sm]
    by_cases e : i = n
    · subst e
      rw [sm_congr (f := g) (g := f) (fun k hk => h k (by omega)), hd]; omega
    · rw [ih (by omega), h n (fun e' => e e'.symm)]; omega
def le (n : Nat) (u v : Nat → Int) : Prop := ∀ i, i < n → u i ≤ v i
def lt (n : Nat) (u v : Nat → Int) : Prop := le n u v ∧ ∃ i, i < n ∧ u i < v i
def val (c u : Nat → Int) (n : Nat) : Int := sm (fun i => c i * u i) n
theorem val_bump (c v : Nat → Int) {n i : Nat} (hi : i < n) : val c (bump v i) n = val c v n + c i := by
  unfold val
  refine sm_point hi (fun k hk => ?_) ?_
  · simp [bump, hk]
  · simp [bump, Int.mul_add]
theorem val_sub (c u v : Nat → Int) (n : Nat) : val c (fun i => u i - v i) n = val c u n - val c v n := by
  unfold val
  rw [← sm_sub]
  exact sm_congr (fun i _ => by rw [Int.mul_sub])
/-- The way from v to x in single steps: a step up only where the sum is not above zero, a step down only where it is. The places where it steps up. -/
theorem chain (n : Nat) (c x : Nat → Int) (P : Int) (hc : ∀ i, i < n → c i ≠ 0) (hP : ∀ i, i < n → - c i ≤ P) (hx : val c x n = 0) :
    ∀ (m : Nat) (v : Nat → Int), le n v x → sm (fun i => x i - v i) n = m → -P < val c v n →
    ∃ L : List (Nat → Int), (L.length : Int) = sm (fun i => if 0 < c i then x i - v i else 0) n ∧ (∀ u ∈ L, le n v u ∧ lt n u x ∧ -P < val c u n ∧ val c u n ≤ 0) ∧ L.Pairwise (lt n) := by
  intro m
  induction m with
  | zero =>
    intro v hv hm hs
    have h0 : ∀ i, i < n → x i - v i = 0 := by
      intro i hi
      have h1 := sm_le_of (f := fun i => x i - v i) (n := n) (fun i hi => by have := hv i hi; omega) hi
      have := hv i hi
      simp only [hm] at h1
      omega
    refine ⟨[], ?_, by simp, List.Pairwise.nil⟩
    rw [sm_congr (g := fun _ => 0) (fun i hi => by (try simp only []); rw [h0 i hi]; simp), sm_zero_fn]
    rfl
  | succ m ih =>
    intro v hv hm hs
    have hd := val_sub c x v n
    have hup : ∀ i, i < n → v i < x i → le n v (bump v i) ∧ le n (bump v i) x ∧ sm (fun k => x k - bump v i k) n = m := by
      intro i hi hlt
      refine ⟨fun k hk => ?_, fun k hk => ?_, ?_⟩
      · unfold bump; split <;> omega
      · unfold bump; split
        · rename_i e; subst e; omega
        · exact hv k hk
      · have := sm_point (f := fun k => x k - v k) (g := fun k => x k - bump v i k) (d := -1) hi (fun k hk => by simp [bump, hk]) (by simp [bump]; omega)
        omega
    by_cases hs0 : val c v n ≤ 0
    · obtain ⟨i, hi, hp⟩ : ∃ i, i < n ∧ 0 < c i * (x i - v i) := by
        apply Classical.byContradiction
        intro hno
        have hle : ∀ i, i < n → c i * (x i - v i) ≤ 0 := fun i hi => by
          apply Int.not_lt.1
          intro hlt
          exact hno ⟨i, hi, hlt⟩
        have hz := sm_zero hle (by show 0 ≤ val c (fun i => x i - v i) n; omega)
        obtain ⟨j, hj, hjp⟩ := sm_pos (f := fun i => x i - v i) (n := n) (by omega)
        have := hz j hj
        rcases Int.mul_eq_zero.1 this with h | h
        · exact hc j hj h
        · omega
      have hvi := hv i hi
      have hci : 0 < c i := by
        apply Int.not_le.1
        intro hle
        have := Int.mul_nonpos_of_nonpos_of_nonneg hle (show 0 ≤ x i - v i by omega)
        omega
      have hlt : v i < x i := by
        apply Int.not_le.1
        intro hle
        have e : x i - v i = 0 := by omega
        rw [e] at hp
        simp at hp
      obtain ⟨h1, h2, h3⟩ := hup i hi hlt
      have hb := val_bump c v hi
      obtain ⟨L, hL, hin, hpw⟩ := ih (bump v i) h2 h3 (by omega)
      refine ⟨v :: L, ?_, ?_, ?_⟩
      · have := sm_point (f := fun k => if 0 < c k then x k - v k else 0) (g := fun k => if 0 < c k then x k - bump v i k else 0) (d := -1) hi (fun k hk => by simp [bump, hk]) (by simp [bump, hci]; omega)
        simp only [List.length_cons]
        omega
      · intro u hu
        rcases List.mem_cons.1 hu with rfl | hu
        · exact ⟨fun _ _ => Int.le_refl _, ⟨hv, i, hi, hlt⟩, hs, hs0⟩
        · obtain ⟨g1, g2⟩ := hin u hu
          exact ⟨fun k hk => Int.le_trans (h1 k hk) (g1 k hk), g2⟩
      · refine List.Pairwise.cons (fun u hu => ?_) hpw
        have g1 := (hin u hu).1
        refine ⟨fun k hk => Int.le_trans (h1 k hk) (g1 k hk), i, hi, ?_⟩
        have := g1 i hi
        simp [bump] at this
        omega
    · obtain ⟨i, hi, hp⟩ := sm_neg (f := fun i => c i * (x i - v i)) (n := n) (by show val c (fun i => x i - v i) n < 0; omega)
      have hvi := hv i hi
      have hci : c i < 0 := by
        apply Int.not_le.1
        intro hle
        have := Int.mul_nonneg hle (show 0 ≤ x i - v i by omega)
        omega
      have hlt : v i < x i := by
        apply Int.not_le.1
        intro hle
        have e : x i - v i = 0 := by omega
        simp only [e] at hp
        simp at hp
      obtain ⟨h1, h2, h3⟩ := hup i hi hlt
      have hb := val_bump c v hi
      have hPi := hP i hi
      obtain ⟨L, hL, hin, hpw⟩ := ih (bump v i) h2 h3 (by omega)
      refine ⟨L, ?_, ?_, hpw⟩
      · rw [hL]
        apply sm_congr
        intro k hk
        (try simp only [])
        by_cases e : k = i
        · subst e; rw [if_neg (by omega), if_neg (by omega)]
        · simp [bump, e]
      · intro u hu
        obtain ⟨g1, g2⟩ := hin u hu
        exact ⟨fun k hk => Int.le_trans (h1 k hk) (g1 k hk), g2⟩

theorem nodup_le (P : Nat) : ∀ (l : List Int), l.Nodup → (∀ x ∈ l, 0 ≤ x ∧ x < P) → l.length ≤ P := by
  induction P with
  | zero =>
    intro l _ h
    cases l with
    | nil => simp
    | cons a l => have := h a List.mem_cons_self; omega
  | succ P ih =>
    intro l hn h
    by_cases hm : (P : Int) ∈ l
    · have h1 := List.length_erase_of_mem hm
      have h2 := ih (l.erase (P : Int)) (hn.erase _) (fun x hx => by
        have hx' := (List.Nodup.mem_erase_iff hn).1 hx
        have := h x hx'.2
        have := hx'.1
        omega)
      omega
    · have := ih l hn (fun x hx => by
        have := h x hx
        have : x ≠ P := fun e => hm (e ▸ hx)
        omega)
      omega

/-- Nothing but x itself lies under x. -/
def Mini (n : Nat) (c x : Nat → Int) : Prop := ∀ y, le n (fun _ => 0) y → le n y x → (∃ i, i < n ∧ 0 < y i) → val c y n = 0 → ∀ i, i < n → y i = x i
theorem small (n : Nat) (c x : Nat → Int) (P : Nat) (hP0 : 0 < P) (hc : ∀ i, i < n → c i ≠ 0) (hP : ∀ i, i < n → - c i ≤ P) (hx : val c x n = 0) (h0 : le n (fun _ => 0) x) (hm : Mini n c x) {i : Nat} (hi : i < n) (hci : 0 < c i) : x i ≤ P := by
  have hv0 : val c (fun _ => 0) n = 0 := by
    unfold val
    rw [sm_congr (g := fun _ => 0) (fun i _ => by simp), sm_zero_fn]
  obtain ⟨m, hmm⟩ : ∃ m : Nat, sm (fun i => x i - (fun _ => 0) i) n = m := by
    have := sm_nonneg (f := fun i => x i - (fun _ => (0 : Int)) i) (n := n) (fun i hi => by have := h0 i hi; (try simp only [] at this ⊢); omega)
    exact ⟨_, (Int.toNat_of_nonneg this).symm⟩
  obtain ⟨L, hL, hin, hpw⟩ := chain n c x P hc hP hx m (fun _ => 0) h0 hmm (by rw [hv0]; omega)
  have hnd : (L.map (fun u => - val c u n)).Nodup := by
    refine List.Pairwise.map _ (fun u u' h => ?_) (List.Pairwise.and_mem.1 hpw)
    obtain ⟨hu, hu', hle, j, hj, hlt⟩ := h
    intro he
    have e : val c (fun i => u' i - u i) n = 0 := by rw [val_sub]; omega
    obtain ⟨g1, g2, _⟩ := hin u hu
    obtain ⟨_, ⟨g3, k, hk, hlt'⟩, _⟩ := hin u' hu'
    have := hm (fun i => u' i - u i) (fun i hi => by have := hle i hi; (try simp only []); omega) (fun i hi => by have := g1 i hi; have := g3 i hi; (try simp only [] at *); omega) ⟨j, hj, by (try simp only []); omega⟩ e k hk
    have := g1 k hk
    (try simp only [] at *)
    omega
  have hlen := nodup_le P _ hnd (fun z hz => by
    obtain ⟨u, hu, rfl⟩ := List.mem_map.1 hz
    obtain ⟨_, _, h1, h2⟩ := hin u hu
    omega)
  rw [List.length_map] at hlen
  have hone := sm_le_of (f := fun i => if 0 < c i then x i - (fun _ => (0 : Int)) i else 0) (n := n) (fun i hi => by
    have := h0 i hi
    (try simp only [] at this ⊢)
    split <;> omega) hi
  simp only [hci, if_true] at hone
  omega
theorem small' (n : Nat) (c x : Nat → Int) (P : Nat) (hP0 : 0 < P) (hc : ∀ i, i < n → c i ≠ 0) (hP : ∀ i, i < n → c i ≤ P) (hx : val c x n = 0) (h0 : le n (fun _ => 0) x) (hm : Mini n c x) {i : Nat} (hi : i < n) (hci : c i < 0) : x i ≤ P := by
  have hneg : ∀ y, val (fun i => - c i) y n = - val c y n := fun y => by
    unfold val
    rw [← sm_neg_fn]
    exact sm_congr (fun i _ => by rw [Int.neg_mul])
  exact small n (fun i => - c i) x P hP0 (fun i hi => by have := hc i hi; (try simp only []); omega) (fun i hi => by have := hP i hi; (try simp only []); omega) (by rw [hneg, hx]; rfl) h0
    (fun y h1 h2 h3 h4 => hm y h1 h2 h3 (by rw [hneg] at h4; omega)) hi (by (try simp only []); omega)
end Go.Proofs.Ytfnkobcmhbdcoaa.Dio
