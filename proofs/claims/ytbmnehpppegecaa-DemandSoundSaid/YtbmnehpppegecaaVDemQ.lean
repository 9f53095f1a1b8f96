/-
  Demand: DemandMore.
-/
import Derived.Test.YtbmnehpppegecaaVDemP
set_option maxRecDepth 100000
set_option linter.unusedSimpArgs false
set_option linter.unusedVariables false
namespace Go.Proofs.Ytbmnehpppegecaa
open Go Ads
namespace Ir

/- What is asked for, without ends of the numbers. -/
theorem sumW_from : ∀ (l : List Int) (s : Int), (∀ x, x ∈ l → 0 ≤ x ∧ x ≤ 4503599627370496) → 0 ≤ s → s + l.length * 4503599627370496 ≤ 4611686018427387904 → l.foldl (fun s x => IntKind.i64.wrap (s + x)) s = s + l.sum
  | [], s, _, _, _ => by simp
  | x :: l, s, h, h0, h1 => by
    have hx := h x List.mem_cons_self
    simp only [List.length_cons] at h1
    have e : IntKind.i64.wrap (s + x) = s + x := IntWalk.i64_in _ (by omega)
    rw [List.foldl_cons, e, sumW_from l (s + x) (fun y hy => h y (List.mem_cons_of_mem _ hy)) (by omega) (by omega), List.sum_cons]
    omega
theorem sumW_plain {l : List Int} (h : ∀ x, x ∈ l → 0 ≤ x ∧ x ≤ 4503599627370496) (hl : l.length ≤ 1024) : sumW l = l.sum := by
  rw [sumW, sumW_from l 0 h (by omega) (by omega)]; omega

def OkT (t : Tk) : Prop := 1 ≤ t.w ∧ t.w ≤ t.d ∧ t.d ≤ t.p ∧ t.p ≤ 64
def askP (q : Tk → Int) (l : List Tk) (a : List Int) : List Int := List.zipWith (fun t m => q t * (t.w + m)) l a

theorem ask_plain {q : Tk → Int} : ∀ (l : List Tk) (a : List Int), (∀ t, t ∈ l → OkT t ∧ 0 ≤ q t ∧ q t ≤ 1073741824) → (∀ m, m ∈ a → 0 ≤ m ∧ m ≤ 32768) → askS q l a = askP q l a ∧ ∀ x, x ∈ askP q l a → 0 ≤ x ∧ x ≤ 4503599627370496
  | [], a, _, _ => by simp [askS, askP]
  | t :: l, [], _, _ => by simp [askS, askP]
  | t :: l, m :: a, h1, h2 => by
    obtain ⟨o, q1, q2⟩ := h1 t List.mem_cons_self
    obtain ⟨m1, m2⟩ := h2 m List.mem_cons_self
    obtain ⟨i1, i2⟩ := ask_plain l a (fun t ht => h1 t (List.mem_cons_of_mem _ ht)) (fun m hm => h2 m (List.mem_cons_of_mem _ hm))
    obtain ⟨o1, o2, o3, o4⟩ := o
    have e1 : IntKind.i64.wrap (t.w + m) = t.w + m := IntWalk.i64_in _ (by omega)
    have b1 : 0 ≤ q t * (t.w + m) := Int.mul_nonneg q1 (by omega)
    have b2 : q t * (t.w + m) ≤ 1073741824 * 33000 := Int.mul_le_mul q2 (by omega) (by omega) (by omega)
    have e2 : IntKind.i64.wrap (q t * (t.w + m)) = q t * (t.w + m) := IntWalk.i64_in _ (by omega)
    constructor
    · show IntKind.i64.wrap (q t * IntKind.i64.wrap (t.w + m)) :: askS q l a = q t * (t.w + m) :: askP q l a
      rw [e1, e2, i1]
    · intro x hx
      rcases List.mem_cons.1 hx with h | h
      · have h' : x = q t * (t.w + m) := h
        rw [h']; omega
      · exact i2 x h

theorem sum_range : ∀ (l : List Int), (∀ x, x ∈ l → 0 ≤ x ∧ x ≤ 4503599627370496) → 0 ≤ l.sum ∧ l.sum ≤ l.length * 4503599627370496
  | [], _ => by simp
  | x :: l, h => by
    have hx := h x List.mem_cons_self
    have := sum_range l (fun y hy => h y (List.mem_cons_of_mem _ hy))
    simp only [List.sum_cons, List.length_cons]
    omega
theorem sum_le {q : Tk → Int} {l : List Tk} {a : List Int} (h1 : ∀ t, t ∈ l → OkT t ∧ 0 ≤ q t ∧ q t ≤ 1073741824) (h2 : ∀ m, m ∈ a → 0 ≤ m ∧ m ≤ 32768) (hl : l.length ≤ 1024) : 0 ≤ (askP q l a).sum ∧ (askP q l a).sum ≤ 4611686018427387904 := by
  have := sum_range _ (ask_plain l a h1 h2).2
  have h3 : (askP q l a).length ≤ 1024 := by simp [askP]; omega
  omega

theorem sum_ask {q : Tk → Int} {l : List Tk} {a : List Int} (h1 : ∀ t, t ∈ l → OkT t ∧ 0 ≤ q t ∧ q t ≤ 1073741824) (h2 : ∀ m, m ∈ a → 0 ≤ m ∧ m ≤ 32768) (hl : l.length ≤ 1024) : sumW (askS q l a) = (askP q l a).sum := by
  obtain ⟨i1, i2⟩ := ask_plain l a h1 h2
  rw [i1, sumW_plain i2 (by simp [askP]; omega)]

def jobsP (n : Int) (t : Tk) : Int := if n < t.d then 0 else 1 + (n - t.d) / t.p
theorem jobs_plain {n : Int} {t : Tk} (h : OkT t) (h0 : 0 ≤ n) (h1 : n ≤ 1048576) : jobsS n t = jobsP n t ∧ 0 ≤ jobsP n t ∧ jobsP n t ≤ 1048577 := by
  obtain ⟨o1, o2, o3, o4⟩ := h
  unfold jobsS jobsP
  split
  · simp
  · rename_i hn
    have e1 : IntKind.i64.wrap (n - t.d) = n - t.d := IntWalk.i64_in _ (by omega)
    have e2 : (n - t.d).tdiv t.p = (n - t.d) / t.p := Int.tdiv_eq_ediv_of_nonneg (by omega)
    have b1 : 0 ≤ (n - t.d) / t.p := Int.ediv_nonneg (by omega) (by omega)
    have b2 : (n - t.d) / t.p ≤ n - t.d := Int.ediv_le_self _ (by omega)
    rw [e1, e2]
    generalize (n - t.d) / t.p = z at *
    rw [IntWalk.i64_in z (by omega), IntWalk.i64_in _ (by omega)]
    omega
theorem use_plain {n : Int} {t : Tk} (h : OkT t) (h0 : 0 ≤ n) (h1 : n ≤ 1048576) : useS n t = n / t.p ∧ 0 ≤ n / t.p ∧ n / t.p ≤ 1048576 := by
  obtain ⟨o1, o2, o3, o4⟩ := h
  have e2 : n.tdiv t.p = n / t.p := Int.tdiv_eq_ediv_of_nonneg h0
  have b1 : 0 ≤ n / t.p := Int.ediv_nonneg (by omega) (by omega)
  have b2 : n / t.p ≤ n := Int.ediv_le_self _ h0
  rw [useS, e2]
  generalize n / t.p = z at *
  rw [IntWalk.i64_in z (by omega)]
  omega

theorem jobs_hyper {n h : Int} {t : Tk} (o : OkT t) (hn : 64 ≤ n) (hd : t.p ∣ h) (hh : 0 ≤ h) : jobsP (n + h) t = jobsP n t + h / t.p := by
  obtain ⟨o1, o2, o3, o4⟩ := o
  obtain ⟨c, rfl⟩ := hd
  rw [jobsP, jobsP, if_neg (by omega), if_neg (by omega), Int.mul_ediv_cancel_left c (by omega), show n + t.p * c - t.d = n - t.d + t.p * c by omega, Int.add_mul_ediv_left _ _ (by omega)]
  omega
theorem jobs_mono {n m : Int} {t : Tk} (o : OkT t) (h0 : 0 ≤ n) (h : n ≤ m) : jobsP n t ≤ jobsP m t := by
  obtain ⟨o1, o2, o3, o4⟩ := o
  unfold jobsP
  split
  · split
    · omega
    · have := Int.ediv_nonneg (a := m - t.d) (b := t.p) (by omega) (by omega)
      omega
  · rw [if_neg (by omega)]
    have := Int.ediv_le_ediv (a := n - t.d) (b := m - t.d) (c := t.p) (by omega) (by omega)
    omega

theorem ask_cong {q r : Tk → Int} : ∀ (l : List Tk) (a : List Int), (∀ t, t ∈ l → q t = r t) → askP q l a = askP r l a
  | [], a, _ => by simp [askP]
  | t :: l, [], _ => by simp [askP]
  | t :: l, m :: a, h => by
    show q t * (t.w + m) :: askP q l a = r t * (t.w + m) :: askP r l a
    rw [h t List.mem_cons_self, ask_cong l a fun u hu => h u (List.mem_cons_of_mem _ hu)]
theorem ask_add {q r s : Tk → Int} : ∀ (l : List Tk) (a : List Int), (∀ t, t ∈ l → q t = r t + s t) → (askP q l a).sum = (askP r l a).sum + (askP s l a).sum
  | [], a, _ => by simp [askP]
  | t :: l, [], _ => by simp [askP]
  | t :: l, m :: a, h => by
    show (q t * (t.w + m) :: askP q l a).sum = (r t * (t.w + m) :: askP r l a).sum + (s t * (t.w + m) :: askP s l a).sum
    have := ask_add (q := q) (r := r) (s := s) l a fun u hu => h u (List.mem_cons_of_mem _ hu)
    rw [List.sum_cons, List.sum_cons, List.sum_cons, h t List.mem_cons_self, this, Int.add_mul]
    omega
theorem ask_mono {q r : Tk → Int} : ∀ (l : List Tk) (a : List Int), (∀ t, t ∈ l → OkT t ∧ q t ≤ r t) → (∀ m, m ∈ a → 0 ≤ m) → (askP q l a).sum ≤ (askP r l a).sum
  | [], a, _, _ => by simp [askP]
  | t :: l, [], _, _ => by simp [askP]
  | t :: l, m :: a, h, h2 => by
    show (q t * (t.w + m) :: askP q l a).sum ≤ (r t * (t.w + m) :: askP r l a).sum
    have := ask_mono (q := q) (r := r) l a (fun u hu => h u (List.mem_cons_of_mem _ hu)) (fun m hm => h2 m (List.mem_cons_of_mem _ hm))
    obtain ⟨⟨o1, o2, o3, o4⟩, hq⟩ := h t List.mem_cons_self
    have hm := h2 m List.mem_cons_self
    have := Int.mul_le_mul_of_nonneg_right hq (show 0 ≤ t.w + m by omega)
    rw [List.sum_cons, List.sum_cons]
    omega

theorem mkT_ok (l : List Tk) : ∀ t, t ∈ mkT l → OkT t := by
  intro t ht
  obtain ⟨u, _, rfl⟩ := List.mem_map.1 ht
  exact mk1_in u
theorem mkT_len (l : List Tk) : (mkT l).length ≤ 4 := by simp [mkT]; omega
theorem tasksOk_of {l : List Tk} (h : ∀ t, t ∈ l → OkT t) (hl : l.length ≤ 4) : tasksOk l = true := by
  have : l.all taskOk = true := by
    rw [List.all_eq_true]
    intro t ht
    have := h t ht
    simp only [OkT] at this
    simp only [taskOk, decide_eq_true_eq]
    omega
  simp [tasksOk, this, hl]
theorem demCheck_of {l : List Tk} {a : List Int} (h : ∀ t, t ∈ l → OkT t) (hl : l.length ≤ 4) (ha : ∀ m, m ∈ a → 0 ≤ m ∧ m ≤ 32768) (hla : a.length = l.length) : demCheck l a = 0 := by
  have : a.any moreBad = false := by
    rw [List.any_eq_false]
    intro m hm
    have := ha m hm
    simp only [moreBad, decide_eq_true_eq]
    simp
    omega
  rw [demCheck, if_pos ⟨this, tasksOk_of h hl, hla⟩]

theorem dOf_ok {l : List Tk} {a : List Int} {n : Int} (h : ∀ t, t ∈ l → OkT t) (hl : l.length ≤ 4) (ha : ∀ m, m ∈ a → 0 ≤ m ∧ m ≤ 32768) (hla : a.length = l.length) (h0 : 0 ≤ n) (h1 : n ≤ 1048576) :
    dOf l a n = ((askP (jobsP n) l a).sum, 0) := by
  rw [dOf, if_pos ⟨demCheck_of h hl ha hla, h0, h1⟩]
  have hq : ∀ t, t ∈ l → jobsS n t = jobsP n t := fun t ht => (jobs_plain (h t ht) h0 h1).1
  rw [sum_ask (fun t ht => ⟨h t ht, by have := jobs_plain (h t ht) h0 h1; rw [this.1]; omega⟩) ha (by omega), ask_cong l a hq]
theorem hyp_le {l : List Tk} {n : Int} (h : ∀ t, t ∈ l → OkT t) (hl : l.length ≤ 4) (h1 : 1 ≤ n) (h2 : n ≤ 64) : (hypS l n = (((hypN l n.toNat : Nat) : Int), 0) ∧ hypN l n.toNat ≤ 4096 ∧ 1 ≤ hypN l n.toNat) ∨ hypS l n = (0, 5) := by
  rw [hypS, if_pos ⟨tasksOk_of h hl, h1, h2⟩]
  by_cases h4 : hypN l n.toNat ≤ 4096
  · rw [if_pos h4]
    exact .inl ⟨rfl, h4, hyp_pos (fun t ht => by have := h t ht; simp only [OkT] at this; omega) (by omega)⟩
  · rw [if_neg h4]; exact .inr rfl

theorem dUse_ok {l : List Tk} {a : List Int} {n : Int} (h : ∀ t, t ∈ l → OkT t) (hl : l.length ≤ 4) (ha : ∀ m, m ∈ a → 0 ≤ m ∧ m ≤ 32768) (hla : a.length = l.length) (h0 : 1 ≤ n) (h1 : n ≤ 1048576) (hd : ∀ t, t ∈ l → t.p ∣ n) :
    dUse l a n = ((askP (fun t => n / t.p) l a).sum, 0) := by
  have hodd : l.any (oddT n) = false := by
    rw [List.any_eq_false]
    intro t ht
    have : n.tmod t.p = 0 := Int.tmod_eq_zero_of_dvd (hd t ht)
    simp [oddT, this]
  rw [dUse, if_pos ⟨demCheck_of h hl ha hla, h0, h1, hodd⟩]
  have hq : ∀ t, t ∈ l → useS n t = n / t.p := fun t ht => (use_plain (h t ht) (by omega) h1).1
  rw [sum_ask (fun t ht => ⟨h t ht, by have := use_plain (h t ht) (by omega) h1; rw [this.1]; omega⟩) ha (by omega), ask_cong l a hq]

theorem zero_view {P : Nat → Prop} {g : Heap} {n : Nat} (hb : P 0) (hg : g.get 0 = some (.cells (ints (List.replicate n 0)) true 0)) : Frz P g (.sl 0 0 n n false) (.fz 2 (ints (List.replicate n 0))) :=
  .row (s := 1) hb hg (flat_ints _).symm (size_ints _) (by simp [ints]) (Nat.le_refl _) (by omega) (fun _ => rfl) (fun _ => rfl) (cl_ints _)

theorem demandMore_c (k : Nat) (l : List Tk) (p n : Int) (hl : l.length < 2 ^ 62) : PC fs ms f_escapementlaw08_DemandMore [.fz k (tks l), .int .i64 p, .int .i64 n] (.bool true) := by
  refine pc_of (by simp [clL, AV.cl, cl_ints, cl_tks]) rfl ?_
  refine vd_start (af := C_escapementlaw08_DemandMore) false rfl (Nat.le_of_ble_eq_true rfl) ?_
  generalize hQ : (fun (v : AV) (_ : Heap) => v = .bool true) = Q
  have hT := mkT_ok l
  have hT4 := mkT_len l
  have hm := made8_c k l hl
  generalize hkk : growK (mkT l).length = kk at *
  generalize hLL : mkT l = L at *
  have h62 : L.length < 2 ^ 62 := by omega
  have hz : ∀ m, m ∈ List.replicate L.length (0 : Int) → 0 ≤ m ∧ m ≤ 32768 := fun m hm => by have := (List.mem_replicate.1 hm).2; omega
  have hzl : (List.replicate L.length (0 : Int)).length = L.length := List.length_replicate ..
  set_option smartUnfolding false in conv => whnf
  refine vd_pure (hm) ?_
  set_option smartUnfolding false in conv => whnf
  refine ⟨_, _, by rw [len_tks]; exact mk_ints (by omega), ?_⟩
  set_option smartUnfolding false in conv => whnf
  refine vd_pure (bring_c p 64 (by omega) (by omega)) ?_
  set_option smartUnfolding false in conv => whnf
  have hp0 := Int.emod_nonneg p (show (64 : Int) ≠ 0 by omega)
  have hp1 := Int.emod_lt_of_pos p (show (0 : Int) < 64 by omega)
  have ep : IntKind.i64.wrap (1 + bring p 64) = 1 + p % 64 := IntWalk.i64_in _ (by simp only [bring]; omega)
  rw [ep]
  refine vd_pure (dhyper_c kk L _ h62) ?_
  rcases hyp_le hT hT4 (show 1 ≤ 1 + p % 64 by omega) (show 1 + p % 64 ≤ 64 by omega) with ⟨he, hh, hh1⟩ | he
  · rw [he]
    have hdv := ((hyp_dvd L (1 + p % 64).toNat _).1 (Nat.dvd_refl _)).2
    generalize hypN L (1 + p % 64).toNat = h at *
    have hdv' : ∀ t, t ∈ L → t.p ∣ (h : Int) := fun t ht => by
      have := hdv t ht
      have ho := hT t ht
      simp only [OkT] at ho
      rw [← Int.toNat_of_nonneg (show 0 ≤ t.p by omega)]
      exact Int.natCast_dvd_natCast.2 this
    have hn0 := Int.emod_nonneg n (show (9000 : Int) ≠ 0 by omega)
    have hn1 := Int.emod_lt_of_pos n (show (0 : Int) < 9000 by omega)
    have en : IntKind.i64.wrap (64 + bring n 9000) = 64 + n % 9000 := IntWalk.i64_in _ (by simp only [bring]; omega)
    set_option smartUnfolding false in conv => whnf
    refine vd_pure (bring_c n 9000 (by omega) (by omega)) ?_
    set_option smartUnfolding false in conv => whnf
    rw [en]
    have hNb : 64 ≤ 64 + n % 9000 ∧ 64 + n % 9000 ≤ 9064 := by omega
    generalize 64 + n % 9000 = N at hNb ⊢
    have ok1 := dOf_ok (n := N) hT hT4 hz hzl (by omega) (by omega)
    have e2 : IntKind.i64.wrap (N + h) = N + h := IntWalk.i64_in _ (by omega)
    have e3 : IntKind.i64.wrap (N + 1) = N + 1 := IntWalk.i64_in _ (by omega)
    have ok2 := dOf_ok (n := N + h) hT hT4 hz hzl (by omega) (by omega)
    have ok3 := dOf_ok (n := N + 1) hT hT4 hz hzl (by omega) (by omega)
    have ok4 := dUse_ok (n := h) hT hT4 hz hzl (by omega) (by omega) hdv'
    have bnd := sum_le (q := jobsP (N + (h : Int))) (fun t ht => ⟨hT t ht, by have := jobs_plain (hT t ht) (show 0 ≤ N + (h : Int) by omega) (by omega); omega⟩) hz (show L.length ≤ 1024 by omega)
    have sum1 := ask_add (q := jobsP (N + h)) (r := jobsP N) (s := fun t => (h : Int) / t.p) L (List.replicate L.length 0) (fun t ht => jobs_hyper (hT t ht) (by omega) (hdv' t ht) (by omega))
    have sum2 := ask_mono (q := jobsP N) (r := jobsP (N + 1)) L (List.replicate L.length 0) (fun t ht => ⟨hT t ht, jobs_mono (hT t ht) (by omega) (by omega)⟩) (fun m hm => (hz m hm).1)
    set_option smartUnfolding false in conv => whnf
    refine vd_view (dof_c kk 2 L (List.replicate L.length 0) _ h62 (by rw [hzl]; exact h62)) rfl (.cons (.clean (by simp [AV.cl, cl_tks])) (.cons (zero_view trivial rfl) (.cons (.clean rfl) .nil))) ?_
    rw [ok1]
    set_option smartUnfolding false in conv => whnf
    rw [e2]
    refine vd_view (dof_c kk 2 L (List.replicate L.length 0) _ h62 (by rw [hzl]; exact h62)) rfl (.cons (.clean (by simp [AV.cl, cl_tks])) (.cons (zero_view trivial rfl) (.cons (.clean rfl) .nil))) ?_
    rw [ok2]
    set_option smartUnfolding false in conv => whnf
    rw [e3]
    refine vd_view (dof_c kk 2 L (List.replicate L.length 0) _ h62 (by rw [hzl]; exact h62)) rfl (.cons (.clean (by simp [AV.cl, cl_tks])) (.cons (zero_view trivial rfl) (.cons (.clean rfl) .nil))) ?_
    rw [ok3]
    set_option smartUnfolding false in conv => whnf
    refine vd_view (duse_c kk 2 L (List.replicate L.length 0) _ h62 (by rw [hzl]; exact h62)) rfl (.cons (.clean (by simp [AV.cl, cl_tks])) (.cons (zero_view trivial rfl) (.cons (.clean rfl) .nil))) ?_
    rw [ok4]
    set_option smartUnfolding false in conv => whnf
    refine brt (by rw [IntWalk.i64_in _ (by show _ ≤ (askP (jobsP N) L (List.replicate L.length 0)).sum + (askP (fun t => (h : Int) / t.p) L (List.replicate L.length 0)).sum ∧ (askP (jobsP N) L (List.replicate L.length 0)).sum + (askP (fun t => (h : Int) / t.p) L (List.replicate L.length 0)).sum ≤ _; omega)]; exact beq_iff_eq.2 sum1) (fun hc => ?_)
    (try rw [hc])
    set_option smartUnfolding false in conv => whnf
    refine brt (by exact decide_eq_true sum2) (fun hc => ?_)
    (try rw [hc])
    set_option smartUnfolding false in conv => whnf
    refine vd_pure (works8_c) ?_
    set_option smartUnfolding false in conv => whnf
    subst hQ
    rfl
  · rw [he]
    set_option smartUnfolding false in conv => whnf
    refine vd_pure works8_c ?_
    set_option smartUnfolding false in conv => whnf
    subst hQ
    rfl
end Ir
end Go.Proofs.Ytbmnehpppegecaa
