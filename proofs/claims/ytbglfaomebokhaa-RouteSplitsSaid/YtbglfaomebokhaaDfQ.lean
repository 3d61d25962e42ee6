/- law 25, plain: sums of changes, changes of sums; two collections together. -/
import Derived.Test.YtbglfaomebokhaaDf2
namespace Go.Proofs.Ytbglfaomebokhaa
set_option linter.unusedSimpArgs false
set_option linter.unusedVariables false

/-- A right bag in which each record is there from 0 to K times. -/
def Sm (K : Int) (l : List It) : Prop := rightB l = true ∧ ∀ s, 0 ≤ cnt l s ∧ cnt l s ≤ K
theorem Sm.nil : Sm 0 [] := ⟨rfl, fun s => ⟨Int.le_refl 0, Int.le_refl 0⟩⟩
theorem rgt_Sm {K : Int} {l : List It} (h : Sm K l) : rgt l = l := rgt_id h.1
theorem back1 (bs : List (List It)) : ∀ was : List It, Sm 100000 was → (∀ b ∈ bs, Sm 100000 b) → smF was (chF was bs) = bs := by
  induction bs with
  | nil => intro was _ _; rfl
  | cons b bs ih =>
    intro was hw hb
    have h1 := hb b List.mem_cons_self
    show smF was (joinS (rgt b) was (-1) :: chF (rgt b) bs) = _
    rw [rgt_Sm h1]
    have e1 := fun s => joinS_cnt (t := -1) (.inr rfl) h1.1 hw.1 (fun s => by rw [mayB_iff]; have := h1.2 s; have := hw.2 s; omega) s
    have r1 := join_right h1.1 was (-1)
    have e2 : joinS was (rgt (joinS b was (-1))) 1 = b := by
      rw [rgt_id r1]
      refine right_ext (join_right hw.1 _ _) h1.1 fun s => ?_
      rw [joinS_cnt (.inl rfl) hw.1 r1 (fun s => by rw [e1, mayB_iff]; have := h1.2 s; have := hw.2 s; omega) s, e1]
      omega
    show joinS was (rgt (joinS b was (-1))) 1 :: smF (joinS was (rgt (joinS b was (-1))) 1) (chF b bs) = _
    rw [e2, ih b h1 (fun x hx => hb x (List.mem_cons_of_mem _ hx))]
theorem back2 (bs : List (List It)) : ∀ (K : Int) (acc : List It), Sm K acc → (∀ b ∈ bs, Sm 1000 b) → K + 1000 * bs.length ≤ 100000 → chF acc (smF acc bs) = bs := by
  induction bs with
  | nil => intro K acc _ _ _; rfl
  | cons b bs ih =>
    intro K acc ha hb hK
    have h1 := hb b List.mem_cons_self
    have h0 := ha.2 (0, 0)
    rw [List.length_cons] at hK
    have e1 := fun s => joinS_cnt (t := 1) (.inl rfl) ha.1 h1.1 (fun s => by rw [mayB_iff]; have := h1.2 s; have := ha.2 s; omega) s
    have r1 := join_right ha.1 b 1
    have s1 : Sm (K + 1000) (joinS acc b 1) := ⟨r1, fun s => by rw [e1]; have := h1.2 s; have := ha.2 s; omega⟩
    have e2 : joinS (joinS acc b 1) acc (-1) = b := by
      refine right_ext (join_right r1 _ _) h1.1 fun s => ?_
      rw [joinS_cnt (.inr rfl) r1 ha.1 (fun s => by rw [e1, mayB_iff]; have := h1.2 s; have := ha.2 s; omega) s, e1]
      omega
    show joinS (rgt (joinS acc (rgt b) 1)) acc (-1) :: chF (rgt (joinS acc (rgt b) 1)) (smF (joinS acc (rgt b) 1) bs) = _
    rw [rgt_Sm h1, rgt_id r1, e2, ih (K + 1000) _ s1 (fun x hx => hb x (List.mem_cons_of_mem _ hx)) (by omega)]
/-- Two lists of bags, one by one. -/
def zipP (xs ys : List (List It)) : List (List It) := List.zipWith (fun x y => joinS x y 1) xs ys
/-- A right bag in which each record is there at most K times, either way. -/
def Sw (K : Int) (l : List It) : Prop := rightB l = true ∧ ∀ s, -K ≤ cnt l s ∧ cnt l s ≤ K
theorem Sm.sw {K : Int} {l : List It} (h : Sm K l) : Sw K l := ⟨h.1, fun s => ⟨by have := h.2 s; omega, (h.2 s).2⟩⟩
theorem Sw.cnt {K L t : Int} (ht : t = 1 ∨ t = -1) {a b : List It} (ha : Sw K a) (hb : Sw L b) (hKL : K + L ≤ 1000000) (s : Int × Int) : Go.Proofs.Ytbglfaomebokhaa.cnt (joinS a b t) s = Go.Proofs.Ytbglfaomebokhaa.cnt a s + t * Go.Proofs.Ytbglfaomebokhaa.cnt b s :=
  joinS_cnt ht ha.1 hb.1 (fun s => by rw [mayB_iff]; have := ha.2 s; have := hb.2 s; rcases ht with rfl | rfl <;> omega) s
theorem Sw.join {K L t : Int} (ht : t = 1 ∨ t = -1) {a b : List It} (ha : Sw K a) (hb : Sw L b) (hKL : K + L ≤ 1000000) : Sw (K + L) (joinS a b t) :=
  ⟨join_right ha.1 b t, fun s => by rw [Sw.cnt ht ha hb hKL]; have := ha.2 s; have := hb.2 s; rcases ht with rfl | rfl <;> omega⟩
theorem plus_changes (xs : List (List It)) : ∀ (ys : List (List It)) (wx wy : List It), xs.length = ys.length → Sw 1000 wx → Sw 1000 wy → (∀ x ∈ xs, Sw 1000 x) → (∀ y ∈ ys, Sw 1000 y) → chF (joinS wx wy 1) (zipP xs ys) = zipP (chF wx xs) (chF wy ys) := by
  induction xs with
  | nil =>
    intro ys wx wy hl _ _ _ _
    cases ys with
    | nil => rfl
    | cons y ys => simp at hl
  | cons x xs ih =>
    intro ys wx wy hl hwx hwy hx hy
    cases ys with
    | nil => simp at hl
    | cons y ys =>
      have h1 := hx x List.mem_cons_self
      have h2 := hy y List.mem_cons_self
      have jx := Sw.join (t := 1) (.inl rfl) h1 h2 (by omega)
      have jw := Sw.join (t := 1) (.inl rfl) hwx hwy (by omega)
      have dx := Sw.join (t := -1) (.inr rfl) h1 hwx (by omega)
      have dy := Sw.join (t := -1) (.inr rfl) h2 hwy (by omega)
      have e : joinS (joinS x y 1) (joinS wx wy 1) (-1) = joinS (joinS x wx (-1)) (joinS y wy (-1)) 1 := by
        refine right_ext (join_right jx.1 _ _) (join_right dx.1 _ _) fun s => ?_
        rw [Sw.cnt (.inr rfl) jx jw (by omega), Sw.cnt (.inl rfl) dx dy (by omega), Sw.cnt (.inl rfl) h1 h2 (by omega), Sw.cnt (.inl rfl) hwx hwy (by omega), Sw.cnt (.inr rfl) h1 hwx (by omega), Sw.cnt (.inr rfl) h2 hwy (by omega)]
        omega
      show joinS (rgt (joinS x y 1)) (joinS wx wy 1) (-1) :: chF (rgt (joinS x y 1)) (zipP xs ys) = joinS (joinS (rgt x) wx (-1)) (joinS (rgt y) wy (-1)) 1 :: zipP (chF (rgt x) xs) (chF (rgt y) ys)
      rw [rgt_id jx.1, rgt_id h1.1, rgt_id h2.1, e, ih ys x y (by simpa using hl) h1 h2 (fun z hz => hx z (List.mem_cons_of_mem _ hz)) (fun z hz => hy z (List.mem_cons_of_mem _ hz))]
theorem plus_sums (xs : List (List It)) : ∀ (ys : List (List It)) (K : Int) (ax ay : List It), xs.length = ys.length → Sw K ax → Sw K ay → (∀ x ∈ xs, Sw 1000 x) → (∀ y ∈ ys, Sw 1000 y) → 0 ≤ K → K + 1000 * xs.length ≤ 100000 → smF (joinS ax ay 1) (zipP xs ys) = zipP (smF ax xs) (smF ay ys) := by
  induction xs with
  | nil =>
    intro ys K ax ay hl _ _ _ _ _ _
    cases ys with
    | nil => rfl
    | cons y ys => simp at hl
  | cons x xs ih =>
    intro ys K ax ay hl hax hay hx hy h0 hK
    cases ys with
    | nil => simp at hl
    | cons y ys =>
      rw [List.length_cons] at hK
      have h1 := hx x List.mem_cons_self
      have h2 := hy y List.mem_cons_self
      have jx := Sw.join (t := 1) (.inl rfl) h1 h2 (by omega)
      have jw := Sw.join (t := 1) (.inl rfl) hax hay (by omega)
      have dx := Sw.join (t := 1) (.inl rfl) hax h1 (by omega)
      have dy := Sw.join (t := 1) (.inl rfl) hay h2 (by omega)
      have e : joinS (joinS ax ay 1) (joinS x y 1) 1 = joinS (joinS ax x 1) (joinS ay y 1) 1 := by
        refine right_ext (join_right jw.1 _ _) (join_right dx.1 _ _) fun s => ?_
        rw [Sw.cnt (.inl rfl) jw jx (by omega), Sw.cnt (.inl rfl) dx dy (by omega), Sw.cnt (.inl rfl) h1 h2 (by omega), Sw.cnt (.inl rfl) hax hay (by omega), Sw.cnt (.inl rfl) hax h1 (by omega), Sw.cnt (.inl rfl) hay h2 (by omega)]
        omega
      show joinS (joinS ax ay 1) (rgt (joinS x y 1)) 1 :: smF (joinS (joinS ax ay 1) (rgt (joinS x y 1)) 1) (zipP xs ys) = joinS (joinS ax (rgt x) 1) (joinS ay (rgt y) 1) 1 :: zipP (smF (joinS ax (rgt x) 1) xs) (smF (joinS ay (rgt y) 1) ys)
      rw [rgt_id jx.1, rgt_id h1.1, rgt_id h2.1, e, ih ys (K + 1000) (joinS ax x 1) (joinS ay y 1) (by simpa using hl) dx dy (fun z hz => hx z (List.mem_cons_of_mem _ hz)) (fun z hz => hy z (List.mem_cons_of_mem _ hz)) (by omega) (by omega)]
theorem ofF_Sm {l : List (Int × Int)} (h : l.length ≤ 1000) : Sm 1000 (ofF l) := ⟨ofF_right l, fun s => by rw [ofF_cnt (by omega)]; have := count_le' l s; omega⟩
theorem Sm.mono {K L : Int} {l : List It} (h : Sm K l) (hKL : K ≤ L) : Sm L l := ⟨h.1, fun s => ⟨(h.2 s).1, Int.le_trans (h.2 s).2 hKL⟩⟩
theorem chF_blen {N : Nat} (ls : List (List It)) : ∀ was : List It, was.length ≤ N → (∀ b ∈ ls, b.length ≤ N) → ∀ b ∈ chF was ls, b.length ≤ N + N := by
  induction ls with
  | nil => intro was _ _ b hb; cases hb
  | cons x l ih =>
    intro was hw hb b hm
    have hx := Nat.le_trans (rgt_len x) (hb x List.mem_cons_self)
    rcases List.mem_cons.1 (show b ∈ joinS (rgt x) was (-1) :: chF (rgt x) l from hm) with rfl | hm
    · have := joinS_lenA (rgt x) was (-1); omega
    · exact ih (rgt x) hx (fun y hy => hb y (List.mem_cons_of_mem _ hy)) b hm
theorem smF_blen {N : Nat} (ls : List (List It)) : ∀ acc : List It, (∀ b ∈ ls, b.length ≤ N) → ∀ b ∈ smF acc ls, b.length ≤ acc.length + ls.length * N := by
  induction ls with
  | nil => intro was _ b hb; cases hb
  | cons x l ih =>
    intro acc hb b hm
    have hx := Nat.le_trans (rgt_len x) (hb x List.mem_cons_self)
    have hj := joinS_lenA acc (rgt x) 1
    rw [List.length_cons, Nat.succ_mul]
    rcases List.mem_cons.1 (show b ∈ joinS acc (rgt x) 1 :: smF (joinS acc (rgt x) 1) l from hm) with rfl | hm
    · omega
    · have := ih (joinS acc (rgt x) 1) (fun y hy => hb y (List.mem_cons_of_mem _ hy)) b hm
      omega
end Go.Proofs.Ytbglfaomebokhaa
