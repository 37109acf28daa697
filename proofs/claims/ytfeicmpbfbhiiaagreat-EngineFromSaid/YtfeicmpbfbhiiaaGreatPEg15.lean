/- Texts of a proof about the given program, those parts that this claim reaches. -/
import Derived.Test.YtfeicmpbfbhiiaaGreatPEg13
import Derived.Test.YtfeicmpbfbhiiaaGreatPEg00
import Derived.OrdersHeld
import Derived.Deep.RegionHeld
import Derived.Test.YtfeicmpbfbhiiaaGreatPEg14
set_option linter.unusedVariables false
set_option linter.unusedSimpArgs false
namespace Go.Proofs.YtfeicmpbfbhiiaaGreat
abbrev ptr (p : Nat) : Value := .pointer (some ⟨p, 0, none⟩)
theorem Fr.frozen {F : List Nat} {a w : World} (h : Fr F a w) {b i : Nat} (hn : b ∉ F) (hb : b < a.heap.size) : w.frozen? ⟨b, i, none⟩ = a.frozen? ⟨b, i, none⟩ := by
 simp [World.frozen?, h.block b hb hn]
def upd (D : Nat → Bool) (i : Nat) : Nat → Bool := fun k => if k = i then true else D k
/-- What the operations that it waits for have given. -/
def afterI (md : Region.Mode) (I : Nat → Value → World → Prop) (X : Nat → Value) (w : World) : List Edge → Prop
 | [] => True
 | e :: r => (Region.binds md e = true → I e.on (X e.on) w) ∧ afterI md I X w r
/-- What is done has what it waited for. -/
def ClosedD (md : Region.Mode) (ops : Array Oper) (D : Nat → Bool) : Prop := ∀ i o, ops[i]? = some o → D i = true → ∀ e ∈ o.after, Region.binds md e = true → D e.on = true
theorem ClosedD.not {md : Region.Mode} {ops : Array Oper} {D : Nat → Bool} (h : ClosedD md ops D) {i : Nat} (hi : D i = false) (z : Nat) (hw : waits md ops z i = true) : D z = false := by
 cases hz : D z with
 | false => rfl
 | true =>
  unfold waits at hw
  cases ho : ops[z]? with
  | none => rw [ho] at hw; cases hw
  | some o =>
   rw [ho] at hw
   obtain ⟨e, he, hb⟩ := Array.any_eq_true'.1 hw
   simp only [Bool.and_eq_true, beq_iff_eq] at hb
   have := h z o ho hz e he hb.1
   rw [hb.2, hi] at this
   cases this
section
variable {P : Program} {Q : Exit → Act → World → Prop} {md : Region.Mode} {ops : Array Oper} {mk : (Nat → Value) → Act} {I : Nat → Value → World → Prop} {S : (Nat → Bool) → World → Prop} {T : World → World → Prop}
def OpOk (P : Program) (Q : Exit → Act → World → Prop) (md : Region.Mode) (ops : Array Oper) (mk : (Nat → Value) → Act) (I : Nat → Value → World → Prop) (S : (Nat → Bool) → World → Prop) (T : World → World → Prop) (i : Nat) (o : Oper) : Prop :=
 ∀ (D : Nat → Bool) (X : Nat → Value) (w : World) (K : Act → World → Prop), D i = false → ClosedD md ops D → S D w → afterI md I X w o.after.toList → Shut (∀ v w', I i v w' → S (upd D i) w' → T w w' → K (mk (up X i v)) w') →
  if Region.wanted o (yielded ops (mk X).tmps) = true then Oper.wp P o (mk X) w K Q else K ((mk X).put o.dst undef) w
def OpsOk (P : Program) (Q : Exit → Act → World → Prop) (md : Region.Mode) (ops : Array Oper) (mk : (Nat → Value) → Act) (I : Nat → Value → World → Prop) (S : (Nat → Bool) → World → Prop) (T : World → World → Prop) : Nat → List Oper → Prop
 | _, [] => True
 | i, o :: r => OpOk P Q md ops mk I S T i o ∧ OpsOk P Q md ops mk I S T (i + 1) r
theorem OpsOk.nil {n : Nat} : OpsOk P Q md ops mk I S T n [] := trivial
theorem OpsOk.cons {n : Nat} {o : Oper} {r : List Oper} (h : OpOk P Q md ops mk I S T n o) (h2 : OpsOk P Q md ops mk I S T (n + 1) r) : OpsOk P Q md ops mk I S T n (o :: r) := ⟨h, h2⟩
theorem OpsOk.get : ∀ {l : List Oper} {n : Nat}, OpsOk P Q md ops mk I S T n l → ∀ {j : Nat} {o : Oper}, l[j]? = some o → OpOk P Q md ops mk I S T (n + j) o
 | [], _, _, j, o, h => by simp at h
 | a :: r, n, h, 0, o, hj => by simp at hj; subst hj; exact h.1
 | a :: r, n, h, j + 1, o, hj => by
  simp at hj
  have := OpsOk.get h.2 hj
  rw [show n + (j + 1) = n + 1 + j by omega]; exact this
/-- Each operation waits for earlier ones alone. -/
def inOrder (md : Region.Mode) (ops : Array Oper) : Bool := (List.range ops.size).all fun i => match ops[i]? with | some o => o.after.toList.all (fun e => !Region.binds md e || decide (e.on < i)) | none => true
theorem inOrder_spec (h : inOrder md ops = true) {i : Nat} {o : Oper} (ho : ops[i]? = some o) {e : Edge} (he : e ∈ o.after) (hb : Region.binds md e = true) : e.on < i := by
 have hi : i < ops.size := (Array.getElem?_eq_some_iff.1 ho).1
 have := List.all_eq_true.1 h i (List.mem_range.2 hi)
 rw [ho] at this
 have := List.all_eq_true.1 this e (Array.mem_toList_iff.2 he)
 simpa [hb] using this
theorem after_of {X : Nat → Value} {w : World} : ∀ {l : List Edge}, (∀ e ∈ l, Region.binds md e = true → I e.on (X e.on) w) → afterI md I X w l
 | [], _ => trivial
 | e :: r, h => ⟨h e (by simp), after_of fun e he => h e (by simp [he])⟩
/-- How many are not yet listed. -/
def unl (n : Nat) (listed : Array Bool) : Nat := (List.range n).countP fun j => !listed.getD j true
theorem unl_zero {n : Nat} {listed : Array Bool} (h : unl n listed = 0) {j : Nat} (hj : j < n) : listed.getD j true = true := by
 have := List.countP_eq_zero.1 h j (List.mem_range.2 hj)
 simpa using this
theorem unl_set {n i : Nat} {listed : Array Bool} (hi : i < n) (hl : listed.getD i true = false) : unl n (listed.setIfInBounds i true) + 1 ≤ unl n listed := by
 have hs : ∀ j, (listed.setIfInBounds i true).getD j true = if j = i then true else listed.getD j true := by
  intro j
  by_cases e : j = i
  ·subst e
   by_cases h : j < listed.size
   ·simp [h]
   ·simp [h]
  ·rw [getD_set_ne true (Ne.symm e), if_neg e]
 unfold unl
 have : ∀ m, i < m → (List.range m).countP (fun j => !(listed.setIfInBounds i true).getD j true) + 1 = (List.range m).countP fun j => !listed.getD j true := by
  intro m
  induction m with
  | zero => intro h; omega
  | succ m ih =>
   intro h
   rw [List.range_succ, List.countP_append, List.countP_append, List.countP_singleton, List.countP_singleton]
   by_cases e : i = m
   ·subst e
    have h0 : (List.range i).countP (fun j => !(listed.setIfInBounds i true).getD j true) = (List.range i).countP fun j => !listed.getD j true := by
     apply List.countP_congr
     intro j hj
     rw [hs, if_neg (by have := List.mem_range.1 hj; omega)]
    rw [h0, hs, if_pos rfl, hl]
    simp
   ·have := ih (by omega)
    rw [hs m, if_neg (Ne.symm e)]
    omega
 exact Nat.le_of_eq (this n hi)
theorem wpAny_inv (hord : inOrder md ops = true) (hput : ∀ i o, ops[i]? = some o → ∀ X v, (mk X).put o.dst v = mk (up X i v))
  (hst : ∀ j v w w', I j v w → T w w' → I j v w') (hops : OpsOk P Q md ops mk I S T 0 ops.toList)
  (hfin : ∀ D X w', S D w' → (∀ j, j < ops.size → D j = true) → (∀ j, j < ops.size → I j (X j) w') → Q .normal (mk X) w') :
  ∀ (fuel : Nat) (listed : Array Bool) (X : Nat → Value) (w : World) (D : Nat → Bool), ClosedD md ops D → unl ops.size listed ≤ fuel → listed.size = ops.size → S D w → (∀ j, j < ops.size → listed.getD j true = D j) → (∀ j, j < ops.size → listed.getD j true = true → I j (X j) w) → wpAny P md ops Q fuel listed (mk X) w := by
 have hall : ∀ (listed : Array Bool) (X : Nat → Value) (w : World) (D : Nat → Bool), (∀ j, j < ops.size → listed.getD j true = true) → S D w → (∀ j, j < ops.size → listed.getD j true = D j) → (∀ j, j < ops.size → listed.getD j true = true → I j (X j) w) → Region.ready md ops listed = [] ∧ Q .normal (mk X) w := by
  intro listed X w D h hS hD hI
  refine ⟨?_, hfin D X w hS (fun j hj => by rw [← hD j hj]; exact h j hj) (fun j hj => hI j hj (h j hj))⟩
  cases hr : Region.ready md ops listed with
  | nil => rfl
  | cons j r =>
   have hj : j ∈ Region.ready md ops listed := by rw [hr]; simp
   obtain ⟨h1, o, ho, _⟩ := mem_ready.1 hj
   rw [h j (Array.getElem?_eq_some_iff.1 ho).1] at h1
   cases h1
 intro fuel
 induction fuel with
 | zero =>
  intro listed X w D hcl hu hz hS hD hI
  exact hall listed X w D (fun j hj => unl_zero (by omega) hj) hS hD hI
 | succ fuel ih =>
  intro listed X w D hcl hu hz hS hD hI
  refine ⟨fun hr => (hall listed X w D ?_ hS hD hI).2, fun i hi => ?_⟩
  ·intro j
   induction j using Nat.strongRecOn with
   | ind j ihj =>
    intro hj
    cases hl : listed.getD j true with
    | true => rfl
    | false =>
     exfalso
     have hm : j ∈ Region.ready md ops listed := by
      refine mem_ready.2 ⟨hl, ops[j], Array.getElem?_eq_getElem hj, fun e he hb => ?_⟩
      have hlt := inOrder_spec hord (Array.getElem?_eq_getElem hj) he hb
      have := ihj e.on hlt (by omega)
      have hsz : e.on < listed.size := by omega
      simpa [hsz] using this
     rw [hr] at hm
     cases hm
  ·obtain ⟨hun, o, ho, hall2⟩ := mem_ready.1 hi
   have hio : i < ops.size := (Array.getElem?_eq_some_iff.1 ho).1
   have hok := OpsOk.get hops (j := i) (o := o) (by rw [Array.getElem?_toList]; exact ho)
   rw [Nat.zero_add] at hok
   refine wpOp_step ho fun K' hK => hok D X w K' (by rw [← hD i hio]; exact hun) hcl hS (after_of fun e he hb => ?_) fun v w' hv hS' hT => ?_
   ·have he := Array.mem_toList_iff.1 he
    have hlt := inOrder_spec hord ho he hb
    have h1 := hall2 e he hb
    refine hI e.on (by omega) ?_
    have hsz : e.on < listed.size := by omega
    simpa [hsz] using h1
   ·have hs : ∀ j, (listed.setIfInBounds i true).getD j true = if j = i then true else listed.getD j true := by
     intro j
     by_cases e : j = i
     ·subst e
      simp [hz, hio]
     ·rw [getD_set_ne true (Ne.symm e), if_neg e]
    refine hK _ _ (ih _ _ _ (upd D i) ?_ ?_ (by simp [hz]) hS' (fun j hj => ?_) (fun j hj hl => ?_))
    ·intro k ok hk hDk e he hb
     unfold upd at hDk ⊢
     by_cases e1 : e.on = i
     ·rw [if_pos e1]
     ·rw [if_neg e1]
      by_cases e2 : k = i
      ·subst e2
       rw [ho] at hk
       cases hk
       have hlt := inOrder_spec hord ho he hb
       rw [← hD e.on (by omega)]
       have h1 := hall2 e he hb
       have hsz : e.on < listed.size := by omega
       simpa [hsz] using h1
      ·rw [if_neg e2] at hDk
       exact hcl k ok hk hDk e he hb
    ·have := unl_set hio hun; omega
    ·rw [hs]; unfold upd
     by_cases e : j = i
     ·rw [if_pos e, if_pos e]
     ·rw [if_neg e, if_neg e]; exact hD j hj
    ·by_cases e : j = i
     ·subst e; rw [up_same]; exact hv
     ·rw [up_other _ _ _ _ e]
      rw [hs, if_neg e] at hl
      exact hst j _ _ _ (hI j hj hl) hT
/-- Each operation's slot is the one into which 'mk' lays its value. -/
def putsOk (mk : (Nat → Value) → Act) : Nat → List Oper → Prop
 | _, [] => True
 | i, o :: r => (∀ X v, (mk X).put o.dst v = mk (up X i v)) ∧ putsOk mk (i + 1) r
theorem putsOk.get : ∀ {l : List Oper} {n : Nat}, putsOk mk n l → ∀ {j : Nat} {o : Oper}, l[j]? = some o → ∀ X v, (mk X).put o.dst v = mk (up X (n + j) v)
 | [], _, _, j, o, h => by simp at h
 | a :: r, n, h, 0, o, hj => by simp at hj; subst hj; exact h.1
 | a :: r, n, h, j + 1, o, hj => by
  simp at hj
  have := putsOk.get h.2 hj
  rw [show n + (j + 1) = n + 1 + j by omega]; exact this
/-- The operations' values, laid into their slots. -/
def putL (X : Nat → Value) : Nat → List Oper → Act → Act
 | _, [], a => a
 | i, o :: r, a => putL X (i + 1) r (a.put o.dst (X i))
/-- No slot is written twice. -/
def apartL : List Oper → Bool
 | [] => true
 | o :: r => r.all (fun o' => match o.dst, o'.dst with | some d, some d' => decide (d ≠ d') | _, _ => true) && apartL r
def apartD (d d' : Option Tmp) : Bool := match d, d' with | some d, some d' => decide (d ≠ d') | _, _ => true
theorem put_comm {d d' : Option Tmp} (h : apartD d d' = true) (a : Act) (u v : Value) : (a.put d u).put d' v = (a.put d' v).put d u := by
 cases d with
 | none => rfl
 | some d =>
  cases d' with
  | none => rfl
  | some d' =>
   simp [apartD] at h
   simp only [Act.put]
   rw [Array.setIfInBounds_comm _ _ h]
theorem put_twice (d : Option Tmp) (a : Act) (u v : Value) : (a.put d u).put d v = a.put d v := by
 cases d with
 | none => rfl
 | some d => simp [Act.put]
theorem putL_put {X : Nat → Value} {d : Option Tmp} (v : Value) : ∀ {l : List Oper} {n : Nat} {a : Act}, (∀ o ∈ l, apartD d o.dst = true) → (putL X n l a).put d v = putL X n l (a.put d v)
 | [], _, _, _ => rfl
 | o :: r, n, a, h => by
  show (putL X (n + 1) r (a.put o.dst (X n))).put d v = putL X (n + 1) r ((a.put d v).put o.dst (X n))
  rw [putL_put v (fun o ho => h o (by simp [ho])), put_comm (h o (by simp))]
theorem putL_up {X : Nat → Value} {i : Nat} (v : Value) : ∀ {l : List Oper} {n : Nat} {a : Act}, i < n → putL (up X i v) n l a = putL X n l a
 | [], _, _, _ => rfl
 | o :: r, n, a, h => by
  show putL (up X i v) (n + 1) r (a.put o.dst (up X i v n)) = putL X (n + 1) r (a.put o.dst (X n))
  rw [putL_up v (by omega), up_other _ _ _ _ (by omega)]
theorem apartL_cons {o : Oper} {r : List Oper} (h : apartL (o :: r) = true) : (∀ o' ∈ r, apartD o.dst o'.dst = true) ∧ apartL r = true := by
 simp only [apartL, Bool.and_eq_true, List.all_eq_true] at h
 exact ⟨fun o' ho => h.1 o' ho, h.2⟩
theorem putsOk_putL : ∀ {l : List Oper} {n : Nat} {a : Act}, apartL l = true → putsOk (fun X => putL X n l a) n l
 | [], _, _, _ => trivial
 | o :: r, n, a, h => by
  obtain ⟨h1, h2⟩ := apartL_cons h
  refine ⟨fun X v => ?_, ?_⟩
  ·show (putL X (n + 1) r (a.put o.dst (X n))).put o.dst v = putL (up X n v) (n + 1) r (a.put o.dst (up X n v n))
   rw [putL_put v h1, put_twice, putL_up v (by omega), up_same]
  ·exact tail o r n a h2
where
 tail (o : Oper) (r : List Oper) (n : Nat) (a : Act) (h : apartL r = true) : putsOk (fun X => putL X n (o :: r) a) (n + 1) r := by
  have gen : ∀ {l : List Oper} {m : Nat} (f : (Nat → Value) → Act), n < m → (∀ X i v, m ≤ i → f (up X i v) = f X) → apartL l = true → putsOk (fun X => putL X m l (f X)) m l := by
   intro l
   induction l with
   | nil => intro m f hm hf hl; exact trivial
   | cons o' r' ih =>
    intro m f hm hf hl
    obtain ⟨h1, h2⟩ := apartL_cons hl
    refine ⟨fun X v => ?_, ?_⟩
    ·show (putL X (m + 1) r' ((f X).put o'.dst (X m))).put o'.dst v = putL (up X m v) (m + 1) r' ((f (up X m v)).put o'.dst (up X m v m))
     rw [putL_put v h1, put_twice, putL_up v (by omega), up_same, hf _ _ _ (Nat.le_refl _)]
    ·exact ih (fun X => (f X).put o'.dst (X m)) (by omega) (fun X i v hi => by rw [hf _ _ _ (by omega), up_other _ _ _ _ (by omega)]) h2
  exact gen (fun X => a.put o.dst (X n)) (by omega) (fun X i v hi => by rw [up_other _ _ _ _ (by omega)]) h
def slotOf (a : Act) (d : Option Tmp) : Value := match d with | some d => a.tmps.getD d undef | none => undef
theorem put_slot (a : Act) (d : Option Tmp) : a.put d (slotOf a d) = a := by
 cases d with
 | none => rfl
 | some d =>
  obtain ⟨t, df⟩ := a
  simp only [Act.put, slotOf]
  congr 1
  apply Array.ext
  ·simp
  ·intro i h1 h2
   by_cases e : d = i
   ·subst e; simp [h2]
   ·exact Array.getElem_setIfInBounds_ne h2 e
theorem putL_self (a : Act) : ∀ (l : List Oper) (n : Nat), ∃ X0, a = putL X0 n l a
 | [], _ => ⟨fun _ => undef, rfl⟩
 | o :: r, n => by
  obtain ⟨X0, h⟩ := putL_self a r (n + 1)
  refine ⟨up X0 n (slotOf a o.dst), ?_⟩
  show a = putL (up X0 n (slotOf a o.dst)) (n + 1) r (a.put o.dst (up X0 n (slotOf a o.dst) n))
  rw [up_same, put_slot, putL_up _ (by omega)]
  exact h
/-- The rule: I: what each operation gives; S: what holds meanwhile; T: what each may do. -/
theorem wp_region_inv {id : Nat} {a : Act} {w : World} (I : Nat → Value → World → Prop) (S : (Nat → Bool) → World → Prop) (T : World → World → Prop)
  (hm : P.follows .mixedOrders = true) (hord : inOrder .any ops = true) (hap : apartL ops.toList = true) (hst : ∀ j v w w', I j v w → T w w' → I j v w') (hS : S (fun _ => false) w.drew)
  (hops : OpsOk P Q .any ops (fun X => putL X 0 ops.toList a) I S T 0 ops.toList)
  (hfin : ∀ D X w', S D w' → (∀ j, j < ops.size → D j = true) → (∀ j, j < ops.size → I j (X j) w') → Q .normal (putL X 0 ops.toList a) w') : (Code.region id ops true).wp P Q a w := by
 obtain ⟨X0, h0⟩ := putL_self a ops.toList 0
 have key : ∀ b, b = putL X0 0 ops.toList a → wpAny P .any ops Q ops.size (Array.replicate ops.size false) b w.drew := by
  intro b hb
  subst hb
  refine wpAny_inv (mk := fun X => putL X 0 ops.toList a) hord (fun i o ho => by have := putsOk.get (putsOk_putL (a := a) (n := 0) hap) (j := i) (o := o) (by rw [Array.getElem?_toList]; exact ho); rw [Nat.zero_add] at this; exact this) hst hops hfin _ _ X0 _ (fun _ => false) (fun _ _ _ h => by cases h) ?_ (by simp) hS ?_ ?_
  ·unfold unl
   refine Nat.le_trans List.countP_le_length ?_
   simp
  ·intro j hj; simp [hj]
  ·intro j hj h; simp [hj] at h
 exact wp_region_any hm (key a h0)
end
/-- An operation that gives its value whatever the world. -/
theorem rgT {p : Prop} (h : p := by
 intro D X w' K hD hcl hS hI hK
 simp only [afterI, Region.binds, forall_const] at hI
 simp only [putL, Act.put, List.getElem_toArray, List.setIfInBounds_toArray, List.set_cons_zero, List.set_cons_succ, Nat.reduceAdd, up, Nat.reduceEqDiff, if_true, if_false, reduceIte] at hK ⊢
 try simp only [hI] at hK
 go_simp
 exact hK.out _ _ (by first | rfl | trivial) hS (by first | trivial | exact Fr.refl _ _)
 ) : p := h
end Go.Proofs.YtfeicmpbfbhiiaaGreat
set_option linter.unusedVariables false
set_option linter.unusedSimpArgs false
namespace Go.Proofs.YtfeicmpbfbhiiaaGreat
section
variable {P : Program} {Q : Exit → Act → World → Prop} {md : Region.Mode} {ops : Array Oper} {mk : (Nat → Value) → Act} {I : Nat → Value → World → Prop} {S : (Nat → Bool) → (Nat → Value) → World → Prop} {T : World → World → Prop}
def OpOkX (P : Program) (Q : Exit → Act → World → Prop) (md : Region.Mode) (ops : Array Oper) (mk : (Nat → Value) → Act) (I : Nat → Value → World → Prop) (S : (Nat → Bool) → (Nat → Value) → World → Prop) (T : World → World → Prop) (i : Nat) (o : Oper) : Prop :=
 ∀ (D : Nat → Bool) (X : Nat → Value) (w : World) (K : Act → World → Prop), D i = false → ClosedD md ops D → S D X w → (∀ e ∈ o.after, Region.binds md e = true → D e.on = true) → afterI md I X w o.after.toList → Shut (∀ v w', I i v w' → S (upd D i) (up X i v) w' → T w w' → K (mk (up X i v)) w') →
  if Region.wanted o (yielded ops (mk X).tmps) = true then Oper.wp P o (mk X) w K Q else K ((mk X).put o.dst undef) w
def OpsOkX (P : Program) (Q : Exit → Act → World → Prop) (md : Region.Mode) (ops : Array Oper) (mk : (Nat → Value) → Act) (I : Nat → Value → World → Prop) (S : (Nat → Bool) → (Nat → Value) → World → Prop) (T : World → World → Prop) : Nat → List Oper → Prop
 | _, [] => True
 | i, o :: r => OpOkX P Q md ops mk I S T i o ∧ OpsOkX P Q md ops mk I S T (i + 1) r
theorem OpsOkX.nil {n : Nat} : OpsOkX P Q md ops mk I S T n [] := trivial
theorem OpsOkX.cons {n : Nat} {o : Oper} {r : List Oper} (h : OpOkX P Q md ops mk I S T n o) (h2 : OpsOkX P Q md ops mk I S T (n + 1) r) : OpsOkX P Q md ops mk I S T n (o :: r) := ⟨h, h2⟩
theorem OpsOkX.get : ∀ {l : List Oper} {n : Nat}, OpsOkX P Q md ops mk I S T n l → ∀ {j : Nat} {o : Oper}, l[j]? = some o → OpOkX P Q md ops mk I S T (n + j) o
 | [], _, _, j, o, h => by simp at h
 | a :: r, n, h, 0, o, hj => by simp at hj; subst hj; exact h.1
 | a :: r, n, h, j + 1, o, hj => by
  simp at hj
  have := OpsOkX.get h.2 hj
  rw [show n + (j + 1) = n + 1 + j by omega]; exact this
theorem wpAny_invX (hord : inOrder md ops = true) (hput : ∀ i o, ops[i]? = some o → ∀ X v, (mk X).put o.dst v = mk (up X i v))
  (hst : ∀ j v w w', I j v w → T w w' → I j v w') (hops : OpsOkX P Q md ops mk I S T 0 ops.toList)
  (hfin : ∀ D X w', S D X w' → (∀ j, j < ops.size → D j = true) → (∀ j, j < ops.size → I j (X j) w') → Q .normal (mk X) w') :
  ∀ (fuel : Nat) (listed : Array Bool) (X : Nat → Value) (w : World) (D : Nat → Bool), ClosedD md ops D → unl ops.size listed ≤ fuel → listed.size = ops.size → S D X w → (∀ j, j < ops.size → listed.getD j true = D j) → (∀ j, j < ops.size → listed.getD j true = true → I j (X j) w) → wpAny P md ops Q fuel listed (mk X) w := by
 have hall : ∀ (listed : Array Bool) (X : Nat → Value) (w : World) (D : Nat → Bool), (∀ j, j < ops.size → listed.getD j true = true) → S D X w → (∀ j, j < ops.size → listed.getD j true = D j) → (∀ j, j < ops.size → listed.getD j true = true → I j (X j) w) → Region.ready md ops listed = [] ∧ Q .normal (mk X) w := by
  intro listed X w D h hS hD hI
  refine ⟨?_, hfin D X w hS (fun j hj => by rw [← hD j hj]; exact h j hj) (fun j hj => hI j hj (h j hj))⟩
  cases hr : Region.ready md ops listed with
  | nil => rfl
  | cons j r =>
   have hj : j ∈ Region.ready md ops listed := by rw [hr]; simp
   obtain ⟨h1, o, ho, _⟩ := mem_ready.1 hj
   rw [h j (Array.getElem?_eq_some_iff.1 ho).1] at h1
   cases h1
 intro fuel
 induction fuel with
 | zero =>
  intro listed X w D hcl hu hz hS hD hI
  exact hall listed X w D (fun j hj => unl_zero (by omega) hj) hS hD hI
 | succ fuel ih =>
  intro listed X w D hcl hu hz hS hD hI
  refine ⟨fun hr => (hall listed X w D ?_ hS hD hI).2, fun i hi => ?_⟩
  ·intro j
   induction j using Nat.strongRecOn with
   | ind j ihj =>
    intro hj
    cases hl : listed.getD j true with
    | true => rfl
    | false =>
     exfalso
     have hm : j ∈ Region.ready md ops listed := by
      refine mem_ready.2 ⟨hl, ops[j], Array.getElem?_eq_getElem hj, fun e he hb => ?_⟩
      have hlt := inOrder_spec hord (Array.getElem?_eq_getElem hj) he hb
      have := ihj e.on hlt (by omega)
      have hsz : e.on < listed.size := by omega
      simpa [hsz] using this
     rw [hr] at hm
     cases hm
  ·obtain ⟨hun, o, ho, hall2⟩ := mem_ready.1 hi
   have hio : i < ops.size := (Array.getElem?_eq_some_iff.1 ho).1
   have hok := OpsOkX.get hops (j := i) (o := o) (by rw [Array.getElem?_toList]; exact ho)
   rw [Nat.zero_add] at hok
   refine wpOp_step ho fun K' hK => hok D X w K' (by rw [← hD i hio]; exact hun) hcl hS (fun e he hb => ?_) (after_of fun e he hb => ?_) fun v w' hv hS' hT => ?_
   ·have hlt := inOrder_spec hord ho he hb
    have h1 := hall2 e he hb
    have hsz : e.on < listed.size := by omega
    rw [← hD e.on (by omega)]
    simpa [hsz] using h1
   ·have he := Array.mem_toList_iff.1 he
    have hlt := inOrder_spec hord ho he hb
    have h1 := hall2 e he hb
    refine hI e.on (by omega) ?_
    have hsz : e.on < listed.size := by omega
    simpa [hsz] using h1
   ·have hs : ∀ j, (listed.setIfInBounds i true).getD j true = if j = i then true else listed.getD j true := by
     intro j
     by_cases e : j = i
     ·subst e
      simp [hz, hio]
     ·rw [getD_set_ne true (Ne.symm e), if_neg e]
    refine hK _ _ (ih _ _ _ (upd D i) ?_ ?_ (by simp [hz]) hS' (fun j hj => ?_) (fun j hj hl => ?_))
    ·intro k ok hk hDk e he hb
     unfold upd at hDk ⊢
     by_cases e1 : e.on = i
     ·rw [if_pos e1]
     ·rw [if_neg e1]
      by_cases e2 : k = i
      ·subst e2
       rw [ho] at hk
       cases hk
       have hlt := inOrder_spec hord ho he hb
       rw [← hD e.on (by omega)]
       have h1 := hall2 e he hb
       have hsz : e.on < listed.size := by omega
       simpa [hsz] using h1
      ·rw [if_neg e2] at hDk
       exact hcl k ok hk hDk e he hb
    ·have := unl_set hio hun; omega
    ·rw [hs]; unfold upd
     by_cases e : j = i
     ·rw [if_pos e, if_pos e]
     ·rw [if_neg e, if_neg e]; exact hD j hj
    ·by_cases e : j = i
     ·subst e; rw [up_same]; exact hv
     ·rw [up_other _ _ _ _ e]
      rw [hs, if_neg e] at hl
      exact hst j _ _ _ (hI j hj hl) hT
/-- The rule: I: what each operation gives; S: what holds meanwhile; T: what each may do. -/
theorem wp_region_invX {id : Nat} {a : Act} {w : World} (I : Nat → Value → World → Prop) (S : (Nat → Bool) → (Nat → Value) → World → Prop) (T : World → World → Prop)
  (hm : P.follows .mixedOrders = true) (hord : inOrder .any ops = true) (hap : apartL ops.toList = true) (hst : ∀ j v w w', I j v w → T w w' → I j v w') (hS : ∀ X, S (fun _ => false) X w.drew)
  (hops : OpsOkX P Q .any ops (fun X => putL X 0 ops.toList a) I S T 0 ops.toList)
  (hfin : ∀ D X w', S D X w' → (∀ j, j < ops.size → D j = true) → (∀ j, j < ops.size → I j (X j) w') → Q .normal (putL X 0 ops.toList a) w') : (Code.region id ops true).wp P Q a w := by
 obtain ⟨X0, h0⟩ := putL_self a ops.toList 0
 have key : ∀ b, b = putL X0 0 ops.toList a → wpAny P .any ops Q ops.size (Array.replicate ops.size false) b w.drew := by
  intro b hb
  subst hb
  refine wpAny_invX (mk := fun X => putL X 0 ops.toList a) hord (fun i o ho => by have := putsOk.get (putsOk_putL (a := a) (n := 0) hap) (j := i) (o := o) (by rw [Array.getElem?_toList]; exact ho); rw [Nat.zero_add] at this; exact this) hst hops hfin _ _ X0 _ (fun _ => false) (fun _ _ _ h => by cases h) ?_ (by simp) (hS _) ?_ ?_
  ·unfold unl
   refine Nat.le_trans List.countP_le_length ?_
   simp
  ·intro j hj; simp [hj]
  ·intro j hj h; simp [hj] at h
 exact wp_region_any hm (key a h0)
end
theorem rgTX {p : Prop} (h : p := by
 intro D X w' K hD hcl hS hA hI hK
 simp only [afterI, Region.binds, forall_const] at hI
 simp only [putL, Act.put, List.getElem_toArray, List.setIfInBounds_toArray, List.set_cons_zero, List.set_cons_succ, Nat.reduceAdd, up, Nat.reduceEqDiff, if_true, if_false, reduceIte] at hK ⊢
 try simp only [hI] at hK
 go_simp
 exact hK.out _ _ (by first | rfl | trivial) hS (by first | trivial | exact Fr.refl _ _)
 ) : p := h
end Go.Proofs.YtfeicmpbfbhiiaaGreat
set_option linter.unusedVariables false
set_option linter.unusedSimpArgs false
namespace Go.Proofs.YtfeicmpbfbhiiaaGreat
open Go.RowKit
attribute [local go_sem ↓] Go.wp_at_zero Go.wp_at_succ
def RArc (w : World) (e : Nat) (F : List Nat) (K : Rows) (p c : Nat) : Prop := ∃ V, RV 4 155 w e F [] V (fun i => strR (K i)) [.int .i64 (p : Nat), .int .i64 (c : Nat)]
def RArcGo (w : World) (e : Nat) (F : List Nat) (K : Rows) (p c : Nat) (w' : World) : Prop := ∃ F', RArc w' e F' K p c ∧ Sub F' F w ∧ Fr F w w'
section
variable {w w' : World} {e p c : Nat} {F G : List Nat} {K : Rows}
theorem RArc.fr (h : RArc w e F K p c) (f : Fr G w w') (hd : Dis F G) : RArc w' e F K p c := by
 obtain ⟨V, h⟩ := h
 exact ⟨V, h.fr f hd⟩
theorem RArc.fr0 (h : RArc w e F K p c) (f : Fr [] w w') : RArc w' e F K p c := h.fr f (fun _ _ => by simp)
theorem RArc.lt (h : RArc w e F K p c) : Lt F w := by
 obtain ⟨V, h⟩ := h
 exact h.lt
set_option maxRecDepth 100000 in
theorem r10len (h : RArc w e F K p c) (hb : (K 0).length + (K 1).length ≤ 500000) : Calls Tryz.prog 179 #[ptr e] w fun en w' => en = .returned (.int .i64 ((K 0).length + (K 1).length : Nat)) ∧ ∃ m, w' = w.drewN m := by
 obtain ⟨V, h⟩ := h
 obtain ⟨a0, n0, c0, a1, n1, c1, a2, n2, c2, a3, n3, c3, hn0, hn1, hn2, hn3, h⟩ := h.lit (by decide)
 have k0 := h.k (i := 0) (by decide)
 have k1 := h.k (i := 1) (by decide)
 simp only [V4] at k0 k1 hn0 hn1
 rw [hn0, hn1] at hb ⊢
 clear h hn0 hn1 hn2 hn3
 go_enter Tryz.func179, Tryz.ntmps179
 go_wp2
 go_quiet (fail)
 go_wp2
 go_ret
 exact ⟨rfl, _, rfl⟩
set_option maxRecDepth 100000 in
theorem r10has (h : RArc w e F K p c) (hb : ∀ i, (K i).length ≤ 100000) (key : ByteArray) : Calls Tryz.prog 170 #[ptr e, .string key] w fun en w' => en = .returned (.bool (decide (key ∈ K 0 ∨ key ∈ K 1))) ∧ w' = w := by
 obtain ⟨V, h⟩ := h
 obtain ⟨a0, n0, c0, a1, n1, c1, a2, n2, c2, a3, n3, c3, hn0, hn1, hn2, hn3, h⟩ := h.lit (by decide)
 have HC0 := Lib.hid (fhasA (h.s 0 (by decide)) (Nat.le_trans (hb 0) (by decide)) key)
 have HC1 := Lib.hid (fhasA (h.s 1 (by decide)) (Nat.le_trans (hb 1) (by decide)) key)
 have k0 := h.k (i := 0) (by decide)
 have k1 := h.k (i := 1) (by decide)
 simp only [V4] at k0 k1 HC0 HC1
 have m0 := rhas_mem (l := K 0) (key := key)
 have m1 := rhas_mem (l := K 1) (key := key)
 obtain ⟨r0, hr0⟩ : ∃ r, rhas (K 0) key = r := ⟨_, rfl⟩
 obtain ⟨r1, hr1⟩ : ∃ r, rhas (K 1) key = r := ⟨_, rfl⟩
 rw [hr0] at HC0 m0
 rw [hr1] at HC1 m1
 clear h hn0 hn1 hn2 hn3 hr0 hr1
 have hd : decide (key ∈ K 0 ∨ key ∈ K 1) = decide (0 ≤ r0 ∨ 0 ≤ r1) := by rw [decide_eq_decide, m0, m1]
 rw [hd]
 clear hd m0 m1
 by_cases q0 : 0 ≤ r0
 ·have b0 : decide (0 ≤ r0) = true := decide_eq_true q0
  have b : decide (0 ≤ r0 ∨ 0 ≤ r1) = true := decide_eq_true (.inl q0)
  rw [b]
  clear b
  go_enter Tryz.func170, Tryz.ntmps170
  go_wp2_with fail
  refine HC0.out.mono ?_
  rintro en w1 ⟨rfl, rfl⟩
  go_wp2
  go_ret
  exact ⟨rfl, rfl⟩
 ·have b0 : decide (0 ≤ r0) = false := decide_eq_false q0
  have q0' : r0 < 0 := by omega
  have b : decide (0 ≤ r0 ∨ 0 ≤ r1) = decide (0 ≤ r1) := by simp [q0]
  rw [b]
  clear b
  go_enter Tryz.func170, Tryz.ntmps170
  go_wp2_with fail
  refine HC0.out.mono ?_
  rintro en w1 ⟨rfl, rfl⟩
  go_wp2_with fail
  refine HC1.out.mono ?_
  rintro en w1 ⟨rfl, rfl⟩
  go_wp2
  go_ret
  exact ⟨rfl, rfl⟩
theorem RG.arc {V : Nat → Value} {X : Nat → RowD} {K' : Rows} {p c : Nat} (h : RG 4 155 w e F [] V X [.int .i64 (p : Nat), .int .i64 (c : Nat)] w') (hX : X = fun i => strR (K' i)) : RArcGo w e F K' p c w' := by
 obtain ⟨F', h1, h2, h3⟩ := h
 subst hX
 exact ⟨F', ⟨V, h1⟩, h2, h3⟩
/-- Keys that went, in new memory, and the engine behind it. -/
def LRA (w : World) (e : Nat) (F : List Nat) (l : List ByteArray) (K : Rows) (p c : Nat) (en : Ending) (w' : World) : Prop := ∃ v F', en = .returned v ∧ Gone w w' v l ∧ RArc w' e F' K p c ∧ Sub F' F w ∧ Fr F w w' ∧ Dis v.ownBlock.toList F'
theorem LRA.nil (h : RArc w e F K p c) (f : Fr [] w w') : LRA w e F [] K p c (.returned (.slice none 0 0)) w' := ⟨_, F, rfl, Gone.nil _ _, h.fr0 f, Sub.refl _ _, f.nil, by intro b hb; simp [Value.ownBlock] at hb⟩
theorem LRA.one {w0 w2 : World} (f : Fr [] w0 w) (h : RArcGo w e F K p c w2) (k : ByteArray) : LRA w0 e F [k] K p c (.returned (.slice (some ⟨w2.heap.size, 0, none⟩) 1 1)) (w2.alloc (.cells #[.string k] 9)) := by
 obtain ⟨F', h1, h2, h3⟩ := h
 have hl := h1.lt
 refine ⟨_, F', rfl, Gone.one _ _ (Nat.le_trans f.size h3.size) _ _ rfl, h1.fr0 ((Fr.refl [] _).alloc _), h2.old f.size, (f.nil.same h3).alloc _, ?_⟩
 intro q hq hf
 simp [Value.ownBlock] at hq
 have := hl q hf
 omega
end
end Go.Proofs.YtfeicmpbfbhiiaaGreat
