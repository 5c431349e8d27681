/- slices.Sorted(maps.Keys(m)) at int keys, as a callee by contract. -/
import Derived.Test.YtkmabheddbbndaaDoorXWal1
namespace Go.Xec
open Go.Proofs Go.RowKit Go.Maps Go.Sort Go.Shelf

def insI (a : Int) : List Int → List Int
  | [] => [a]
  | b :: l => match decide (a ≤ b) with
    | true => a :: b :: l
    | false => b :: insI a l
def sortI : List Int → List Int
  | [] => []
  | a :: l => insI a (sortI l)

theorem insI_perm (a : Int) : ∀ l : List Int, (insI a l).Perm (a :: l)
  | [] => List.Perm.refl _
  | b :: l => by
    unfold insI
    split
    · exact List.Perm.refl _
    · exact ((insI_perm a l).cons b).trans (List.Perm.swap a b l)
theorem sortI_perm : ∀ l : List Int, (sortI l).Perm l
  | [] => List.Perm.refl _
  | a :: l => (insI_perm a (sortI l)).trans ((sortI_perm l).cons a)
theorem insI_sorted (a : Int) : ∀ l : List Int, l.Pairwise (fun x y => leI x y = true) → (insI a l).Pairwise (fun x y => leI x y = true)
  | [], _ => by simp [insI]
  | b :: l, h => by
    unfold insI
    rw [List.pairwise_cons] at h
    split
    · rename_i hab
      have hab' : a ≤ b := of_decide_eq_true hab
      refine List.pairwise_cons.2 ⟨fun x hx => ?_, List.pairwise_cons.2 h⟩
      rcases List.mem_cons.1 hx with rfl | hx
      · simpa [leI] using hab'
      · have := h.1 x hx
        simp only [leI, decide_eq_true_eq] at this ⊢; omega
    · rename_i hab
      have hab' : ¬ a ≤ b := of_decide_eq_false hab
      refine List.pairwise_cons.2 ⟨fun x hx => ?_, insI_sorted a l h.2⟩
      rcases List.mem_cons.1 ((insI_perm a l).mem_iff.1 hx) with rfl | hx
      · simp only [leI, decide_eq_true_eq]; omega
      · exact h.1 x hx
theorem sortI_sorted : ∀ l : List Int, (sortI l).Pairwise (fun x y => leI x y = true)
  | [] => List.Pairwise.nil
  | a :: l => insI_sorted a _ (sortI_sorted l)
theorem sortI_eq (l : List Int) : l.mergeSort leI = sortI l := by
  have tr : ∀ a b c : Int, leI a b = true → leI b c = true → leI a c = true := fun a b c h1 h2 => by simp only [leI, decide_eq_true_eq] at *; exact Int.le_trans h1 h2
  have to : ∀ a b : Int, (leI a b || leI b a) = true := fun a b => by simp only [leI, Bool.or_eq_true, decide_eq_true_eq]; exact Int.le_total a b
  refine List.Perm.eq_of_pairwise (le := fun a b => leI a b = true) (fun a b _ _ h1 h2 => ?_) (List.pairwise_mergeSort tr to l) (sortI_sorted l) ((List.mergeSort_perm l leI).trans (sortI_perm l).symm)
  simp only [leI, decide_eq_true_eq] at h1 h2
  exact Int.le_antisymm h1 h2

def keysI : List (AV × AV × Nat) → Option (List Int)
  | [] => some []
  | e :: es => match e.1, keysI es with
    | .int .i64 n, some l => some (n :: l)
    | _, _ => none

def nodupI : List Int → Bool
  | [] => true
  | a :: l => !l.contains a && nodupI l
def nodupN : List Nat → Bool
  | [] => true
  | a :: l => !l.contains a && nodupN l
theorem nodupI_ok : ∀ {l : List Int}, nodupI l = true → l.Nodup
  | [], _ => List.nodup_nil
  | a :: l, h => by
    simp only [nodupI, Bool.and_eq_true, Bool.not_eq_true', List.contains_eq_mem, decide_eq_false_iff_not] at h
    exact List.nodup_cons.2 ⟨h.1, nodupI_ok h.2⟩
theorem nodupN_ok : ∀ {l : List Nat}, nodupN l = true → l.Nodup
  | [], _ => List.nodup_nil
  | a :: l, h => by
    simp only [nodupN, Bool.and_eq_true, Bool.not_eq_true', List.contains_eq_mem, decide_eq_false_iff_not] at h
    exact List.nodup_cons.2 ⟨h.1, nodupN_ok h.2⟩

/-- What is asked of the map's entries. -/
def mapOkI (es : List (AV × AV × Nat)) (clock : Nat) (ks : List Int) : Bool :=
  Nat.ble es.length 1000000 && es.all (fun e => Nat.blt e.2.2 clock) && nodupN (es.map (·.2.2)) && nodupI ks && ks.all (fun k => (Lit.int .i64 k).wf)

noncomputable def sortedA (st : St) (ks : List Int) : AV × St := match ks with
  | [] => (.nils, st)
  | _ => (.sl st.nxt 0 ks.length ks.length 1, ⟨st.heap.set st.nxt (blkOf ((sortI ks).map (AV.int .i64))), st.nxt + 1⟩)

noncomputable def extSort : Callee := fun f args st => match Nat.beq f 36 with
  | true => match args with
    | [.fn (.func g) [] [.ptr β 0]] => match Nat.beq g 49 with
      | true => match st.heap.get β with
        | some (.cells (_ + 1) cs) => match cs.get 0 with
          | some (.mp γ) => match st.heap.get γ with
            | some (.map es clock) => match keysI es with
              | some ks => match mapOkI es clock ks with
                | true => some (sortedA st ks)
                | false => none
              | none => none
            | _ => none
          | _ => none
        | _ => none
      | false => none
    | _ => none
  | false => none

/-- A row that lies in the world already, and that no name stands for, gets a name. -/
theorem HInv.adopt {F : Nat → Prop} {w0 w : World} {μ : Mu} {h : Nat → Option ABlk} (k : HInv F w0 μ h w) {nm g : Nat} (hn : μ nm = none) {b : ABlk} {o : Obj} {ex : Nat} (hg : w.heap[g]? = some o) (hb : BR (μ.put nm (g, 0) ex) b o 0 ex)
    (hF : ¬ F g) (hno : ∀ β c r base, h β = some c → μ β = some (r, base) → r ≠ g) : HInv F w0 (μ.put nm (g, 0) ex) (fun β => if β = nm then some b else h β) w := by
  have hle := Mu.le_put (p := (g, 0)) (e := ex) hn
  refine ⟨?_, ?_, k.frame, k.fsz, k.size, k.os, k.tape, k.output⟩
  · intro β c hc
    by_cases e : β = nm
    · subst e
      simp only [if_true] at hc
      injection hc with hc; subst hc
      exact ⟨g, 0, o, Mu.put_at _ _ _ _, hg, by rw [Mu.put_ext]; exact hb, ABlk.own_of hF _⟩
    · simp only [e, if_false] at hc
      obtain ⟨r, base, o', h1, h2, h3, h4⟩ := k.blk β c hc
      exact ⟨r, base, o', (hle _ _ h1).1, h2, by rw [(hle _ _ h1).2]; exact BR_mono hle h3, h4⟩
  · intro β γ r base base' e1 e2 hβ hγ
    by_cases eβ : β = nm <;> by_cases eγ : γ = nm
    · rw [eβ, eγ]
    · exfalso
      simp only [eγ, if_false] at e2
      obtain ⟨c, hc⟩ := Option.isSome_iff_exists.1 e2
      obtain ⟨r', base2, o', h1, _⟩ := k.blk γ c hc
      rw [Mu.put_other _ _ _ eγ] at hγ
      rw [eβ, Mu.put_at] at hβ
      injection hβ with hβ; simp only [Prod.mk.injEq] at hβ
      exact hno γ c r base' hc hγ hβ.1.symm
    · exfalso
      simp only [eβ, if_false] at e1
      obtain ⟨c, hc⟩ := Option.isSome_iff_exists.1 e1
      rw [Mu.put_other _ _ _ eβ] at hβ
      rw [eγ, Mu.put_at] at hγ
      injection hγ with hγ; simp only [Prod.mk.injEq] at hγ
      exact hno β c r base hc hβ hγ.1.symm
    · simp only [eβ, if_false] at e1
      simp only [eγ, if_false] at e2
      rw [Mu.put_other _ _ _ eβ] at hβ
      rw [Mu.put_other _ _ _ eγ] at hγ
      exact k.inj β γ r base base' e1 e2 hβ hγ
end Go.Xec
