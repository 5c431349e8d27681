/- What the abstract executor's values and heap stand for in the model's world, with the small lemmas on them. -/
import Derived.Test.YtkmabheddbbndaaDoorXa
namespace Go.Xec

section trie
variable {α : Type}
theorem T.get_nil (n : Nat) : (T.nil : T α).get n = none := rfl
theorem T.get_zero (v : Option α) (l r : T α) : (T.node v l r).get 0 = v := rfl
theorem T.get_even (v : Option α) (l r : T α) (m : Nat) (h : m % 2 = 0) : (T.node v l r).get (m + 1) = l.get (m / 2) := by
  show Nat.rec (motive := fun _ => Option α) (l.get (m / 2)) (fun _ _ => r.get (m / 2)) (m % 2) = _
  rw [h]; rfl
theorem T.get_odd (v : Option α) (l r : T α) (m : Nat) (h : m % 2 ≠ 0) : (T.node v l r).get (m + 1) = r.get (m / 2) := by
  show Nat.rec (motive := fun _ => Option α) (l.get (m / 2)) (fun _ _ => r.get (m / 2)) (m % 2) = _
  obtain ⟨k, hk⟩ : ∃ k, m % 2 = k + 1 := ⟨m % 2 - 1, by omega⟩
  rw [hk]
theorem T.put_nil_zero (x : Option α) (f : Nat) : T.put x (f + 1) .nil 0 = .node x .nil .nil := rfl
theorem T.put_node_zero (x : Option α) (f : Nat) (v : Option α) (l r : T α) : T.put x (f + 1) (.node v l r) 0 = .node x l r := rfl
theorem T.put_nil_even (x : Option α) (f m : Nat) (h : m % 2 = 0) : T.put x (f + 1) .nil (m + 1) = .node none (T.put x f .nil (m / 2)) .nil := by
  show Nat.rec (motive := fun _ => T α) (T.node none (T.put x f .nil (m / 2)) .nil) (fun _ _ => T.node none .nil (T.put x f .nil (m / 2))) (m % 2) = _
  rw [h]; rfl
theorem T.put_nil_odd (x : Option α) (f m : Nat) (h : m % 2 ≠ 0) : T.put x (f + 1) .nil (m + 1) = .node none .nil (T.put x f .nil (m / 2)) := by
  show Nat.rec (motive := fun _ => T α) (T.node none (T.put x f .nil (m / 2)) .nil) (fun _ _ => T.node none .nil (T.put x f .nil (m / 2))) (m % 2) = _
  obtain ⟨k, hk⟩ : ∃ k, m % 2 = k + 1 := ⟨m % 2 - 1, by omega⟩
  rw [hk]
theorem T.put_node_even (x : Option α) (f m : Nat) (v : Option α) (l r : T α) (h : m % 2 = 0) : T.put x (f + 1) (.node v l r) (m + 1) = .node v (T.put x f l (m / 2)) r := by
  show Nat.rec (motive := fun _ => T α) (T.node v (T.put x f l (m / 2)) r) (fun _ _ => T.node v l (T.put x f r (m / 2))) (m % 2) = _
  rw [h]; rfl
theorem T.put_node_odd (x : Option α) (f m : Nat) (v : Option α) (l r : T α) (h : m % 2 ≠ 0) : T.put x (f + 1) (.node v l r) (m + 1) = .node v l (T.put x f r (m / 2)) := by
  show Nat.rec (motive := fun _ => T α) (T.node v (T.put x f l (m / 2)) r) (fun _ _ => T.node v l (T.put x f r (m / 2))) (m % 2) = _
  obtain ⟨k, hk⟩ : ∃ k, m % 2 = k + 1 := ⟨m % 2 - 1, by omega⟩
  rw [hk]

theorem T.get_put (x : Option α) : ∀ (f : Nat) (t : T α) (n m : Nat), n < f → (T.put x f t n).get m = if m = n then x else t.get m := by
  intro f
  induction f with
  | zero => intro t n m h; omega
  | succ f ih =>
    intro t n m h
    cases n with
    | zero =>
      cases t with
      | nil =>
        rw [T.put_nil_zero]
        cases m with
        | zero => rfl
        | succ m =>
          rw [if_neg (by omega), T.get_nil]
          by_cases hm : m % 2 = 0
          · rw [T.get_even _ _ _ _ hm, T.get_nil]
          · rw [T.get_odd _ _ _ _ hm, T.get_nil]
      | node v l r =>
        rw [T.put_node_zero]
        cases m with
        | zero => rfl
        | succ m =>
          rw [if_neg (by omega)]
          by_cases hm : m % 2 = 0
          · rw [T.get_even _ _ _ _ hm, T.get_even _ _ _ _ hm]
          · rw [T.get_odd _ _ _ _ hm, T.get_odd _ _ _ _ hm]
    | succ n =>
      have hf : n / 2 < f := by omega
      cases m with
      | zero =>
        rw [if_neg (by omega)]
        cases t <;> by_cases hn : n % 2 = 0 <;> simp only [T.put_nil_even, T.put_nil_odd, T.put_node_even, T.put_node_odd, T.get_zero, T.get_nil, hn, ne_eq, not_false_eq_true]
      | succ m =>
        cases t with
        | nil =>
          by_cases hn : n % 2 = 0
          · rw [T.put_nil_even _ _ _ hn]
            by_cases hm : m % 2 = 0
            · rw [T.get_even _ _ _ _ hm, ih _ _ _ hf]
              by_cases e : m / 2 = n / 2
              · rw [if_pos e, if_pos (by omega)]
              · rw [if_neg e, if_neg (by omega), T.get_nil, T.get_nil]
            · rw [T.get_odd _ _ _ _ hm, if_neg (by omega), T.get_nil, T.get_nil]
          · rw [T.put_nil_odd _ _ _ hn]
            by_cases hm : m % 2 = 0
            · rw [T.get_even _ _ _ _ hm, if_neg (by omega), T.get_nil, T.get_nil]
            · rw [T.get_odd _ _ _ _ hm, ih _ _ _ hf]
              by_cases e : m / 2 = n / 2
              · rw [if_pos e, if_pos (by omega)]
              · rw [if_neg e, if_neg (by omega), T.get_nil, T.get_nil]
        | node v l r =>
          by_cases hn : n % 2 = 0
          · rw [T.put_node_even _ _ _ _ _ _ hn]
            by_cases hm : m % 2 = 0
            · rw [T.get_even _ _ _ _ hm, T.get_even _ _ _ _ hm, ih _ _ _ hf]
              by_cases e : m / 2 = n / 2
              · rw [if_pos e, if_pos (by omega)]
              · rw [if_neg e, if_neg (by omega)]
            · rw [T.get_odd _ _ _ _ hm, T.get_odd _ _ _ _ hm, if_neg (by omega)]
          · rw [T.put_node_odd _ _ _ _ _ _ hn]
            by_cases hm : m % 2 = 0
            · rw [T.get_even _ _ _ _ hm, T.get_even _ _ _ _ hm, if_neg (by omega)]
            · rw [T.get_odd _ _ _ _ hm, T.get_odd _ _ _ _ hm, ih _ _ _ hf]
              by_cases e : m / 2 = n / 2
              · rw [if_pos e, if_pos (by omega)]
              · rw [if_neg e, if_neg (by omega)]

theorem T.get_set (t : T α) (n m : Nat) (x : α) : (t.set n x).get m = if m = n then some x else t.get m := T.get_put _ _ _ _ _ (by omega)
theorem T.get_del (t : T α) (n m : Nat) : (t.del n).get m = if m = n then none else t.get m := T.get_put _ _ _ _ _ (by omega)
end trie

/-- Where a name lies: the block, and the place in it that is the name's first; and how many cells there are from there on. -/
structure Mu where
  pl : Nat → Option (Nat × Nat)
  ext : Nat → Nat

instance : CoeFun Mu (fun _ => Nat → Option (Nat × Nat)) := ⟨Mu.pl⟩

mutual
def VR (μ : Mu) : AV → Value → Prop
  | .bool b, v => v = .bool b
  | .int k n, v => v = .int k n
  | .str s, v => v = .string ⟨⟨s⟩⟩
  | .nilp, v => v = .pointer none
  | .ptr β o, v => ∃ b base, μ β = some (b, base) ∧ v = .pointer (some ⟨b, base + o, none⟩)
  | .nils, v => v = .slice none 0 0
  | .sl β o n c z, v => ∃ b base c', μ β = some (b, base) ∧ c ≤ c' ∧ n ≤ c ∧ o + c' * z ≤ μ.ext β ∧ v = .slice (some ⟨b, base + o, none⟩) n c'
  | .sle, v => ∃ a c', v = .slice (some a) 0 c'
  | .nilm, v => v = .map none
  | .mp β, v => ∃ b, μ β = some (b, 0) ∧ v = .map (some b)
  | .fn f a c, v => ∃ a' c', v = .func f a' c' ∧ VRs μ a a'.toList ∧ VRs μ c c'.toList
  | .nilf, v => v = .nilFunc
  | .ifc t x, v => ∃ x', v = .iface t x' ∧ VR μ x x'
  | .nili, v => v = .nilIface
  | .agg cs, v => ∃ cs', v = .agg cs' ∧ VRs μ cs cs'.toList
  | .tup cs, v => ∃ cs', v = .tuple cs' ∧ VRs μ cs cs'.toList
  | .hnd a, v => v = .pointer (some a)
def VRs (μ : Mu) : List AV → List Value → Prop
  | [], l => l = []
  | a :: as, l => ∃ v vs, l = v :: vs ∧ VR μ a v ∧ VRs μ as vs
end

def Mu.le (μ μ' : Mu) : Prop := ∀ β p, μ β = some p → μ' β = some p ∧ μ'.ext β = μ.ext β
theorem Mu.le_refl (μ : Mu) : μ.le μ := fun _ _ h => ⟨h, rfl⟩
theorem Mu.le_trans {a b c : Mu} (h : a.le b) (k : b.le c) : a.le c := fun β p e => ⟨(k β p (h β p e).1).1, ((k β p (h β p e).1).2).trans (h β p e).2⟩

mutual
theorem VR_mono {μ μ' : Mu} (h : μ.le μ') : ∀ (a : AV) (v : Value), VR μ a v → VR μ' a v
  | .bool _, _, e => e
  | .int _ _, _, e => e
  | .str _, _, e => e
  | .nilp, _, e => e
  | .ptr _ _, _, ⟨b, base, e, r⟩ => ⟨b, base, (h _ _ e).1, r⟩
  | .nils, _, e => e
  | .sl _ _ _ _ _, _, ⟨b, base, c', e, r, s, t, u⟩ => ⟨b, base, c', (h _ _ e).1, r, s, by rw [(h _ _ e).2]; exact t, u⟩
  | .sle, _, e => e
  | .nilm, _, e => e
  | .mp _, _, ⟨b, e, r⟩ => ⟨b, (h _ _ e).1, r⟩
  | .fn _ a c, _, ⟨a', c', e, r, s⟩ => ⟨a', c', e, VRs_mono h a _ r, VRs_mono h c _ s⟩
  | .nilf, _, e => e
  | .ifc _ x, _, ⟨x', e, r⟩ => ⟨x', e, VR_mono h x _ r⟩
  | .nili, _, e => e
  | .agg cs, _, ⟨cs', e, r⟩ => ⟨cs', e, VRs_mono h cs _ r⟩
  | .tup cs, _, ⟨cs', e, r⟩ => ⟨cs', e, VRs_mono h cs _ r⟩
  | .hnd _, _, e => e
theorem VRs_mono {μ μ' : Mu} (h : μ.le μ') : ∀ (a : List AV) (v : List Value), VRs μ a v → VRs μ' a v
  | [], _, e => e
  | a :: as, _, ⟨v, vs, e, r, s⟩ => ⟨v, vs, e, VR_mono h a v r, VRs_mono h as vs s⟩
end

mutual
theorem AV.eq_of_beq : ∀ (a b : AV), AV.beq a b = true → a = b
  | .bool a, b, h => by cases b <;> simp_all [AV.beq]
  | .int k a, b, h => by cases b <;> simp_all [AV.beq]
  | .str a, b, h => by cases b <;> simp_all [AV.beq]
  | .nilp, b, h => by cases b <;> simp_all [AV.beq]
  | .ptr _ _, b, h => by cases b <;> simp_all [AV.beq]
  | .nils, b, h => by cases b <;> simp_all [AV.beq]
  | .sl _ _ _ _ _, b, h => by cases b <;> simp_all [AV.beq]
  | .sle, b, h => by cases b <;> simp_all [AV.beq]
  | .nilm, b, h => by cases b <;> simp_all [AV.beq]
  | .mp _, b, h => by cases b <;> simp_all [AV.beq]
  | .fn f a c, b, h => by
    cases b with
    | fn g x y =>
      simp only [AV.beq, Bool.and_eq_true, decide_eq_true_eq] at h
      rw [h.1.1, AV.eq_of_beqs a x h.1.2, AV.eq_of_beqs c y h.2]
    | _ => simp [AV.beq] at h
  | .nilf, b, h => by cases b <;> simp_all [AV.beq]
  | .ifc t v, b, h => by
    cases b with
    | ifc u x =>
      simp only [AV.beq, Bool.and_eq_true, Nat.beq_eq] at h
      rw [h.1, AV.eq_of_beq v x h.2]
    | _ => simp [AV.beq] at h
  | .nili, b, h => by cases b <;> simp_all [AV.beq]
  | .agg a, b, h => by
    cases b with
    | agg x => simp only [AV.beq] at h; rw [AV.eq_of_beqs a x h]
    | _ => simp [AV.beq] at h
  | .tup a, b, h => by
    cases b with
    | tup x => simp only [AV.beq] at h; rw [AV.eq_of_beqs a x h]
    | _ => simp [AV.beq] at h
  | .hnd a, b, h => by cases b <;> simp_all [AV.beq]
theorem AV.eq_of_beqs : ∀ (a b : List AV), AV.beqs a b = true → a = b
  | [], b, h => by cases b <;> simp_all [AV.beqs]
  | a :: as, b, h => by
    cases b with
    | nil => simp [AV.beqs] at h
    | cons b bs =>
      simp only [AV.beqs, Bool.and_eq_true] at h
      rw [AV.eq_of_beq a b h.1, AV.eq_of_beqs as bs h.2]
end

theorem VRs_nil {μ : Mu} {l : List Value} : VRs μ [] l ↔ l = [] := by simp [VRs]
theorem VRs_cons {μ : Mu} {a : AV} {as : List AV} {l : List Value} : VRs μ (a :: as) l ↔ ∃ v vs, l = v :: vs ∧ VR μ a v ∧ VRs μ as vs := by simp [VRs]
theorem VRs_cons_cons {μ : Mu} {a : AV} {as : List AV} {v : Value} {l : List Value} : VRs μ (a :: as) (v :: l) ↔ VR μ a v ∧ VRs μ as l := by
  rw [VRs_cons]
  constructor
  · rintro ⟨v', vs', e, h1, h2⟩
    injection e with e1 e2
    subst e1; subst e2
    exact ⟨h1, h2⟩
  · rintro ⟨h1, h2⟩; exact ⟨v, l, rfl, h1, h2⟩
theorem VRs_nil_cons {μ : Mu} {v : Value} {l : List Value} : ¬ VRs μ [] (v :: l) := by simp [VRs]
theorem VRs_cons_nil {μ : Mu} {a : AV} {l : List AV} : ¬ VRs μ (a :: l) [] := by simp [VRs]

theorem VRs_length {μ : Mu} : ∀ {a : List AV} {l : List Value}, VRs μ a l → a.length = l.length
  | [], l, h => by rw [VRs_nil] at h; subst h; rfl
  | a :: as, l, h => by
    obtain ⟨v, vs, rfl, _, h⟩ := VRs_cons.1 h
    simp [VRs_length h]

theorem VRs_append {μ : Mu} : ∀ {a b : List AV} {l m : List Value}, VRs μ a l → VRs μ b m → VRs μ (a ++ b) (l ++ m)
  | [], _, l, _, h, k => by rw [VRs_nil] at h; subst h; exact k
  | a :: as, b, l, m, h, k => by
    obtain ⟨v, vs, rfl, h1, h⟩ := VRs_cons.1 h
    exact VRs_cons_cons.2 ⟨h1, VRs_append h k⟩

theorem VRs_get {μ : Mu} : ∀ {a : List AV} {l : List Value}, VRs μ a l → ∀ (i : Nat) (x : AV), a[i]? = some x → ∃ v, l[i]? = some v ∧ VR μ x v
  | [], _, _, i, x, e => by simp at e
  | a :: as, l, h, i, x, e => by
    obtain ⟨v, vs, rfl, h1, h⟩ := VRs_cons.1 h
    cases i with
    | zero => simp at e; subst e; exact ⟨v, rfl, h1⟩
    | succ i =>
      simp at e
      obtain ⟨u, hu, hr⟩ := VRs_get h i x e
      exact ⟨u, by simpa using hu, hr⟩

theorem VRs_of_get {μ : Mu} : ∀ {a : List AV} {l : List Value}, a.length = l.length → (∀ (i : Nat) (x : AV) (v : Value), a[i]? = some x → l[i]? = some v → VR μ x v) → VRs μ a l
  | [], l, e, _ => by
    cases l with
    | nil => exact VRs_nil.2 rfl
    | cons _ _ => simp at e
  | a :: as, l, e, h => by
    cases l with
    | nil => simp at e
    | cons v vs =>
      refine VRs_cons_cons.2 ⟨h 0 a v rfl rfl, VRs_of_get (by simpa using e) fun i x u hx hu => h (i + 1) x u (by simpa using hx) (by simpa using hu)⟩

theorem VRs_take {μ : Mu} {a : List AV} {l : List Value} (h : VRs μ a l) (n : Nat) : VRs μ (a.take n) (l.take n) := by
  refine VRs_of_get (by simp [VRs_length h]) fun i x v hx hv => ?_
  rw [List.getElem?_take] at hx hv
  split at hx
  · rename_i hi
    rw [if_pos hi] at hv
    obtain ⟨u, hu, hr⟩ := VRs_get h i x hx
    rw [hu] at hv; injection hv with hv; subst hv; exact hr
  · simp at hx

theorem VRs_drop {μ : Mu} {a : List AV} {l : List Value} (h : VRs μ a l) (n : Nat) : VRs μ (a.drop n) (l.drop n) := by
  refine VRs_of_get (by simp [VRs_length h]) fun i x v hx hv => ?_
  rw [List.getElem?_drop] at hx hv
  obtain ⟨u, hu, hr⟩ := VRs_get h _ x hx
  rw [hu] at hv; injection hv with hv; subst hv; exact hr

theorem VRs_map {μ : Mu} {α : Type} (f : α → AV) (g : α → Value) (h : ∀ x, VR μ (f x) (g x)) : ∀ l : List α, VRs μ (l.map f) (l.map g)
  | [] => VRs_nil.2 rfl
  | x :: l => VRs_cons_cons.2 ⟨h x, VRs_map f g h l⟩

/-- The value of a Go text in the model. -/
theorem VR_str {μ : Mu} {s : ByteArray} : VR μ (.str s.data.toList) (.string s) := by
  show Value.string s = .string ⟨⟨s.data.toList⟩⟩
  rfl

theorem VR_undef {μ : Mu} : VR μ .undef Go.undef := ⟨#[], rfl, VRs_nil.2 rfl⟩

theorem VR_cells {μ : Mu} {a : AV} {v : Value} (h : VR μ a v) : VRs μ a.cells v.cells.toList := by
  cases a with
  | agg cs => obtain ⟨cs', rfl, h⟩ := h; exact h
  | fn f a c => obtain ⟨a', c', rfl, h1, h2⟩ := h; exact VRs_cons_cons.2 ⟨⟨a', c', rfl, h1, h2⟩, VRs_nil.2 rfl⟩
  | ifc t x => obtain ⟨x', rfl, h⟩ := h; exact VRs_cons_cons.2 ⟨⟨x', rfl, h⟩, VRs_nil.2 rfl⟩
  | tup cs => obtain ⟨cs', rfl, h⟩ := h; exact VRs_cons_cons.2 ⟨⟨cs', rfl, h⟩, VRs_nil.2 rfl⟩
  | ptr β o => obtain ⟨b, base, hm, rfl⟩ := h; exact VRs_cons_cons.2 ⟨⟨b, base, hm, rfl⟩, VRs_nil.2 rfl⟩
  | sl β o n c z => obtain ⟨b, base, c', hm, hc, hn, he, rfl⟩ := h; exact VRs_cons_cons.2 ⟨⟨b, base, c', hm, hc, hn, he, rfl⟩, VRs_nil.2 rfl⟩
  | sle => obtain ⟨b, c', rfl⟩ := h; exact VRs_cons_cons.2 ⟨⟨b, c', rfl⟩, VRs_nil.2 rfl⟩
  | mp β => obtain ⟨b, hm, rfl⟩ := h; exact VRs_cons_cons.2 ⟨⟨b, hm, rfl⟩, VRs_nil.2 rfl⟩
  | _ => (have h' : _ = _ := h); subst h'; exact VRs_cons_cons.2 ⟨rfl, VRs_nil.2 rfl⟩

theorem VR_one {μ : Mu} {a : AV} {v : Value} (h : VR μ a v) (ho : a.one = true) : v.oneCell' = true := by
  cases a with
  | agg cs => simp [AV.one] at ho
  | tup cs => simp [AV.one] at ho
  | fn f a c => obtain ⟨a', c', rfl, h1, h2⟩ := h; rfl
  | ifc t x => obtain ⟨x', rfl, h⟩ := h; rfl
  | ptr β o => obtain ⟨b, base, hm, rfl⟩ := h; rfl
  | sl β o n c z => obtain ⟨b, base, c', hm, hc, hn, he, rfl⟩ := h; rfl
  | sle => obtain ⟨b, c', rfl⟩ := h; rfl
  | mp β => obtain ⟨b, hm, rfl⟩ := h; rfl
  | _ => (have h' : _ = _ := h); subst h'; rfl

theorem absL_sound {μ : Mu} {f : Value → Option AV} (h : ∀ v a, f v = some a → VR μ a v) : ∀ (l : List Value) (as : List AV), absL f l = some as → VRs μ as l
  | [], as, e => by simp only [absL] at e; injection e with e; subst e; exact VRs_nil.2 rfl
  | v :: vs, as, e => by
    simp only [absL] at e
    split at e
    · rename_i x l hx hl
      injection e with e; subst e
      exact VRs_cons_cons.2 ⟨h v x hx, absL_sound h vs l hl⟩
    · cases e

theorem absV_sound {μ : Mu} : ∀ (n : Nat) (v : Value) (a : AV), absV n v = some a → VR μ a v
  | 0, _, _, h => by simp [absV] at h
  | n + 1, v, a, h => by
    cases v with
    | bool b => simp [absV] at h; subst h; rfl
    | int k i => simp [absV] at h; subst h; rfl
    | string s => simp [absV] at h; subst h; exact VR_str
    | pointer p => cases p <;> simp [absV] at h; subst h; rfl
    | slice p l c =>
      cases p with
      | some p => simp [absV] at h
      | none => cases l <;> cases c <;> simp [absV] at h; subst h; rfl
    | map p => cases p <;> simp [absV] at h; subst h; rfl
    | nilFunc => simp [absV] at h; subst h; rfl
    | nilIface => simp [absV] at h; subst h; rfl
    | agg cs =>
      simp only [absV] at h
      split at h
      · rename_i l hl; injection h with h; subst h; exact ⟨cs, rfl, absL_sound (absV_sound n) _ _ hl⟩
      · cases h
    | tuple cs =>
      simp only [absV] at h
      split at h
      · rename_i l hl; injection h with h; subst h; exact ⟨cs, rfl, absL_sound (absV_sound n) _ _ hl⟩
      · cases h
    | _ => simp [absV] at h

/-- Entries of maps. -/
def ERs (μ : Mu) : List (AV × AV × Nat) → List MapEntry → Prop
  | [], l => l = []
  | e :: es, l => ∃ e' es', l = e' :: es' ∧ VR μ e.1 e'.key ∧ VR μ e.2.1 e'.val ∧ e.2.2 = e'.born ∧ ERs μ es es'

theorem ERs_mono {μ μ' : Mu} (h : μ.le μ') : ∀ (a : List (AV × AV × Nat)) (l : List MapEntry), ERs μ a l → ERs μ' a l
  | [], _, e => e
  | _ :: as, _, ⟨e', es', r, h1, h2, h3, h4⟩ => ⟨e', es', r, VR_mono h _ _ h1, VR_mono h _ _ h2, h3, ERs_mono h as _ h4⟩

def BR (μ : Mu) (b : ABlk) (o : Obj) (base ext : Nat) : Prop := match b with
  | .cells n cs => ∃ c e lo hi, o = .cells c e (lo, hi) ∧ (n ≤ ext ∧ base + ext ≤ c.size ∧ base = 0) ∧ (∀ i, i < c.size → ¬ (lo ≤ i ∧ i < hi)) ∧
      ∀ i a, i < n → cs.get i = some a → ∃ v, c[base + i]? = some v ∧ VR μ a v
  | .rom n cs => ∃ c e fz, o = .cells c e fz ∧ (n ≤ ext ∧ base + ext ≤ c.size) ∧ ∀ i a, i < n → cs.get i = some a → ∃ v, c[base + i]? = some v ∧ VR μ a v
  | .map es clock => base = 0 ∧ ∃ es', o = .map es' clock ∧ ERs μ es es'.toList

/-- What is read alone may lie in what is framed. -/
def ABlk.own (F : Nat → Prop) (r : Nat) : ABlk → Prop
  | .rom _ _ => True
  | _ => ¬ F r
theorem ABlk.own_of {F : Nat → Prop} {r : Nat} (h : ¬ F r) (b : ABlk) : b.own F r := by
  cases b <;> first | exact h | exact trivial

theorem BR_mono {μ μ' : Mu} (h : μ.le μ') {b : ABlk} {o : Obj} {base ext : Nat} (k : BR μ b o base ext) : BR μ' b o base ext := by
  cases b with
  | cells n cs =>
    obtain ⟨c, e, lo, hi, h1, h2, h3, h4⟩ := k
    exact ⟨c, e, lo, hi, h1, h2, h3, fun i a hi ha => let ⟨v, hv, hr⟩ := h4 i a hi ha; ⟨v, hv, VR_mono h _ _ hr⟩⟩
  | rom n cs =>
    obtain ⟨c, e, fz, h1, h2, h3⟩ := k
    exact ⟨c, e, fz, h1, h2, fun i a hi ha => let ⟨v, hv, hr⟩ := h3 i a hi ha; ⟨v, hv, VR_mono h _ _ hr⟩⟩
  | map es clock =>
    obtain ⟨h0, es', h1, h2⟩ := k
    exact ⟨h0, es', h1, ERs_mono h _ _ h2⟩

/-- The abstract heap stands for what lies in the world; what is framed (F) is as it was in w0. -/
structure HInv (F : Nat → Prop) (w0 : World) (μ : Mu) (h : Nat → Option ABlk) (w : World) : Prop where
  blk : ∀ β b, h β = some b → ∃ r base o, μ β = some (r, base) ∧ w.heap[r]? = some o ∧ BR μ b o base (μ.ext β) ∧ b.own F r
  inj : ∀ β γ r base base', (h β).isSome → (h γ).isSome → μ β = some (r, base) → μ γ = some (r, base') → β = γ
  frame : ∀ k, F k → w.heap[k]? = w0.heap[k]?
  fsz : ∀ k, F k → k < w0.heap.size
  size : w0.heap.size ≤ w.heap.size
  os : w.os = w0.os
  tape : w.tape = w0.tape
  output : w.output = w0.output

def Fresh (μ : Mu) (n : Nat) : Prop := ∀ β, n ≤ β → μ β = none

section
variable {F : Nat → Prop} {w0 : World} {μ : Mu} {h : Nat → Option ABlk} {w : World}

theorem HInv.drawn (k : HInv F w0 μ h w) (d : Nat) : HInv F w0 μ h { w with drawn := d } := ⟨k.blk, k.inj, k.frame, k.fsz, k.size, k.os, k.tape, k.output⟩

theorem HInv.sub (k : HInv F w0 μ h w) {h' : Nat → Option ABlk} (hs : ∀ β b, h' β = some b → h β = some b) : HInv F w0 μ h' w :=
  ⟨fun β b e => k.blk β b (hs β b e), fun β γ r base base' e1 e2 => k.inj β γ r base base'
    (by obtain ⟨b, hb⟩ := Option.isSome_iff_exists.1 e1; rw [hs _ _ hb]; rfl) (by obtain ⟨b, hb⟩ := Option.isSome_iff_exists.1 e2; rw [hs _ _ hb]; rfl),
   k.frame, k.fsz, k.size, k.os, k.tape, k.output⟩

def Mu.put (μ : Mu) (nm : Nat) (p : Nat × Nat) (e : Nat) : Mu := ⟨fun β => if β = nm then some p else μ β, fun β => if β = nm then e else μ.ext β⟩

theorem Mu.put_at (μ : Mu) (nm : Nat) (p : Nat × Nat) (e : Nat) : (μ.put nm p e) nm = some p := if_pos rfl
theorem Mu.put_ext (μ : Mu) (nm : Nat) (p : Nat × Nat) (e : Nat) : (μ.put nm p e).ext nm = e := if_pos rfl
theorem Mu.put_other (μ : Mu) {nm β : Nat} (p : Nat × Nat) (e : Nat) (h : β ≠ nm) : (μ.put nm p e) β = μ β := if_neg h

theorem Mu.le_put {μ : Mu} {nm : Nat} {p : Nat × Nat} {e : Nat} (hn : μ nm = none) : μ.le (μ.put nm p e) := by
  intro β q hq
  have h : β ≠ nm := fun h => by subst h; rw [hn] at hq; cases hq
  exact ⟨by rw [Mu.put_other _ _ _ h]; exact hq, if_neg h⟩

/-- A new block, under a new name. -/
theorem HInv.alloc (k : HInv F w0 μ h w) {nm : Nat} (hn : μ nm = none) {b : ABlk} {o : Obj} {ex : Nat} (hb : BR (μ.put nm (w.heap.size, 0) ex) b o 0 ex) {d : Nat} :
    HInv F w0 (μ.put nm (w.heap.size, 0) ex) (fun β => if β = nm then some b else h β) { w with heap := w.heap.push o, drawn := d } := by
  have hle := Mu.le_put (p := (w.heap.size, 0)) (e := ex) hn
  have old : ∀ β c, h β = some c → ∃ r base o', μ β = some (r, base) ∧ w.heap[r]? = some o' ∧ BR μ c o' base (μ.ext β) ∧ c.own F r ∧ r < w.heap.size := by
    intro β c hc
    obtain ⟨r, base, o', h1, h2, h3, h4⟩ := k.blk β c hc
    exact ⟨r, base, o', h1, h2, h3, h4, (Array.getElem?_eq_some_iff.1 h2).1⟩
  refine ⟨?_, ?_, ?_, k.fsz, ?_, k.os, k.tape, k.output⟩
  · intro β c hc
    by_cases e : β = nm
    · subst e
      simp only [if_true] at hc
      injection hc with hc; subst hc
      refine ⟨w.heap.size, 0, o, Mu.put_at _ _ _ _, by simp, by rw [Mu.put_ext]; exact hb, ABlk.own_of (fun hF => ?_) _⟩
      have := k.fsz _ hF
      have := k.size
      omega
    · simp only [e, if_false] at hc
      obtain ⟨r, base, o', h1, h2, h3, h4, h5⟩ := old β c hc
      refine ⟨r, base, o', (hle _ _ h1).1, ?_, by rw [(hle _ _ h1).2]; exact BR_mono hle h3, h4⟩
      show (w.heap.push o)[r]? = _
      rw [Array.getElem?_push, if_neg (by omega)]; exact h2
  · intro β γ r base base' e1 e2 hβ hγ
    by_cases eβ : β = nm <;> by_cases eγ : γ = nm
    · rw [eβ, eγ]
    · exfalso
      simp only [eγ, if_false] at e2
      obtain ⟨c, hc⟩ := Option.isSome_iff_exists.1 e2
      obtain ⟨r', base2, o', h1, h2, h3, h4, h5⟩ := old γ c hc
      rw [(hle _ _ h1).1] at hγ
      rw [eβ, Mu.put_at] at hβ
      injection hγ with hγ; injection hβ with hβ
      simp only [Prod.mk.injEq] at hγ hβ
      omega
    · exfalso
      simp only [eβ, if_false] at e1
      obtain ⟨c, hc⟩ := Option.isSome_iff_exists.1 e1
      obtain ⟨r', base2, o', h1, h2, h3, h4, h5⟩ := old β c hc
      rw [(hle _ _ h1).1] at hβ
      rw [eγ, Mu.put_at] at hγ
      injection hγ with hγ; injection hβ with hβ
      simp only [Prod.mk.injEq] at hγ hβ
      omega
    · simp only [eβ, if_false] at e1
      simp only [eγ, if_false] at e2
      refine k.inj β γ r base base' e1 e2 ?_ ?_
      · rw [Mu.put_other _ _ _ eβ] at hβ; exact hβ
      · rw [Mu.put_other _ _ _ eγ] at hγ; exact hγ
  · intro j hj
    have := k.fsz j hj
    have := k.size
    show (w.heap.push o)[j]? = _
    rw [Array.getElem?_push, if_neg (by omega)]; exact k.frame j hj
  · have := k.size
    show _ ≤ (w.heap.push o).size
    simp; omega

/-- A live block's object is turned into another one that fits. -/
theorem HInv.turn (k : HInv F w0 μ h w) {β : Nat} {r base : Nat} (hl : (h β).isSome) (hnr : ∀ n cs, h β ≠ some (.rom n cs)) (hm : μ β = some (r, base)) {b : ABlk} {o : Obj} {w' : World}
    (hb : BR μ b o base (μ.ext β)) (hr : w'.heap[r]? = some o) (ho : ∀ j, j ≠ r → w'.heap[j]? = w.heap[j]?) (hs : w'.heap.size = w.heap.size)
    (h1 : w'.os = w.os) (h2 : w'.tape = w.tape) (h3 : w'.output = w.output) :
    HInv F w0 μ (fun γ => if γ = β then some b else h γ) w' := by
  have hnF : ¬ F r := by
    obtain ⟨c, hc⟩ := Option.isSome_iff_exists.1 hl
    obtain ⟨r', base', o', e1, e2, e3, e4⟩ := k.blk β c hc
    rw [hm] at e1; injection e1 with e1; simp only [Prod.mk.injEq] at e1
    rw [e1.1]
    cases c with
    | rom n cs => exact absurd hc (hnr n cs)
    | cells n cs => exact e4
    | map es clock => exact e4
  refine ⟨?_, ?_, ?_, k.fsz, by rw [hs]; exact k.size, h1.trans k.os, h2.trans k.tape, h3.trans k.output⟩
  · intro γ c hc
    by_cases e : γ = β
    · subst e
      simp only [if_true] at hc
      injection hc with hc; subst hc
      exact ⟨r, base, o, hm, hr, hb, ABlk.own_of hnF _⟩
    · simp only [e, if_false] at hc
      obtain ⟨r', base', o', e1, e2, e3, e4⟩ := k.blk γ c hc
      refine ⟨r', base', o', e1, ?_, e3, e4⟩
      rw [ho r' ?_]; exact e2
      intro er; subst er
      exact e (k.inj γ β r' base' base (by rw [hc]; rfl) hl e1 hm)
  · intro γ δ r' b1 b2 e1 e2 hγ hδ
    refine k.inj γ δ r' b1 b2 ?_ ?_ hγ hδ
    · by_cases e : γ = β
      · rw [e]; exact hl
      · simpa [e] using e1
    · by_cases e : δ = β
      · rw [e]; exact hl
      · simpa [e] using e2
  · intro j hj
    rw [ho j (fun e => hnF (e ▸ hj))]; exact k.frame j hj
end
end Go.Xec
