/-
  The rows of a function's copy, read as a function.
-/
import Derived.Test.YtccniliiiilbaaaFS1
import Derived.Test.YtccniliiiilbaaaFW
namespace Go.Proofs.Ytccniliiiilbaaa
set_option linter.unusedSimpArgs false
set_option linter.unusedVariables false
open Go.Sx
/-- Numbers of 64 bits. -/
def okN (l : List Nd) : Prop := ∀ x ∈ l, isI64 x.op ∧ isI64 x.n ∧ ∀ v ∈ x.l, isI64 v
theorem rI_ok {G : Hp} {l : List Int} {v : Value} (h : rI.S G l v) : ∀ n ∈ l, isI64 n := by
  obtain ⟨_, ad, cap, _, h | ⟨b, off, cs, _, _, hL⟩⟩ := h
  · subst h; simp
  · exact (rI_L.1 hL).2
theorem rNL_ok {G : Hp} : ∀ {l : List Nd} {cs : List Value}, rN.L G l cs → okN l
  | [], _, _ => fun x hx => by simp at hx
  | y :: l, cs, h => by
    obtain ⟨c, d, _, ⟨sl, _, h1, h2, h3⟩, h4⟩ := h
    intro x hx
    rcases List.mem_cons.1 hx with rfl | hx
    · exact ⟨h1, h2, rI_ok h3⟩
    · exact rNL_ok h4 x hx
theorem rN_ok {G : Hp} {l : List Nd} {v : Value} (h : rN.S G l v) : okN l := by
  obtain ⟨_, ad, cap, _, h | ⟨b, off, cs, _, _, hL⟩⟩ := h
  · subst h; exact fun x hx => by simp at hx
  · exact rNL_ok hL
theorem rowsL_len : ∀ {l : List Nd} {ss : List Value}, ss.length = l.length → (rowsL l ss).length = l.length
  | [], [], _ => rfl
  | x :: l, s :: ss, h => by simp [rowsL, rowsL_len (l := l) (ss := ss) (by simpa using h)]
theorem rowsL_get : ∀ {l : List Nd} {ss : List Value} {i : Nat} (h : ss.length = l.length) (hi : i < l.length), (rowsL l ss)[i]? = some ⟨3, 1, ss[i]'(by omega), l[i].l.length, l[i].l.map (.int .i64 ·)⟩
  | x :: l, s :: ss, 0, _, _ => by simp [rowsL]
  | x :: l, s :: ss, i + 1, h, hi => by simp [rowsL, rowsL_get (l := l) (ss := ss) (i := i) (by simpa using h) (by simpa using hi)]
theorem rowsL_set : ∀ {l : List Nd} {ss : List Value} {i : Nat} {x : Nd} (h : ss.length = l.length) (hi : i < l.length), (rowsL l ss).set i ⟨3, 1, ss[i]'(by omega), x.l.length, x.l.map (.int .i64 ·)⟩ = rowsL (l.set i x) ss
  | y :: l, s :: ss, 0, x, _, _ => by simp [rowsL]
  | y :: l, s :: ss, i + 1, x, h, hi => by simp [rowsL, rowsL_set (l := l) (ss := ss) (i := i) (x := x) (by simpa using h) (by simpa using hi)]
theorem encN_len : ∀ {l : List Nd} {ss : List Value}, ss.length = l.length → (encN l ss).length = l.length * 3
  | [], [], _ => rfl
  | x :: l, s :: ss, h => by simp only [encN, List.length_cons, encN_len (l := l) (ss := ss) (by simpa using h)]; omega
theorem encN_drop : ∀ {l : List Nd} {ss : List Value} (i : Nat), ss.length = l.length → (encN l ss).drop (i * 3) = encN (l.drop i) (ss.drop i)
  | l, ss, 0, _ => by simp
  | [], [], i + 1, _ => by simp [encN]
  | x :: l, s :: ss, i + 1, h => by
    rw [show (i + 1) * 3 = i * 3 + 1 + 1 + 1 by omega]
    simp [encN, encN_drop (l := l) (ss := ss) i (by simpa using h)]
theorem encN_at {l : List Nd} {ss : List Value} {i : Nat} (h : ss.length = l.length) (hi : i < l.length) : (encN l ss).drop (i * 3) = .int .i64 l[i].op :: .int .i64 l[i].n :: ss[i]'(by omega) :: encN (l.drop (i + 1)) (ss.drop (i + 1)) := by
  rw [encN_drop i h, List.drop_eq_getElem_cons hi, List.drop_eq_getElem_cons (l := ss) (show i < ss.length by omega)]
  rfl
theorem ldN1 {l : List Nd} {ss : List Value} {i off : Nat} (h : ss.length = l.length) (hi : i < l.length) (ho : off = i * 3 + 1) : ldV false (((encN l ss).drop off).take 1) = .int .i64 l[i].n := by
  subst ho
  rw [← List.drop_drop, encN_at h hi]; rfl
theorem ldN2 {l : List Nd} {ss : List Value} {i off : Nat} (h : ss.length = l.length) (hi : i < l.length) (ho : off = i * 3 + 2) : ldV false (((encN l ss).drop off).take 1) = ss[i]'(by omega) := by
  subst ho
  rw [← List.drop_drop, encN_at h hi]; rfl
theorem layN' (m : Int) (k : List Int) : ∀ {l : List Nd} {ss : List Value} {i : Nat} (_ : ss.length = l.length) (hi : i < l.length), lay (encN l ss) (i * 3 + 1) [.int .i64 m] = some (encN (l.set i ⟨l[i].op, m, k⟩) ss)
  | x :: l, s :: ss, 0, _, _ => by simp [encN, lay]
  | x :: l, s :: ss, i + 1, h, hi => by
    rw [show (i + 1) * 3 + 1 = i * 3 + 1 + 1 + 1 + 1 by omega]
    simp only [encN, lay, layN' m k (l := l) (ss := ss) (i := i) (by simpa using h) (by simpa using hi), Option.map_some, List.set_cons_succ, List.getElem_cons_succ]
theorem layN (m : Int) (k : List Int) {l : List Nd} {ss : List Value} {i off : Nat} (h : ss.length = l.length) (hi : i < l.length) (ho : off = i * 3 + 1) {vs : List Value} (hv : vs = [.int .i64 m]) : lay (encN l ss) off vs = some (encN (l.set i ⟨l[i].op, m, k⟩) ss) := by
  subst ho hv; exact layN' m k h hi
theorem encN_L {G : Hp} : ∀ {l : List Nd} {ss : List Value}, ss.length = l.length → okN l → (∀ (i : Nat) (r : Rw), (rowsL l ss)[i]? = some r → RowAt G r) → (∀ x ∈ l, x.l.length ≤ 1000) → rN.L G l (encN l ss)
  | [], [], _, _, _, _ => rfl
  | x :: l, s :: ss, h, ho, hr, hb => by
    have h0 := hr 0 _ (by simp [rowsL]; rfl)
    obtain ⟨o1, o2, o3⟩ := ho x (by simp)
    exact rN_cons o1 o2 (RowAt.S h0 rfl (by have := hb x (by simp); omega) (rI_L.2 ⟨rfl, o3⟩)) (encN_L (by simpa using h) (fun y hy => ho y (by simp [hy])) (fun i r e => hr (i + 1) r (by simpa [rowsL] using e)) (fun y hy => hb y (by simp [hy])))
theorem RF_S {G : Hp} {f : Fu} {ns : Value} {ss : List Value} (h : ss.length = f.nodes.length) (ho : okN f.nodes) (hb : ∀ x ∈ f.nodes, x.l.length ≤ 1000) (hn : f.nodes.length ≤ 1000) (hr : ∀ (i : Nat) (r : Rw), (RF f ns ss)[i]? = some r → RowAt G r) : rN.S G f.nodes ns := by
  have h1 := hr f.nodes.length ⟨40, 3, ns, f.nodes.length, encN f.nodes ss⟩ (by simp [RF, List.getElem?_append_right, rowsL_len h])
  refine RowAt.S h1 rfl (by omega) (encN_L h ho (fun i r e => hr i r ?_) hb)
  have := (List.getElem?_eq_some_iff.1 e).1
  rw [RF, List.getElem?_append_left this]
  exact e
end Go.Proofs.Ytccniliiiilbaaa
