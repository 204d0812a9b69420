/-
  A part of the proof of CliLettersUptoCardSaid: BvStep.
  Conditions: those that each part names.
-/
import Derived.Test.YtplbncajfignlaaGreatDoorCl02
import Derived.Laws.Cells
import Derived.Laws.AppendOwn
set_option linter.unusedSimpArgs false
set_option linter.unusedVariables false
namespace Go.Proofs.Bv
open Go
def RT (Z : Nat → Prop) (w : World) (nt : Nat) (T : Nat → AV) (m : AMap) (tm : Array Value) : Prop :=
  tm.size = nt ∧ ∀ t, RV Z w (T t) m (tm.getD t undef)
def stOf (L : LoopA) : LoopState := if L.open_ then .ready else if L.jump.isSome then .done else .busy
structure HR (C : Cfg) (m : AMap) (Z : Nat → Prop) (h : Heap) (w : World) : Prop where
  cells : ∀ b cs es fz, h b = some (.cells cs es fz) → ∃ mb c e us, m b = some mb ∧ mb.es = es ∧ mb.top = c.size ∧ w.heap[mb.rb]? = some (.cells c e (0, 0)) ∧
    (∀ i, i < us.length → c[mb.base + i]? = us[i]?) ∧ RVs Z w cs m us ∧ (fz = true ↔ Z mb.rb)
  loops : ∀ b L, h b = some (.loop L) → ∃ mb r, m b = some mb ∧ w.heap[mb.rb]? = some (.loop r) ∧ ¬ Z mb.rb ∧ r.params = L.params.toArray ∧ r.assign = L.assign ∧ r.body = L.body ∧
    RT Z w L.nt L.T m r.tmps ∧ r.state = stOf L ∧ r.pending = L.jump
  inj : ∀ b b' o o' mb mb', h b = some o → h b' = some o' → m b = some mb → m b' = some mb' → mb.rb = mb'.rb → ¬ Z mb.rb → b = b'
  zlt : ∀ r, Z r → r < w.heap.size
  glob : ∀ g cs, C.G g = some cs → RV Z w (.pptr cs 0) noMap (.pointer (some ⟨g, 0, none⟩))
theorem RT_mono {Z Z' : Nat → Prop} {w w' : World} {nt : Nat} {T : Nat → AV} {m m' : AMap} {tm : Array Value} (hZ : ∀ r, Z r → Z' r) (hw : ∀ r, Z r → w'.heap[r]? = w.heap[r]?)
    (hm : ∀ b x, m b = some x → m' b = some x) (h : RT Z w nt T m tm) : RT Z' w' nt T m' tm :=
  ⟨h.1, fun t => RV_mono hZ hw _ hm (h.2 t)⟩
def Own (Z : Nat → Prop) (h : Heap) (m : AMap) (r : Nat) : Prop := ∃ b o mb, h b = some o ∧ m b = some mb ∧ mb.rb = r ∧ ¬ Z r
structure Step (C : Cfg) (m : AMap) (Z : Nat → Prop) (h : Heap) (n : Nat) (w : World) (m' : AMap) (Z' : Nat → Prop) (h' : Heap) (n' : Nat) (w' : World) : Prop where
  hr : HR C m' Z' h' w'
  mext : ∀ b x, m b = some x → m' b = some x
  mnew : ∀ b, m' b ≠ none → m b ≠ none ∨ (n ≤ b ∧ b < n')
  zext : ∀ r, Z r → Z' r
  znew : ∀ r, Z' r → Z r ∨ w.heap.size ≤ r ∨ Own Z h m r
  nle : n ≤ n'
  size : w.heap.size ≤ w'.heap.size
  frame : ∀ r, r < w.heap.size → ¬ Own Z h m r → w'.heap[r]? = w.heap[r]?
  dom : ∀ r, r < w.heap.size → Own Z' h' m' r → Own Z h m r
  os : w'.os = w.os
  tape : w'.tape = w.tape
  output : w'.output = w.output
section
variable {C : Cfg} {m m' m'' : AMap} {Z Z' Z'' : Nat → Prop} {h h' h'' : Heap} {n n' n'' : Nat} {w w' w'' : World}
theorem Step.refl (hr : HR C m Z h w) : Step C m Z h n w m Z h n w :=
  ⟨hr, fun _ _ e => e, fun _ e => .inl e, fun _ e => e, fun _ e => .inl e, Nat.le_refl _, Nat.le_refl _, fun _ _ _ => rfl, fun _ _ e => e, rfl, rfl, rfl⟩
theorem Step.trans (s : Step C m Z h n w m' Z' h' n' w') (t : Step C m' Z' h' n' w' m'' Z'' h'' n'' w'') : Step C m Z h n w m'' Z'' h'' n'' w'' where
  hr := t.hr
  mext := fun b x e => t.mext b x (s.mext b x e)
  mnew := fun b e => by
    rcases t.mnew b e with e | ⟨h1, h2⟩
    · rcases s.mnew b e with e | ⟨h1, h2⟩
      · exact .inl e
      · exact .inr ⟨h1, Nat.lt_of_lt_of_le h2 t.nle⟩
    · exact .inr ⟨Nat.le_trans s.nle h1, h2⟩
  zext := fun r e => t.zext r (s.zext r e)
  znew := fun r e => by
    rcases t.znew r e with e | e | e
    · exact s.znew r e
    · exact .inr (.inl (Nat.le_trans s.size e))
    · by_cases hr : r < w.heap.size
      · exact .inr (.inr (s.dom r hr e))
      · exact .inr (.inl (Nat.le_of_not_lt hr))
  nle := Nat.le_trans s.nle t.nle
  size := Nat.le_trans s.size t.size
  frame := fun r hr ho => by
    rw [t.frame r (Nat.lt_of_lt_of_le hr s.size) (fun h => ho (s.dom r hr h)), s.frame r hr ho]
  dom := fun r hr e => s.dom r hr (t.dom r (Nat.lt_of_lt_of_le hr s.size) e)
  os := t.os.trans s.os
  tape := t.tape.trans s.tape
  output := t.output.trans s.output
theorem Step.zkeep (s : Step C m Z h n w m' Z' h' n' w') (hr : HR C m Z h w) : ∀ r, Z r → w'.heap[r]? = w.heap[r]? :=
  fun r e => s.frame r (hr.zlt r e) fun ⟨_, _, _, _, _, _, hz⟩ => hz e
theorem Step.rv (s : Step C m Z h n w m' Z' h' n' w') (hr : HR C m Z h w) {a : AV} {v : Value} (e : RV Z w a m v) : RV Z' w' a m' v := RV_mono s.zext (s.zkeep hr) a s.mext e
theorem Step.rvs (s : Step C m Z h n w m' Z' h' n' w') (hr : HR C m Z h w) {a : List AV} {v : List Value} (e : RVs Z w a m v) : RVs Z' w' a m' v := RVs_mono s.zext (s.zkeep hr) a s.mext e
theorem Step.rvl (s : Step C m Z h n w m' Z' h' n' w') (hr : HR C m Z h w) {a : List AV} {v : List Value} (e : RVl Z w a m v) : RVl Z' w' a m' v := RVl_mono s.zext (s.zkeep hr) a s.mext e
theorem Step.rt (s : Step C m Z h n w m' Z' h' n' w') (hr : HR C m Z h w) {nt : Nat} {T : Nat → AV} {tm : Array Value} (e : RT Z w nt T m tm) : RT Z' w' nt T m' tm := RT_mono s.zext (s.zkeep hr) s.mext e
theorem Step.fresh (s : Step C m Z h n w m' Z' h' n' w') (hf : ∀ b, n ≤ b → b < n'' → m b = none) : ∀ b, n' ≤ b → b < n'' → m' b = none := by
  intro b h1 h2
  rcases Option.eq_none_or_eq_some (m' b) with e | ⟨x, e⟩
  · exact e
  · rcases s.mnew b (by simp [e]) with hb | ⟨_, hb⟩
    · exact absurd (hf b (Nat.le_trans s.nle h1) h2) hb
    · omega
theorem HR.same (hr : HR C m Z h w) (hh : w'.heap = w.heap) : HR C m Z h w' := by
  have hk : ∀ r, Z r → w'.heap[r]? = w.heap[r]? := fun r _ => by rw [hh]
  refine ⟨fun b cs es fz e => ?_, fun b L e => ?_, hr.inj, fun r e => by rw [hh]; exact hr.zlt r e, fun g cs e => RV_mono (fun _ h => h) hk _ (fun _ _ h => h) (hr.glob g cs e)⟩
  · obtain ⟨mb, c, e', us, h1, h2, h3, h4, h5, h6, h7⟩ := hr.cells b cs es fz e
    exact ⟨mb, c, e', us, h1, h2, h3, by rw [hh]; exact h4, h5, RVs_mono (fun _ h => h) hk _ (fun _ _ h => h) h6, h7⟩
  · obtain ⟨mb, r, h1, h2, h3, h4, h5, h6, h7, h8⟩ := hr.loops b L e
    exact ⟨mb, r, h1, by rw [hh]; exact h2, h3, h4, h5, h6, RT_mono (fun _ h => h) hk (fun _ _ h => h) h7, h8⟩
theorem Step.drawn (hr : HR C m Z h w) (k : Nat) : Step C m Z h n w m Z h n { w with drawn := k } :=
  ⟨hr.same rfl, fun _ _ e => e, fun _ e => .inl e, fun _ e => e, fun _ e => .inl e, Nat.le_refl _, Nat.le_refl _, fun _ _ _ => rfl, fun _ _ e => e, rfl, rfl, rfl⟩
theorem push_old {heap : Array Obj} {o : Obj} {r : Nat} (hr : r < heap.size) : (heap.push o)[r]? = heap[r]? := by
  rw [Array.getElem?_push, if_neg (by omega)]
theorem push_new {heap : Array Obj} {o : Obj} : (heap.push o)[heap.size]? = some o := by
  simp
theorem upd_same {α : Type} (f : Nat → α) (i : Nat) (v : α) : upd f i v i = v := by simp [upd]
theorem upd_ne {α : Type} (f : Nat → α) {i j : Nat} (v : α) (hne : j ≠ i) : upd f i v j = f j := by simp [upd, hne]
theorem upd_ext {b : Nat} {mb : MB} (hm : m b = none) : ∀ i x, m i = some x → upd m b (some mb) i = some x := by
  intro i x e
  by_cases hi : i = b
  · subst hi; rw [hm] at e; cases e
  · rw [upd_ne _ _ hi]; exact e
theorem HR.push (hr : HR C m Z h w) {b : Nat} {mb : MB} {o : Obj} {bk : Blk} (hm : m b = none) (hb : mb.rb = w.heap.size)
    (hbk : match bk with
      | .cells cs es fz => fz = false ∧ ∃ c e us, o = .cells c e (0, 0) ∧ mb.es = es ∧ mb.top = c.size ∧ (∀ i, i < us.length → c[mb.base + i]? = us[i]?) ∧ RVs Z w cs m us
      | .loop L => ∃ r, o = .loop r ∧ r.params = L.params.toArray ∧ r.assign = L.assign ∧ r.body = L.body ∧ RT Z w L.nt L.T m r.tmps ∧ r.state = stOf L ∧ r.pending = L.jump) :
    HR C (upd m b (some mb)) Z (upd h b (some bk)) { w with heap := w.heap.push o } := by
  have hx := upd_ext (m := m) (mb := mb) hm
  have hk : ∀ r, Z r → ({ w with heap := w.heap.push o } : World).heap[r]? = w.heap[r]? := fun r e => push_old (hr.zlt r e)
  have hzn : ¬ Z w.heap.size := fun e => Nat.lt_irrefl _ (hr.zlt _ e)
  refine ⟨fun b' cs es fz e => ?_, fun b' L e => ?_, fun b1 b2 o1 o2 m1 m2 e1 e2 e3 e4 e5 hz => ?_, fun r e => by have := hr.zlt r e; simp only [Array.size_push]; omega, fun g cs e => RV_mono (fun _ h => h) hk _ (fun _ _ h => h) (hr.glob g cs e)⟩
  · by_cases hi : b' = b
    · subst hi
      rw [upd_same] at e
      obtain rfl : bk = .cells cs es fz := by injection e
      obtain ⟨rfl, c, e', us, rfl, h2, h3, h4, h5⟩ := hbk
      exact ⟨mb, c, e', us, upd_same _ _ _, h2, h3, by rw [hb]; exact push_new, h4, RVs_mono (fun _ h => h) hk _ hx h5, by rw [hb]; simp [hzn]⟩
    · rw [upd_ne _ _ hi] at e
      obtain ⟨mb', c, e', us, h1, h2, h3, h4, h5, h6, h7⟩ := hr.cells b' cs es fz e
      exact ⟨mb', c, e', us, hx _ _ h1, h2, h3, by rw [← h4]; exact push_old (by rcases Array.getElem?_eq_some_iff.1 h4 with ⟨h, _⟩; exact h), h5, RVs_mono (fun _ h => h) hk _ hx h6, h7⟩
  · by_cases hi : b' = b
    · subst hi
      rw [upd_same] at e
      obtain rfl : bk = .loop L := by injection e
      obtain ⟨r, rfl, h2, h3, h4, h5, h6, h7⟩ := hbk
      exact ⟨mb, r, upd_same _ _ _, by rw [hb]; exact push_new, by rw [hb]; exact hzn, h2, h3, h4, RT_mono (fun _ h => h) hk hx h5, h6, h7⟩
    · rw [upd_ne _ _ hi] at e
      obtain ⟨mb', r, h1, h2, h3, h4, h5, h6, h7, h8⟩ := hr.loops b' L e
      exact ⟨mb', r, hx _ _ h1, by rw [← h2]; exact push_old (by rcases Array.getElem?_eq_some_iff.1 h2 with ⟨h, _⟩; exact h), h3, h4, h5, h6, RT_mono (fun _ h => h) hk hx h7, h8⟩
  · have lt_of : ∀ {b' o' m'}, h b' = some o' → m b' = some m' → m'.rb < w.heap.size := by
      intro b' o' m' e e'
      cases o' with
      | cells cs es fz =>
        obtain ⟨mb', c, _, us, h1, _, _, h4, _⟩ := hr.cells b' cs es fz e
        rw [e'] at h1; injection h1 with h1; subst h1
        rcases Array.getElem?_eq_some_iff.1 h4 with ⟨h, _⟩; exact h
      | loop L =>
        obtain ⟨mb', r, h1, h2, _⟩ := hr.loops b' L e
        rw [e'] at h1; injection h1 with h1; subst h1
        rcases Array.getElem?_eq_some_iff.1 h2 with ⟨h, _⟩; exact h
    by_cases hi : b1 = b
    · by_cases hj : b2 = b
      · rw [hi, hj]
      · subst hi
        rw [upd_same] at e3
        rw [upd_ne _ _ hj] at e2 e4
        injection e3 with e3
        have := lt_of e2 e4
        rw [← e5, ← e3, hb] at this
        exact absurd this (Nat.lt_irrefl _)
    · rw [upd_ne _ _ hi] at e1 e3
      by_cases hj : b2 = b
      · subst hj
        rw [upd_same] at e4
        injection e4 with e4
        have := lt_of e1 e3
        rw [e5, ← e4, hb] at this
        exact absurd this (Nat.lt_irrefl _)
      · rw [upd_ne _ _ hj] at e2 e4
        exact hr.inj b1 b2 o1 o2 m1 m2 e1 e2 e3 e4 e5 hz
theorem Step.push (hr : HR C m Z h w) {mb : MB} {o : Obj} {bk : Blk} (hm : m n = none) (hb : mb.rb = w.heap.size)
    (hbk : match bk with
      | .cells cs es fz => fz = false ∧ ∃ c e us, o = .cells c e (0, 0) ∧ mb.es = es ∧ mb.top = c.size ∧ (∀ i, i < us.length → c[mb.base + i]? = us[i]?) ∧ RVs Z w cs m us
      | .loop L => ∃ r, o = .loop r ∧ r.params = L.params.toArray ∧ r.assign = L.assign ∧ r.body = L.body ∧ RT Z w L.nt L.T m r.tmps ∧ r.state = stOf L ∧ r.pending = L.jump) :
    Step C m Z h n w (upd m n (some mb)) Z (upd h n (some bk)) (n + 1) { w with heap := w.heap.push o } where
  hr := hr.push hm hb hbk
  mext := upd_ext hm
  mnew := fun b e => by
    by_cases hi : b = n
    · exact .inr ⟨by omega, by omega⟩
    · rw [upd_ne _ _ hi] at e; exact .inl e
  zext := fun _ e => e
  znew := fun _ e => .inl e
  nle := Nat.le_succ _
  size := by simp
  frame := fun r hr _ => push_old hr
  dom := fun r hr ⟨b, o, mb', e1, e2, e3, hz⟩ => by
    by_cases hi : b = n
    · subst hi
      rw [upd_same] at e2
      injection e2 with e2
      rw [← e3, ← e2, hb] at hr
      exact absurd hr (Nat.lt_irrefl _)
    · rw [upd_ne _ _ hi] at e1 e2
      exact ⟨b, o, mb', e1, e2, e3, hz⟩
  os := rfl
  tape := rfl
  output := rfl
end
end Go.Proofs.Bv
