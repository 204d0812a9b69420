/-
  A part of the proof of CliLettersUptoCardSaid: BvWrite, BvOps1, BvOps2.
  Conditions: those that each part names.
-/
import Derived.Test.YtplbncajfignlaaGreatDoorCl03
import Derived.Laws.CopyRow
import Derived.Laws.MakeOwn
set_option linter.unusedSimpArgs false
set_option linter.unusedVariables false
namespace Go.Proofs.Bv
open Go
section
variable {C : Cfg} {m m' : AMap} {Z Z' : Nat → Prop} {h h' : Heap} {n n' : Nat} {w w' : World}
theorem HR.lt (hr : HR C m Z h w) {b : Nat} {o : Blk} {mb : MB} (e : h b = some o) (e' : m b = some mb) : mb.rb < w.heap.size := by
  cases o with
  | cells cs es fz =>
    obtain ⟨mb', c, _, us, h1, _, _, h4, _⟩ := hr.cells b cs es fz e
    rw [e'] at h1; injection h1 with h1; subst h1
    exact (Array.getElem?_eq_some_iff.1 h4).1
  | loop L =>
    obtain ⟨mb', r, h1, h2, _⟩ := hr.loops b L e
    rw [e'] at h1; injection h1 with h1; subst h1
    exact (Array.getElem?_eq_some_iff.1 h2).1
theorem Step.write (hr : HR C m Z h w) {b : Nat} {mb : MB} {bk bk' : Blk} (hb : h b = some bk) (hm : m b = some mb) (hz : ¬ Z mb.rb)
    (hsize : w'.heap.size = w.heap.size) (hoth : ∀ r, r ≠ mb.rb → w'.heap[r]? = w.heap[r]?) (ho : w'.os = w.os) (ht : w'.tape = w.tape) (hu : w'.output = w.output)
    (hbk : match bk' with
      | .cells cs es fz => fz = false ∧ ∃ c e us, w'.heap[mb.rb]? = some (.cells c e (0, 0)) ∧ mb.es = es ∧ mb.top = c.size ∧ (∀ i, i < us.length → c[mb.base + i]? = us[i]?) ∧ RVs Z w cs m us
      | .loop L => ∃ r, w'.heap[mb.rb]? = some (.loop r) ∧ r.params = L.params.toArray ∧ r.assign = L.assign ∧ r.body = L.body ∧ RT Z w L.nt L.T m r.tmps ∧ r.state = stOf L ∧ r.pending = L.jump) :
    Step C m Z h n w m Z (upd h b (some bk')) n w' := by
  have hk : ∀ r, Z r → w'.heap[r]? = w.heap[r]? := fun r e => hoth r fun e' => hz (e' ▸ e)
  have hdiff : ∀ b' o mb', b' ≠ b → h b' = some o → m b' = some mb' → mb'.rb ≠ mb.rb := fun b' o mb' hne e1 e2 e3 => hne (hr.inj b b' bk o mb mb' hb e1 hm e2 e3.symm hz).symm
  refine ⟨⟨fun b' cs es fz e => ?_, fun b' L e => ?_, fun b1 b2 o1 o2 m1 m2 e1 e2 e3 e4 e5 hz' => ?_, fun r e => by rw [hsize]; exact hr.zlt r e, fun g cs e => RV_mono (fun _ h => h) hk _ (fun _ _ h => h) (hr.glob g cs e)⟩,
    fun _ _ e => e, fun _ e => .inl e, fun _ e => e, fun _ e => .inl e, Nat.le_refl _, Nat.le_of_eq hsize.symm, fun r hr' hno => hoth r fun e => hno ⟨b, bk, mb, hb, hm, e.symm, e ▸ hz⟩, fun r hr' ⟨b', o, mb', e1, e2, e3, hz'⟩ => ?_, ho, ht, hu⟩
  · by_cases hi : b' = b
    · subst hi
      rw [upd_same] at e
      obtain rfl : bk' = .cells cs es fz := by injection e
      obtain ⟨rfl, c, e', us, h1, h2, h3, h4, h5⟩ := hbk
      exact ⟨mb, c, e', us, hm, h2, h3, h1, h4, RVs_mono (fun _ h => h) hk _ (fun _ _ h => h) h5, by simp [hz]⟩
    · rw [upd_ne _ _ hi] at e
      obtain ⟨mb', c, e', us, h1, h2, h3, h4, h5, h6, h7⟩ := hr.cells b' cs es fz e
      exact ⟨mb', c, e', us, h1, h2, h3, by rw [← h4]; exact hoth _ (hdiff b' _ mb' hi e h1), h5, RVs_mono (fun _ h => h) hk _ (fun _ _ h => h) h6, h7⟩
  · by_cases hi : b' = b
    · subst hi
      rw [upd_same] at e
      obtain rfl : bk' = .loop L := by injection e
      obtain ⟨r, h1, h2, h3, h4, h5, h6, h7⟩ := hbk
      exact ⟨mb, r, hm, h1, hz, h2, h3, h4, RT_mono (fun _ h => h) hk (fun _ _ h => h) h5, h6, h7⟩
    · rw [upd_ne _ _ hi] at e
      obtain ⟨mb', r, h1, h2, h3, h4, h5, h6, h7, h8⟩ := hr.loops b' L e
      exact ⟨mb', r, h1, by rw [← h2]; exact hoth _ (hdiff b' _ mb' hi e h1), h3, h4, h5, h6, RT_mono (fun _ h => h) hk (fun _ _ h => h) h7, h8⟩
  · have get : ∀ {b' o'}, upd h b (some bk') b' = some o' → ∃ o'', h b' = some o'' := by
      intro b' o' e
      by_cases hi : b' = b
      · subst hi; exact ⟨bk, hb⟩
      · rw [upd_ne _ _ hi] at e; exact ⟨_, e⟩
    obtain ⟨p, e1'⟩ := get e1
    obtain ⟨q, e2'⟩ := get e2
    exact hr.inj b1 b2 p q m1 m2 e1' e2' e3 e4 e5 hz'
  · by_cases hi : b' = b
    · subst hi; exact ⟨b', bk, mb', hb, e2, e3, hz'⟩
    · rw [upd_ne _ _ hi] at e1; exact ⟨b', o, mb', e1, e2, e3, hz'⟩
theorem Step.move (hr : HR C m Z h w) {b : Nat} {mb mb2 : MB} {cs cs2 : List AV} {es : Nat} (hb : h b = some (.cells cs es false)) (hm : m b = some mb) (hn : m n = none)
    (h2 : mb2.rb = mb.rb) (h3 : mb2.top = mb.top) (h4 : mb2.es = mb.es)
    (hc : ∀ c e us, w.heap[mb.rb]? = some (.cells c e (0, 0)) → (∀ i, i < us.length → c[mb.base + i]? = us[i]?) → RVs Z w cs m us → ∃ us2, (∀ i, i < us2.length → c[mb2.base + i]? = us2[i]?) ∧ RVs Z w cs2 m us2) :
    Step C m Z h n w (upd m n (some mb2)) Z (upd (upd h b none) n (some (.cells cs2 es false))) (n + 1) w := by
  have hx := upd_ext (m := m) (mb := mb2) hn
  obtain ⟨mb', c, e, us, g1, g2, g3, g4, g5, g6, g7⟩ := hr.cells b cs es false hb
  obtain rfl : mb = mb' := by rw [hm] at g1; injection g1
  obtain ⟨us2, k1, k2⟩ := hc c e us g4 g5 g6
  have hz : ¬ Z mb.rb := fun e => by simpa using g7.2 e
  have hkk : ∀ r, Z r → w.heap[r]? = w.heap[r]? := fun _ _ => rfl
  have hnb : b ≠ n := fun e => by rw [e, hn] at hm; cases hm
  have old : ∀ {b' o}, b' ≠ n → upd (upd h b none) n (some (.cells cs2 es false)) b' = some o → b' ≠ b ∧ h b' = some o := by
    intro b' o hne e
    rw [upd_ne _ _ hne] at e
    by_cases hi : b' = b
    · subst hi; rw [upd_same] at e; cases e
    · rw [upd_ne _ _ hi] at e; exact ⟨hi, e⟩
  refine ⟨⟨fun b' cs' es' fz e => ?_, fun b' L e => ?_, fun b1 b2 o1 o2 m1 m2 e1 e2 e3 e4 e5 hz' => ?_, hr.zlt, hr.glob⟩,
    hx, fun b' e => ?_, fun _ e => e, fun _ e => .inl e, Nat.le_succ _, Nat.le_refl _, fun _ _ _ => rfl, fun r hr' ⟨b', o, mb', e1, e2, e3, hz'⟩ => ?_, rfl, rfl, rfl⟩
  · by_cases hi : b' = n
    · subst hi
      rw [upd_same] at e
      injection e with e; injection e with e1 e2 e3; subst e1; subst e2; subst e3
      exact ⟨mb2, c, _, us2, upd_same _ _ _, h4.trans g2, h3.trans g3, by rw [h2]; exact g4, k1, RVs_mono (fun _ h => h) hkk _ hx k2, by rw [h2]; simp [hz]⟩
    · obtain ⟨hi2, e⟩ := old hi e
      obtain ⟨mb', c', e', us', q1, q2, q3, q4, q5, q6, q7⟩ := hr.cells b' cs' es' fz e
      exact ⟨mb', c', e', us', hx _ _ q1, q2, q3, q4, q5, RVs_mono (fun _ h => h) hkk _ hx q6, q7⟩
  · by_cases hi : b' = n
    · subst hi; rw [upd_same] at e; cases e
    · obtain ⟨hi2, e⟩ := old hi e
      obtain ⟨mb', r, q1, q2, q3, q4, q5, q6, q7, q8⟩ := hr.loops b' L e
      exact ⟨mb', r, hx _ _ q1, q2, q3, q4, q5, q6, RT_mono (fun _ h => h) hkk hx q7, q8⟩
  · have no : ∀ {b' o mb'}, b' ≠ n → upd (upd h b none) n (some (.cells cs2 es false)) b' = some o → upd m n (some mb2) b' = some mb' → mb'.rb ≠ mb.rb := by
      intro b' o mb' hne e1 e2 e3
      obtain ⟨hi2, e1⟩ := old hne e1
      rw [upd_ne _ _ hne] at e2
      exact hi2 (hr.inj b b' _ o mb mb' hb e1 hm e2 e3.symm hz).symm
    by_cases hi : b1 = n
    · by_cases hj : b2 = n
      · rw [hi, hj]
      · exact absurd (e5.symm.trans (by rw [hi, upd_same] at e3; injection e3 with e3; rw [← e3, h2])) (no hj e2 e4)
    · by_cases hj : b2 = n
      · exact absurd (e5.trans (by rw [hj, upd_same] at e4; injection e4 with e4; rw [← e4, h2])) (no hi e1 e3)
      · obtain ⟨_, e1⟩ := old hi e1
        obtain ⟨_, e2⟩ := old hj e2
        rw [upd_ne _ _ hi] at e3
        rw [upd_ne _ _ hj] at e4
        exact hr.inj b1 b2 o1 o2 m1 m2 e1 e2 e3 e4 e5 hz'
  · by_cases hi : b' = n
    · exact .inr ⟨by omega, by omega⟩
    · rw [upd_ne _ _ hi] at e; exact .inl e
  · by_cases hi : b' = n
    · subst hi
      rw [upd_same] at e2
      injection e2 with e2
      refine ⟨b, _, mb, hb, hm, ?_, ?_⟩
      · rw [← e3, ← e2, h2]
      · exact hz'
    · obtain ⟨hi2, e1⟩ := old hi e1
      rw [upd_ne _ _ hi] at e2
      exact ⟨b', o, mb', e1, e2, e3, hz'⟩
theorem Step.drop (hr : HR C m Z h w) (b : Nat) : Step C m Z h n w m Z (upd h b none) n w := by
  have old : ∀ {b' o}, upd h b none b' = some o → h b' = some o := by
    intro b' o e
    by_cases hi : b' = b
    · subst hi; rw [upd_same] at e; cases e
    · rwa [upd_ne _ _ hi] at e
  exact ⟨⟨fun b' cs es fz e => hr.cells b' cs es fz (old e), fun b' L e => hr.loops b' L (old e), fun b1 b2 o1 o2 m1 m2 e1 e2 => hr.inj b1 b2 o1 o2 m1 m2 (old e1) (old e2), hr.zlt, hr.glob⟩,
    fun _ _ e => e, fun _ e => .inl e, fun _ e => e, fun _ e => .inl e, Nat.le_refl _, Nat.le_refl _, fun _ _ _ => rfl, fun r _ ⟨b', o, mb', e1, e2, e3, hz'⟩ => ⟨b', o, mb', old e1, e2, e3, hz'⟩, rfl, rfl, rfl⟩
theorem addr_add (b o i : Nat) : (⟨b, o, none⟩ : Addr).add i = ⟨b, o + i, none⟩ := by unfold Addr.add; split <;> simp_all
variable {P : Program}
theorem run_szOf {t s : Nat} (h : szOf P t = some s) : (sizeOf t).run P w = .ok s w := by
  unfold szOf at h
  cases hi : P.info? t with
  | none => simp [hi] at h
  | some i =>
    simp only [hi, Option.map_some, Option.some.injEq] at h
    simp [sizeOf, typeInfo, hi, h]
theorem run_under {t : Nat} {d : TypeDesc} (h : P.underlying t = some d) : (underlying t).run P w = .ok d w := by simp [underlying, h]
theorem run_aggOf {t : Nat} {b : Bool} (h : aggOf P t = some b) : (isAgg t).run P w = .ok b w := by
  unfold aggOf at h
  cases hi : P.underlying t with
  | none => simp [hi] at h
  | some d =>
    simp only [hi, Option.map_some, Option.some.injEq] at h
    subst h
    simp only [isAgg, Sem.run_bind, run_under hi, Result.andThen_ok]
    cases d <;> rfl
def Reads (Z : Nat → Prop) (w : World) (blk base : Nat) (cs : List AV) (m : AMap) : Prop := ∃ us, cellsAt w blk base us ∧ RVs Z w cs m us
theorem Reads.cut {blk base : Nat} {cs : List AV} (hd : Reads Z w blk base cs m) (off k : Nat) : Reads Z w blk (base + off) (cut cs off k) m := by
  obtain ⟨us, h1, h2⟩ := hd
  refine ⟨(us.drop off).take k, fun i hi => ?_, RVs_cut h2 off k⟩
  simp only [List.length_take, List.length_drop] at hi
  rw [Nat.add_assoc, h1 (off + i) (by omega)]
  rw [List.getElem?_take, if_pos (by omega), List.getElem?_drop]
theorem Reads.run {blk base : Nat} {cs : List AV} (hd : Reads Z w blk base cs m) : ∃ us, (loadCells ⟨blk, base, none⟩ cs.length).run P w = .ok us.toArray w ∧ RVs Z w cs m us := by
  obtain ⟨us, h1, h2⟩ := hd
  refine ⟨us, ?_, h2⟩
  rw [← RVs_len h2]
  refine run_loadCells_list w _ us fun j v hj => ?_
  have hlt : j < us.length := by
    rcases Nat.lt_or_ge j us.length with h | h
    · exact h
    · rw [List.getElem?_eq_none h] at hj; cases hj
  rw [addr_add, h1 j hlt, hj]
theorem loadA_sound {blk base off t : Nat} {cs : List AV} {v : AV} (hd : Reads Z w blk base cs m) (hv : loadA P cs off t = some v) :
    ∃ u, (loadVar t ⟨blk, base + off, none⟩).run P w = .ok u w ∧ RV Z w v m u := by
  unfold loadA at hv
  split at hv
  · rename_i s ha hs
    split at hv
    · rename_i hlen
      injection hv with hv; subst hv
      obtain ⟨us, h1, h2⟩ := (hd.cut off s).run (P := P)
      have hl : (Bv.cut cs off s).length = s := by simp [Bv.cut]; omega
      rw [hl] at h1
      exact ⟨.agg us.toArray, by simp [loadVar, run_aggOf ha, run_szOf hs, h1], by simp only [RV]; exact ⟨us, rfl, h2⟩⟩
    · cases hv
  · rename_i s ha hs
    obtain ⟨us, h1, h2⟩ := hd
    obtain ⟨u, h3, h4, h5⟩ := RVs_get h2 off hv
    have hlt : off < us.length := by
      rcases Nat.lt_or_ge off us.length with h | h
      · exact h
      · rw [List.getElem?_eq_none h] at h3; cases h3
    have hc := h1 off hlt
    rw [h3] at hc
    exact ⟨u, by simp [loadVar, run_aggOf ha, hc], h5⟩
  · cases hv
theorem HR.reads (hr : HR C m Z h w) {b es : Nat} {cs : List AV} {fz : Bool} {mb : MB} (e : h b = some (.cells cs es fz)) (e' : m b = some mb) : Reads Z w mb.rb mb.base cs m := by
  obtain ⟨mb', c, _, us, h1, _, _, h4, h5, h6, _⟩ := hr.cells b cs es fz e
  rw [e'] at h1; injection h1 with h1; subst h1
  exact ⟨us, fun i hi => by rw [← h5 i hi]; simp [World.cell?, h4], h6⟩
theorem Reads.none {blk base : Nat} {cs : List AV} (hd : Reads Z w blk base cs noMap) : Reads Z w blk base cs m := by
  obtain ⟨us, h1, h2⟩ := hd
  exact ⟨us, h1, RVs_mono (fun _ h => h) (fun _ _ => rfl) cs (fun b x e => by cases e) h2⟩
theorem loadAt_sound (hr : HR C m Z h w) {t : Nat} {a v : AV} {x : Value} (ha : RV Z w a m x) (hv : loadAt P h t a = some v) :
    ∃ u, (Instr.loadAt t x).run P w = .ok u w ∧ RV Z w v m u := by
  cases a <;> simp only [Bv.loadAt] at hv <;> try (cases hv; done)
  case ptr b off =>
    split at hv
    · rename_i cs es fz hb
      simp only [RV] at ha
      obtain ⟨mb, h1, rfl⟩ := ha
      obtain ⟨u, h2, h3⟩ := loadA_sound (hr.reads hb h1) hv
      exact ⟨u, by simp [Instr.loadAt, Instr.sureAddr, h2], h3⟩
    · cases hv
  case pptr cs off =>
    simp only [RV] at ha
    obtain ⟨blk, base, us, rfl, hz, h1, h2⟩ := ha
    obtain ⟨u, h3, h4⟩ := loadA_sound (m := m) (Reads.none ⟨us, h1, h2⟩) hv
    exact ⟨u, by simp [Instr.loadAt, Instr.sureAddr, h3], h4⟩
end
end Go.Proofs.Bv
namespace Go.Proofs.Bv
open Go
def OpOk (C : Cfg) (m : AMap) (Z : Nat → Prop) (h : Heap) (n : Nat) (w : World) (res : Result Next) (v : AV) (h' : Heap) (n' : Nat) : Prop :=
  ∃ nx w' m' Z' u, res = .ok nx w' ∧ (nx = .value u ∨ (nx = .skip ∧ u = undef)) ∧ Step C m Z h n w m' Z' h' n' w' ∧ RV Z' w' v m' u
section
variable {C : Cfg} {P : Program} {m m' : AMap} {Z Z' : Nat → Prop} {h h' : Heap} {n n' : Nat} {w w' : World}
theorem OpOk.same (hr : HR C m Z h w) {res : Result Next} {v : AV} {u : Value} (e : res = .ok (.value u) w) (hv : RV Z w v m u) : OpOk C m Z h n w res v h n :=
  ⟨_, w, m, Z, u, e, .inl rfl, Step.refl hr, hv⟩
theorem pureRun_run {α : Type} : {s : Sem α} → {a : α} → pureRun P s = some a → s.run P w = .ok a w
  | .pure b, a, h => by simp only [pureRun, Option.some.injEq] at h; subst h; rfl
  | .program k, a, h => by simp only [pureRun] at h; simp only [Sem.run]; exact pureRun_run h
  | .load .., _, h | .store .., _, h | .new .., _, h | .shape .., _, h | .freeze .., _, h | .frozen .., _, h | .getObj .., _, h | .setObj .., _, h | .choose .., _, h | .sys .., _, h | .mark .., _, h | .halt .., _, h => by simp [pureRun] at h
theorem RV_ofCell (v : Value) : RV Z w (ofCell v) m v := by
  unfold ofCell
  split
  · simp only [RV]
  · split
    · simp only [RV]; exact ⟨trivial, by assumption⟩
    · simp only [RV]
theorem RVs_ofCells : (l : List Value) → ((l.map ofCell).all AV.one = true) → RVs Z w (l.map ofCell) m l
  | [], _ => by simp [RVs]
  | v :: l, ho => by
    simp only [List.map_cons, List.all_cons, Bool.and_eq_true] at ho
    simp only [List.map_cons, RVs]
    exact ⟨v, l, rfl, ho.1, RV_ofCell v, RVs_ofCells l ho.2⟩
theorem RV_ofV (v : Value) : RV Z w (ofV v) m v := by
  cases v with
  | agg cs =>
    unfold ofV
    dsimp only
    split
    · rename_i ho
      simp only [RV]
      exact ⟨cs.toList, by simp, RVs_ofCells _ ho⟩
    · simp only [RV]
  | _ => unfold ofV; exact RV_ofCell _
theorem RV_scal {u : Value} {v : AV} (hs : scal u = some v) : RV Z w v m u := by
  unfold scal at hs
  split at hs
  · injection hs with hs; subst hs; simp only [RV]; exact ⟨trivial, by assumption⟩
  · cases hs
theorem RV_toVal {a : AV} {u v : Value} (ht : toVal a = some u) (ha : RV Z w a m v) : v = u ∧ plain u = true := by
  cases a <;> simp only [toVal] at ht <;> try (cases ht; done)
  injection ht with ht; subst ht
  simpa only [RV] using ha
theorem zeroA_sound {t : Nat} {z : List AV} (hz : zeroA P t = some z) : ∃ u, (P.info? t).bind (·.zero) = some u ∧ (zeroValue t).run P w = .ok u w ∧ RVs Z w z m u.cells.toList := by
  unfold zeroA at hz
  split at hz
  · rename_i u hu
    split at hz
    · rename_i ho
      injection hz with hz; subst hz
      refine ⟨u, hu, ?_, RV_cells (RV_ofV u) ho⟩
      cases hi : P.info? t with
      | none => simp [hi] at hu
      | some i =>
        simp only [hi, Option.bind_some] at hu
        simp [zeroValue, typeInfo, hi, hu]
    · cases hz
  · cases hz
theorem new_sound (hr : HR C m Z h w) (hn : m n = none) {cs : List AV} {us : List Value} (e es : Nat) (hc : RVs Z w cs m us) :
    Step C m Z h n w (upd m n (some ⟨w.heap.size, 0, us.length, es⟩)) Z (upd h n (some (.cells cs es false))) (n + 1) (w.alloc (.cells us.toArray e)) :=
  Step.push (o := .cells us.toArray e) hr hn rfl ⟨rfl, us.toArray, e, us, rfl, rfl, by simp, fun i hi => by simp, hc⟩
theorem new_spare (hr : HR C m Z h w) (hn : m n = none) {cs : List AV} {us : List Value} (rest : List Value) (e es : Nat) (hc : RVs Z w cs m us) :
    Step C m Z h n w (upd m n (some ⟨w.heap.size, 0, (us ++ rest).length, es⟩)) Z (upd h n (some (.cells cs es false))) (n + 1) (w.alloc (.cells (us ++ rest).toArray e)) :=
  Step.push (o := .cells (us ++ rest).toArray e) hr hn rfl ⟨rfl, (us ++ rest).toArray, e, us, rfl, rfl, by simp, fun i hi => by simp [List.getElem?_append_left hi], hc⟩
theorem alloc_sound (hr : HR C m Z h w) (hn : m n = none) {e : Nat} {z : List AV} (hz : zeroA P e = some z) :
    OpOk C m Z h n w (((do pure (.value (← Instr.alloc e true (.tuple #[]))) : Sem Next)).run P w) (.ptr n 0) (upd h n (some (.cells z 0 false))) (n + 1) := by
  obtain ⟨u, _, h1, h2⟩ := zeroA_sound (w := w) (Z := Z) (m := m) hz
  refine ⟨_, _, _, Z, .pointer (some ⟨w.heap.size, 0, none⟩), ?_, .inl rfl, new_sound hr hn e 0 h2, ?_⟩
  · simp [Instr.alloc, h1, newVar, newRow]
  · simp only [RV]; exact ⟨_, upd_same _ _ _, rfl⟩
theorem box_sound (hr : HR C m Z h w) (hn : m n = none) {e : Nat} {a : AV} {v : Value} (ho : a.cells.all AV.one = true) (ha : RV Z w a m v) :
    OpOk C m Z h n w (((do pure (.value (← Instr.box e v)) : Sem Next)).run P w) (.ptr n 0) (upd h n (some (.cells a.cells 0 false))) (n + 1) := by
  have h2 := RV_cells ha ho
  refine ⟨_, _, _, Z, .pointer (some ⟨w.heap.size, 0, none⟩), ?_, .inl rfl, new_sound hr hn e 0 h2, ?_⟩
  · simp [Instr.box, newVar, newRow]
  · simp only [RV]; exact ⟨_, upd_same _ _ _, rfl⟩
theorem oneV_one {u : Value} (h : oneV u = true) : u.oneCell' = true := by cases u <;> simp_all [oneV, Value.oneCell']
theorem setRow_size (g : Nat) (c : Array Value) : (w.setRow g c).heap.size = w.heap.size := by simp [World.setRow]
theorem write_sound (hr : HR C m Z h w) {b es off : Nat} {cs vs : List AV} {us : List Value} {mb : MB} (hb : h b = some (.cells cs es false)) (hm : m b = some mb)
    (hvs : RVs Z w vs m us) (hfit : off + us.length ≤ cs.length) :
    ∃ w', (storeCells ⟨mb.rb, mb.base + off, none⟩ us).run P w = .ok () w' ∧ Step C m Z h n w m Z (upd h b (some (.cells (storeA cs off vs) es false))) n w' := by
  obtain ⟨mb', c, e, us0, g1, g2, g3, g4, g5, g6, g7⟩ := hr.cells b cs es false hb
  obtain rfl : mb = mb' := by rw [hm] at g1; injection g1
  have hz : ¬ Z mb.rb := fun e => by simpa using g7.2 e
  have hl0 : us0.length = cs.length := RVs_len g6
  have hbound : ∀ i, i < us0.length → mb.base + i < c.size := fun i hi => by
    have := g5 i hi
    rw [List.getElem?_eq_getElem hi] at this
    exact (Array.getElem?_eq_some_iff.1 this).1
  have hlen : us.length = 0 ∨ mb.base + off + us.length ≤ c.size := by
    rcases Nat.eq_zero_or_pos us.length with h | h
    · exact .inl h
    · have := hbound (off + us.length - 1) (by omega); exact .inr (by omega)
  rcases hlen with hlen | hlen
  · obtain rfl : us = [] := List.eq_nil_of_length_eq_zero hlen
    have hv : vs = [] := by have := RVs_len hvs; simp at this; exact List.eq_nil_of_length_eq_zero this.symm
    subst hv
    refine ⟨w, rfl, ?_⟩
    have : storeA cs off [] = cs := by simp [storeA]
    rw [this]
    exact Step.write (bk' := .cells cs es false) hr hb hm hz rfl (fun _ _ => rfl) rfl rfl rfl ⟨rfl, c, e, us0, g4, g2, g3, g5, g6⟩
  · have hrun := run_storeCells_at (P := P) mb.rb (mb.base + off) e us 0 c w g4 (by simpa using hlen) (fun v hv => oneV_one (RVs_oneV hvs v hv))
    refine ⟨_, hrun, ?_⟩
    refine Step.write (bk' := .cells (storeA cs off vs) es false) hr hb hm hz (setRow_size _ _) (fun r hne => setRow_other w mb.rb r _ hne) rfl rfl rfl
      ⟨rfl, _, e, us0.take off ++ us ++ us0.drop (off + us.length), setRow_heap w mb.rb c _ e _ g4, g2, ?_, ?_, RVs_store g6 hvs off⟩
    · rw [g3]; simp; omega
    · intro i hi
      simp only [List.length_append, List.length_take, List.length_drop] at hi
      simp only [Nat.add_zero, List.getElem?_toArray]
      have hc : ∀ j, j < us0.length → c.toList[mb.base + j]? = us0[j]? := fun j hj => by rw [← g5 j hj]; simp
      by_cases h1 : i < off
      · rw [List.append_assoc, List.getElem?_append_left (by simp; omega), List.getElem?_take, if_pos (by omega), List.append_assoc, List.getElem?_append_left (by simp; omega), List.getElem?_take, if_pos h1]
        exact hc i (by omega)
      · by_cases h2 : i < off + us.length
        · rw [List.append_assoc, List.getElem?_append_right (by simp; omega), List.getElem?_append_left (by simp; omega), List.append_assoc, List.getElem?_append_right (by simp; omega), List.getElem?_append_left (by simp; omega)]
          congr 1
          simp
          omega
        · rw [List.getElem?_append_right (by simp; omega), List.getElem?_drop, List.getElem?_append_right (by simp; omega), List.getElem?_drop]
          have e1 : mb.base + off + us.length + (mb.base + i - (c.toList.take (mb.base + off) ++ us).length) = mb.base + i := by simp; omega
          have e2 : off + us.length + (i - (us0.take off ++ us).length) = i := by simp; omega
          rw [e1, e2]
          exact hc i (by omega)
theorem store_sound (hr : HR C m Z h w) {t b off es s : Nat} {cs : List AV} {a : AV} {v x : Value} (hs : szOf P t = some s) (hb : h b = some (.cells cs es false))
    (hx : RV Z w (.ptr b off) m x) (ha : RV Z w a m v) (hl : a.cells.length = s) (hfit : off + s ≤ cs.length) (ho : a.cells.all AV.one = true) :
    OpOk C m Z h n w (((do Instr.storeAt t x v; pure .skip : Sem Next)).run P w) .junk (upd h b (some (.cells (storeA cs off a.cells) es false))) n := by
  simp only [RV] at hx
  obtain ⟨mb, h1, rfl⟩ := hx
  have h2 := RV_cells ha ho
  have h3 : v.cells.size = s := by have := RVs_len h2; simp at this; omega
  obtain ⟨w', h4, h5⟩ := write_sound (P := P) (n := n) (off := off) hr hb h1 h2 (by simp; omega)
  refine ⟨.skip, w', m, Z, undef, ?_, .inr ⟨rfl, rfl⟩, h5, by simp only [RV]⟩
  simp [Instr.storeAt, Instr.sureAddr, storeVar, run_szOf hs, h3, h4]
end
end Go.Proofs.Bv
namespace Go.Proofs.Bv
open Go
section
variable {C : Cfg} {P : Program} {m m' : AMap} {Z Z' : Nat → Prop} {h h' : Heap} {n n' : Nat} {w w' : World}
theorem fold_set (off : Nat) : ∀ (l : List Value) (k : Nat) (cs : Array Value), off + k + l.length ≤ cs.size →
    (l.zipIdx k).foldl (fun (cs : Array Value) (x : Value × Nat) => cs.setIfInBounds (off + x.2) x.1) cs = (cs.toList.take (off + k) ++ l ++ cs.toList.drop (off + k + l.length)).toArray
  | [], k, cs, _ => by simp
  | v :: l, k, cs, hl => by
    simp only [List.length_cons] at hl
    simp only [List.zipIdx_cons, List.foldl_cons]
    rw [fold_set off l (k + 1) _ (by simp; omega)]
    congr 1
    simp only [Array.toList_setIfInBounds, List.length_cons]
    have hlt : off + k < cs.toList.length := by simp; omega
    rw [List.set_eq_take_append_cons_drop, if_pos hlt]
    have e1 : (cs.toList.take (off + k)).length = off + k := by simp; omega
    rw [List.take_append, List.drop_append, e1]
    have e2 : off + (k + 1) - (off + k) = 1 := by omega
    have e3 : off + (k + 1) + l.length - (off + k) = l.length + 1 := by omega
    rw [e2, e3, List.drop_eq_nil_of_le (as := cs.toList.take (off + k)) (by simp; omega), List.take_of_length_le (l := cs.toList.take (off + k)) (by simp; omega)]
    simp only [List.take_succ_cons, List.take_zero, List.drop_succ_cons, List.nil_append, List.drop_drop, List.append_assoc, List.singleton_append, List.cons_append]
    congr 3
    congr 1
    omega
theorem fill_sound {place : Nat → Option (Nat × Nat)} : (ps : List (Nat × AV)) → (qs : List (Nat × Value)) → {cs r : List AV} → {us : List Value} → RVs Z w cs m us →
    qs.length = ps.length → (∀ (i : Nat) (a : Nat × AV), ps[i]? = some a → ∃ v, qs[i]? = some (a.1, v) ∧ RV Z w a.2 m v) → fillA place cs ps = some r →
    ∃ us', Instr.fill place us.toArray qs = some us'.toArray ∧ RVs Z w r m us'
  | [], qs, cs, r, us, hc, hl, hq, hr => by
    obtain rfl : qs = [] := List.eq_nil_of_length_eq_zero (by simpa using hl)
    simp only [fillA, Option.some.injEq] at hr
    subst hr
    exact ⟨us, rfl, hc⟩
  | (i, a) :: ps, qs, cs, r, us, hc, hl, hq, hr => by
    obtain ⟨v, hv, ha⟩ := hq 0 _ rfl
    cases qs with
    | nil => simp at hl
    | cons q qs =>
      simp only [List.getElem?_cons_zero, Option.some.injEq] at hv
      subst hv
      simp only [fillA] at hr
      split at hr
      · cases hr
      · rename_i off size hp
        split at hr
        · cases hr
        · rename_i hno
          simp only [not_or, ne_eq, Decidable.not_not, Bool.not_eq_true', Bool.not_eq_false] at hno
          obtain ⟨h1, h2, h3⟩ := hno
          have hcs := RV_cells ha (by simpa using h3)
          have hlc : v.cells.toList.length = a.cells.length := RVs_len hcs
          have hlu := RVs_len hc
          obtain ⟨us', h4, h5⟩ := fill_sound ps qs (RVs_store hc hcs off) (by simpa using hl) (fun j b hj => hq (j + 1) b hj) hr
          refine ⟨us', ?_, h5⟩
          simp only [Instr.fill, hp]
          rw [Array.length_toList] at hlc
          rw [if_neg (by simp; omega)]
          have e1 : (v.cells.zipIdx.foldl (fun cs (x : Value × Nat) => cs.setIfInBounds (off + x.2) x.1) us.toArray) = (us.take off ++ v.cells.toList ++ us.drop (off + v.cells.toList.length)).toArray := by
            have := fold_set off v.cells.toList 0 us.toArray (by simp; omega)
            rw [← Array.foldl_toList, Array.toList_zipIdx]
            simpa using this
          rw [← h4]
          congr 1
theorem mapM_some {α β : Type} (f : α → Option β) : (l : List α) → {r : List β} → l.mapM f = some r → (∀ (i : Nat) (a : α), l[i]? = some a → ∃ b, f a = some b ∧ r[i]? = some b) ∧ r.length = l.length
  | [], r, hr => by simp at hr; subst hr; simp
  | a :: l, r, hr => by
    simp only [List.mapM_cons, Option.bind_eq_bind, Option.pure_def] at hr
    cases hf : f a with
    | none => simp [hf] at hr
    | some b =>
      cases hl : l.mapM f with
      | none => simp [hf, hl] at hr
      | some bs =>
        simp only [hf, hl, Option.bind_some, Option.some.injEq] at hr
        subst hr
        have ih := mapM_some f l hl
        refine ⟨fun i x hi => ?_, by simp [ih.2]⟩
        cases i with
        | zero => simp at hi; subst hi; exact ⟨b, hf, rfl⟩
        | succ i => simp only [List.getElem?_cons_succ] at hi ⊢; exact ih.1 i x hi
theorem run_mapM_list {α β : Type} (f : α → Sem β) (g : α → Option β) : (l : List α) → {r : List β} → (∀ a b, g a = some b → (f a).run P w = .ok b w) → l.mapM g = some r →
    (l.mapM f).run P w = .ok r w
  | [], r, _, hr => by simp at hr; subst hr; simp
  | a :: l, r, hf, hr => by
    simp only [List.mapM_cons, Option.bind_eq_bind, Option.pure_def] at hr
    cases ha : g a with
    | none => simp [ha] at hr
    | some b =>
      cases hl : l.mapM g with
      | none => simp [ha, hl] at hr
      | some bs =>
        simp only [ha, hl, Option.bind_some, Option.some.injEq] at hr
        subst hr
        simp [List.mapM_cons, hf a b ha, run_mapM_list f g l hf hl]
theorem run_mapM_array {α β : Type} (f : α → Sem β) (g : α → Option β) (l : Array α) {r : List β} (hf : ∀ a b, g a = some b → (f a).run P w = .ok b w) (hr : l.toList.mapM g = some r) :
    (l.mapM f).run P w = .ok r.toArray w := by
  rw [Array.mapM_eq_mapM_toList]
  simp [run_mapM_list f g l.toList hf hr]
theorem parts_ok (ρ : Operand → AV) (ev : Operand → Value) (hρ : ∀ x, RV Z w (ρ x) m (ev x)) (parts : List (Nat × Operand)) :
    ∀ (i : Nat) (a : Nat × AV), (parts.map fun p => (p.1, ρ p.2))[i]? = some a → ∃ v, (parts.map fun p => (p.1, ev p.2))[i]? = some (a.1, v) ∧ RV Z w a.2 m v := by
  intro i a hi
  simp only [List.getElem?_map, Option.map_eq_some_iff] at hi ⊢
  obtain ⟨p, hp, rfl⟩ := hi
  exact ⟨ev p.2, ⟨p, hp, rfl⟩, hρ p.2⟩
theorem build_struct (hr : HR C m Z h w) {t : Nat} {fs : Array Field} {z cs : List AV} {places : List (Nat × Nat)} {ps : List (Nat × AV)} {qs : Array (Nat × Value)}
    (hu : P.underlying t = some (.struct fs)) (hz : zeroA P t = some z) (hp : (fs.toList.mapM fun f => (szOf P f.type).map fun s => (f.offset, s)) = some places)
    (hq : ∀ (i : Nat) (a : Nat × AV), ps[i]? = some a → ∃ v, qs.toList[i]? = some (a.1, v) ∧ RV Z w a.2 m v) (hl : qs.size = ps.length) (hf : fillA (places[·]?) z ps = some cs) :
    OpOk C m Z h n w (((do pure (.value (← Instr.build t qs)) : Sem Next)).run P w) (.agg cs) h n := by
  obtain ⟨u, _, h1, h2⟩ := zeroA_sound (w := w) (Z := Z) (m := m) hz
  obtain ⟨us, h3, h4⟩ := fill_sound ps qs.toList h2 (by simpa using hl) hq hf
  have h5 : (fs.mapM fun f => (do pure (f.offset, ← sizeOf f.type) : Sem (Nat × Nat))).run P w = .ok places.toArray w := by
    refine run_mapM_array (P := P) (w := w) _ (fun f => (szOf P f.type).map fun s => (f.offset, s)) fs (fun f b hb => ?_) hp
    simp only [Option.map_eq_some_iff] at hb
    obtain ⟨s, hs, rfl⟩ := hb
    simp [run_szOf hs]
  refine OpOk.same (u := .agg us.toArray) hr ?_ (by simp only [RV]; exact ⟨us, rfl, h4⟩)
  have h6 : Instr.fill (fun x => places.toArray[x]?) u.cells qs.toList = some us.toArray := by
    have : (fun x => places.toArray[x]?) = (fun x : Nat => places[x]?) := by funext x; simp
    rw [this, ← h3]
  simp only [Instr.build, Sem.run_bind, h1, Result.andThen_ok, run_under hu, h5, h6, Sem.run_pure]
theorem rep_length {α : Type} (k : Nat) (l : List α) : (rep k l).length = k * l.length := by
  induction k with
  | zero => simp [rep]
  | succ k ih => simp [rep, ih, Nat.add_mul]; omega
theorem rep_get {α : Type} (l : List α) (hl : 0 < l.length) : ∀ (k i : Nat), i < k * l.length → (rep k l)[i]? = l[i % l.length]?
  | 0, i, hi => by simp at hi
  | k + 1, i, hi => by
    simp only [rep]
    by_cases h : i < l.length
    · rw [List.getElem?_append_left h, Nat.mod_eq_of_lt h]
    · rw [List.getElem?_append_right (by omega), rep_get l hl k _ (by rw [Nat.add_mul] at hi; omega), Nat.mod_eq_sub_mod (a := i) (by omega)]
theorem RVs_rep {l : List AV} {us : List Value} (hc : RVs Z w l m us) : ∀ k, RVs Z w (rep k l) m (rep k us)
  | 0 => by simp [rep, RVs]
  | k + 1 => RVs_append hc (RVs_rep hc k)
theorem zeros_eq (u : Array Value) (hu : 0 < u.size) (k : Nat) : ((Array.range (k * u.size)).map (u[· % u.size]!)).toList = rep k u.toList := by
  apply List.ext_getElem?
  intro i
  simp only [Array.toList_map, Array.toList_range, List.getElem?_map]
  by_cases hi : i < k * u.size
  · rw [List.getElem?_range hi, rep_get _ (by simpa using hu) _ _ (by simpa using hi)]
    have := Nat.mod_lt i hu
    simp [this]
  · rw [List.getElem?_eq_none (by simpa using Nat.le_of_not_lt hi), List.getElem?_eq_none (by rw [rep_length]; simpa using Nat.le_of_not_lt hi)]
    rfl
theorem info_parts' {t : Nat} {i : TypeInfo} {u : Value} (hi : P.info? t = some i) (hz : (P.info? t).bind (·.zero) = some u) : i.zero = some u := by simpa [hi] using hz
theorem build_slice (hr : HR C m Z h w) (hn : m n = none) {t e s len : Nat} {z cs : List AV} {ps : List (Nat × AV)} {qs : Array (Nat × Value)}
    (hu : P.underlying t = some (.slice e)) (hs : szOf P e = some s) (hz : zeroA P e = some z) (hb : len * s ≤ 2 ^ 24) (hp : 0 < s) (hzl : z.length = s)
    (hq : ∀ (i : Nat) (a : Nat × AV), ps[i]? = some a → ∃ v, qs.toList[i]? = some (a.1, v) ∧ RV Z w a.2 m v) (hl : qs.size = ps.length) (hf : fillA (fun i => some (i * s, s)) (rep len z) ps = some cs)
    (hlen : cs.length = len * s) :
    OpOk C m Z h n w (((do pure (.value (← Instr.buildSlice t len qs)) : Sem Next)).run P w) (.osl n 0 len) (upd h n (some (.cells cs s false))) (n + 1) := by
  obtain ⟨u, _, h1, h2⟩ := zeroA_sound (w := w) (Z := Z) (m := m) hz
  have hus : u.cells.size = s := by have := RVs_len h2; simp at this; omega
  obtain ⟨us, h3, h4⟩ := fill_sound ps qs.toList (RVs_rep h2 len) (by simpa using hl) hq hf
  have hul := RVs_len h4
  refine ⟨_, _, _, Z, .slice (some ⟨w.heap.size, 0, none⟩) len len, ?_, .inl rfl, new_sound hr hn e s h4, ?_⟩
  · have h8 : ¬ len * s > 2 ^ 24 := by omega
    by_cases h0 : len * s = 0
    · have h9 : len = 0 := by rcases Nat.mul_eq_zero.1 h0 with h | h <;> omega
      subst h9
      simp only [rep] at h3
      have hz0 : Array.range 0 = #[] := rfl
      simp [Instr.buildSlice, run_under hu, run_szOf hs, newRow, hz0, h3]
    · have h7 := zeros_eq u.cells (by omega) len
      rw [hus] at h7
      have h10 : (Array.range (len * s)).map (u.cells[· % s]!) = (rep len u.cells.toList).toArray := by
        apply Array.ext'
        rw [h7]
      simp only [Instr.buildSlice, Sem.run_bind, run_under hu, Result.andThen_ok, run_szOf hs, if_neg h8, if_neg h0, Sem.run_pure, h1, hus, h10, h3, newRow, run_newObj, World.alloc_eq]
  · simp only [RV]
    exact ⟨_, len, upd_same _ _ _, by simp, Nat.le_refl _, by simp [hul, hlen]⟩
theorem fieldAddr_sound (hr : HR C m Z h w) {s f sz : Nat} {fs : Array Field} {fd : Field} {a v : AV} {x : Value} (hu : P.underlying s = some (.struct fs)) (hf : fs[f]? = some fd)
    (hs : szOf P fd.type = some (sz + 1)) (ha : RV Z w a m x)
    (hv : (match a with | .ptr b off => some (AV.ptr b (off + fd.offset)) | .pptr cs off => some (.pptr cs (off + fd.offset)) | _ => none) = some v) :
    OpOk C m Z h n w (((do pure (.value (← Instr.fieldAt s x f)) : Sem Next)).run P w) v h n := by
  cases a <;> simp only [Option.some.injEq] at hv <;> try (cases hv; done)
  all_goals subst hv
  case ptr b off =>
    simp only [RV] at ha
    obtain ⟨mb, h1, rfl⟩ := ha
    refine OpOk.same (u := .pointer (some ⟨mb.rb, mb.base + (off + fd.offset), none⟩)) hr ?_ (by simp only [RV]; exact ⟨mb, h1, rfl⟩)
    simp [Instr.fieldAt, run_under hu, hf, Instr.sureAddr, fieldPlace, run_szOf hs, addr_add, Nat.add_assoc]
  case pptr cs off =>
    simp only [RV] at ha
    obtain ⟨blk, base, us, rfl, h1⟩ := ha
    refine OpOk.same (u := .pointer (some ⟨blk, base + (off + fd.offset), none⟩)) hr ?_ (by simp only [RV]; exact ⟨blk, base, us, rfl, h1⟩)
    simp [Instr.fieldAt, run_under hu, hf, Instr.sureAddr, fieldPlace, run_szOf hs, addr_add, Nat.add_assoc]
theorem part_sound {t off : Nat} {cs : List AV} {us : List Value} {v : AV} (hc : RVs Z w cs m us) (hv : loadA P cs off t = some v) :
    ∃ u, (part t us.toArray off).run P w = .ok u w ∧ RV Z w v m u := by
  unfold loadA at hv
  split at hv
  · rename_i s ha hs
    split at hv
    · rename_i hlen
      injection hv with hv; subst hv
      refine ⟨.agg ((us.drop off).take s).toArray, ?_, by simp only [RV]; exact ⟨_, rfl, RVs_cut hc off s⟩⟩
      simp only [part, Sem.run_bind, run_aggOf ha, run_szOf hs, Result.andThen_ok, if_true, Sem.run_pure]
      congr 2
      apply Array.ext'
      simp [List.extract]
    · cases hv
  · rename_i s ha hs
    obtain ⟨u, h3, h4, h5⟩ := RVs_get hc off hv
    refine ⟨u, ?_, h5⟩
    simp [part, run_aggOf ha, h3]
  · cases hv
theorem field_sound (hr : HR C m Z h w) {s f : Nat} {fs : Array Field} {fd : Field} {cs : List AV} {v : AV} {x : Value} (hu : P.underlying s = some (.struct fs)) (hf : fs[f]? = some fd)
    (ha : RV Z w (.agg cs) m x) (hv : loadA P cs fd.offset fd.type = some v) :
    OpOk C m Z h n w (((do pure (.value (← Instr.field s x f)) : Sem Next)).run P w) v h n := by
  simp only [RV] at ha
  obtain ⟨us, rfl, h1⟩ := ha
  obtain ⟨u, h2, h3⟩ := part_sound (P := P) h1 hv
  refine OpOk.same hr ?_ h3
  simp [Instr.field, run_under hu, hf, asAgg, h2]
theorem asNat_sound {a : AV} {x : Value} {i : Nat} (ha : RV Z w a m x) (hi : asNat a = some i) : ∃ k, x = .int k i := by
  unfold asNat at hi
  split at hi
  · rename_i k z
    split at hi
    · injection hi with hi; subst hi
      simp only [RV] at ha
      exact ⟨k, by rw [ha.1]; congr 1; omega⟩
    · cases hi
  · cases hi
theorem indexAddr_slice (hr : HR C m Z h w) {t e s i : Nat} {a v : AV} {x ix : Value} {b : AV} (hu : P.underlying t = some (.slice e)) (hs : szOf P e = some s) (ha : RV Z w a m x) (hb : RV Z w b m ix)
    (hi : asNat b = some i)
    (hv : (match a with | .psl cs len => if i < len then some (AV.pptr cs (i * s)) else none | .osl b off len => if i < len then some (.ptr b (off + i * s)) else none | _ => none) = some v) :
    OpOk C m Z h n w (((do pure (.value (← Instr.indexAt t x ix)) : Sem Next)).run P w) v h n := by
  obtain ⟨k, rfl⟩ := asNat_sound hb hi
  cases a <;> simp only at hv <;> try (cases hv; done)
  case psl cs len =>
    split at hv
    · rename_i hlt
      injection hv with hv; subst hv
      simp only [RV] at ha
      obtain ⟨a, cap, rfl, h1⟩ := ha
      rcases h1 with ⟨rfl, _⟩ | ⟨_, blk, off, us, rfl, h2⟩
      · omega
      · refine OpOk.same (u := .pointer (some ⟨blk, off + i * s, none⟩)) hr ?_ (by simp only [RV]; exact ⟨blk, off, us, rfl, h2⟩)
        have h5 : (0 : Int) ≤ (i : Int) ∧ (i : Int) < (len : Int) := by omega
        simp [Instr.indexAt, asIntOf, run_under hu, h5, run_szOf hs, addr_add, hlt]
    · cases hv
  case osl b off len =>
    split at hv
    · rename_i hlt
      injection hv with hv; subst hv
      simp only [RV] at ha
      obtain ⟨mb, cap, h1, rfl, h2, h3⟩ := ha
      refine OpOk.same (u := .pointer (some ⟨mb.rb, mb.base + (off + i * s), none⟩)) hr ?_ (by simp only [RV]; exact ⟨mb, h1, rfl⟩)
      have h5 : (0 : Int) ≤ (i : Int) ∧ (i : Int) < (len : Int) := by omega
      simp [Instr.indexAt, asIntOf, run_under hu, h5, run_szOf hs, addr_add, Nat.add_assoc, hlt]
    · cases hv
theorem indexAddr_array (hr : HR C m Z h w) {t e s i len : Nat} {a v : AV} {x ix : Value} {b : AV} (hu : P.underlying t = some (.array len e)) (hs : szOf P e = some s) (ha : RV Z w a m x) (hb : RV Z w b m ix)
    (hi : asNat b = some i)
    (hv : (match a with | .ptr b off => if i < len then some (AV.ptr b (off + i * s)) else none | .pptr cs off => if i < len then some (.pptr cs (off + i * s)) else none | _ => none) = some v) :
    OpOk C m Z h n w (((do pure (.value (← Instr.indexAt t x ix)) : Sem Next)).run P w) v h n := by
  obtain ⟨k, rfl⟩ := asNat_sound hb hi
  cases a <;> simp only at hv <;> try (cases hv; done)
  case ptr b off =>
    split at hv
    · rename_i hlt
      injection hv with hv; subst hv
      simp only [RV] at ha
      obtain ⟨mb, h1, rfl⟩ := ha
      refine OpOk.same (u := .pointer (some ⟨mb.rb, mb.base + (off + i * s), none⟩)) hr ?_ (by simp only [RV]; exact ⟨mb, h1, rfl⟩)
      have h5 : (0 : Int) ≤ (i : Int) ∧ (i : Int) < (len : Int) := by omega
      simp [Instr.indexAt, asIntOf, run_under hu, h5, run_szOf hs, addr_add, Nat.add_assoc, hlt, Instr.sureAddr]
    · cases hv
  case pptr cs off =>
    split at hv
    · rename_i hlt
      injection hv with hv; subst hv
      simp only [RV] at ha
      obtain ⟨blk, base, us, rfl, h1⟩ := ha
      refine OpOk.same (u := .pointer (some ⟨blk, base + (off + i * s), none⟩)) hr ?_ (by simp only [RV]; exact ⟨blk, base, us, rfl, h1⟩)
      have h5 : (0 : Int) ≤ (i : Int) ∧ (i : Int) < (len : Int) := by omega
      simp [Instr.indexAt, asIntOf, run_under hu, h5, run_szOf hs, addr_add, Nat.add_assoc, hlt, Instr.sureAddr]
    · cases hv
theorem index_string (hr : HR C m Z h w) {t i : Nat} {s : ByteArray} {b : AV} {x ix : Value} {c : UInt8} (hu : P.underlying t = some .string) (ha : RV Z w (.sc (.string s)) m x) (hb : RV Z w b m ix)
    (hi : asNat b = some i) (hc : s.data[i]? = some c) :
    OpOk C m Z h n w (((do pure (.value (← Instr.index t x ix)) : Sem Next)).run P w) (.sc (.int .u8 c.toNat)) h n := by
  obtain ⟨k, rfl⟩ := asNat_sound hb hi
  simp only [RV] at ha
  obtain ⟨rfl, _⟩ := ha
  refine OpOk.same (u := .int .u8 c.toNat) hr ?_ (by simp [RV, plain])
  have h5 : (0 : Int) ≤ (i : Int) := by omega
  have h6 : s[i]? = some c := by
    rcases Array.getElem?_eq_some_iff.1 hc with ⟨h1, h2⟩
    rw [getElem?_pos s i h1, ← h2]
    rfl
  simp [Instr.index, asIntOf, run_under hu, h5, h6]
theorem index_array (hr : HR C m Z h w) {t e s i len : Nat} {cs : List AV} {b v : AV} {x ix : Value} (hu : P.underlying t = some (.array len e)) (hs : szOf P e = some s) (ha : RV Z w (.agg cs) m x) (hb : RV Z w b m ix)
    (hi : asNat b = some i) (hlt : i < len) (hv : loadA P cs (i * s) e = some v) :
    OpOk C m Z h n w (((do pure (.value (← Instr.index t x ix)) : Sem Next)).run P w) v h n := by
  obtain ⟨k, rfl⟩ := asNat_sound hb hi
  simp only [RV] at ha
  obtain ⟨us, rfl, h1⟩ := ha
  obtain ⟨u, h2, h3⟩ := part_sound (P := P) h1 hv
  refine OpOk.same hr ?_ h3
  have h5 : (0 : Int) ≤ (i : Int) ∧ (i : Int) < (len : Int) := by omega
  simp [Instr.index, asIntOf, run_under hu, h5, run_szOf hs, h2, hlt]
theorem extract_sound (hr : HR C m Z h w) {vs : List AV} {v : AV} {i : Nat} {x : Value} (ha : RV Z w (.tup vs) m x) (hv : vs[i]? = some v) :
    OpOk C m Z h n w (((do pure (.value (← Instr.extract x i)) : Sem Next)).run P w) v h n := by
  simp only [RV] at ha
  obtain ⟨us, rfl, h1⟩ := ha
  obtain ⟨u, h2, h3⟩ := RVl_get h1 i hv
  refine OpOk.same hr ?_ h3
  simp [Instr.extract, h2]
end
end Go.Proofs.Bv
