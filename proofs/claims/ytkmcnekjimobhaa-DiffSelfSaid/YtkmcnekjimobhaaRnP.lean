/- Rules by other names: what they mean stays. Plain. -/
import Derived.Test.YtkmcnekjimobhaaPkA
import Derived.Test.YtkmcnekjimobhaaChO
import Derived.Test.YtkmcnekjimobhaaRnE
namespace Go.Proofs.Ytkmcnekjimobhaa
open Go.RowKit

theorem fndFrom_at : ∀ (g : List Rl) (s : List UInt8) (i j : Nat), (∀ k r, g[k]? = some r → (r.1.data.toList = s ↔ k = j)) → j < g.length → fndFrom g s i = ((i + j : Nat) : Int)
  | [], _, _, _, _, h => absurd h (by simp)
  | r :: rs, s, i, 0, h, _ => by rw [fndFrom, if_pos ((h 0 r rfl).2 rfl)]; rfl
  | r :: rs, s, i, j + 1, h, hj => by
    rw [fndFrom, if_neg (fun e => by have := (h 0 r rfl).1 e; omega), fndFrom_at rs s (i + 1) j (fun k r' hr => by
      rw [h (k + 1) r' (by simpa using hr)]
      omega) (by simpa using hj)]
    congr 1
    omega
section
variable {g : List Rl}
theorem nm_at (R : RightG g) {i : Nat} {r : Rl} (h : g[i]? = some r) : nmG g r.1 = newN i := by
  unfold nmG
  rw [R.once i r h, if_neg (by omega)]
  rfl
/-- a rule is found by its new name where it was found by its old -/
theorem rn_fnd (R : RightG g) {t : ByteArray} (h : 0 ≤ fnd g t.data.toList) : fnd (rnG g) (nmG g t).data.toList = fnd g t.data.toList := by
  have h1 : fnd g t.data.toList < 0 + g.length := (fndFrom_le g t.data.toList 0).2
  have hten := R.ten
  obtain ⟨j, hj⟩ := Int.eq_ofNat_of_zero_le h
  have hj' : j < g.length := by omega
  have hn : nmG g t = newN j := by
    unfold nmG
    rw [if_neg (by omega), hj]
    rfl
  rw [hn, hj]
  have h2 := fndFrom_at (rnG g) (newN j).data.toList 0 j (fun k r hr => by
    rw [rnG_at] at hr
    cases hk : g[k]? with
    | none => rw [hk] at hr; cases hr
    | some r' =>
      rw [hk] at hr
      injection hr with hr
      subst hr
      have hkl := getElem?_lt hk
      show (nmG g r'.1).data.toList = _ ↔ _
      rw [nm_at R hk, newN_list, newN_list]
      constructor
      · exact newL_inj k (by omega) j (by omega)
      · rintro rfl; rfl) (by rw [rnG_len]; exact hj')
  rw [Nat.zero_add] at h2
  exact h2
theorem rnE_nodes : ∀ e : Ex, nodes (rnE (nmG g) e) = nodes e := by
  refine Ex.ind fun k a b c d t ks ih => ?_
  rw [rnE_mk]
  unfold nodes
  congr 1
  rw [show ∀ l : List Ex, (∀ e ∈ l, nodes (rnE (nmG g) e) = nodes e) → nodesAll (l.map (rnE (nmG g))) = nodesAll l from fun l => by
    induction l with
    | nil => intro; rfl
    | cons x l il =>
      intro h
      rw [List.map_cons, nodesAll, nodesAll, h x (by simp), il fun e he => h e (by simp [he])]]
  exact ih
theorem rn_fit (R : RightG g) {k a b c d : Int} {t : ByteArray} {n : Nat} (h : fitB k a b c d t.data.toList n = true) (h4 : k = 4 → 0 ≤ fnd g t.data.toList) : fitB k a b c d (if k = 4 then nmG g t else t).data.toList n = true := by
  by_cases hk : k = 4
  · subst hk
    rw [if_pos rfl]
    have h0 := h4 rfl
    obtain ⟨j, hj⟩ := Int.eq_ofNat_of_zero_le h0
    have h1 : fnd g t.data.toList < 0 + g.length := (fndFrom_le g t.data.toList 0).2
    have hten := R.ten
    have hn : nmG g t = newN j := by
      unfold nmG
      rw [if_neg (by omega), hj]
      rfl
    rw [hn, newN_list]
    have hb := newL_name j (by omega)
    unfold fitB lims at h ⊢
    rw [if_neg (by decide), if_neg (by decide), if_pos rfl] at h ⊢
    rw [if_pos hb]
    by_cases ht : nameB t.data.toList = true
    · rw [if_pos ht] at h
      simpa using h
    · rw [if_neg ht] at h
      cases h
  · rw [if_neg hk]; exact h
theorem rn_rt (R : RightG g) {e : Ex} (h : Rt g e) : Rt (rnG g) (rnE (nmG g) e) := by
  induction h with
  | mk k a b c d t ks hf hn hk ih =>
    rw [rnE_mk]
    refine .mk _ _ _ _ _ _ _ (by rw [List.length_map]; exact rn_fit R hf hn) (fun h4 => ?_) fun e he => ?_
    · subst h4
      rw [if_pos rfl, rn_fnd R (hn rfl)]
      exact hn rfl
    · obtain ⟨x, hx, rfl⟩ := List.mem_map.1 he
      exact ih x hx
theorem rn_look (R : RightG g) {e : Ex} (h : Rt g e) : ∀ n deep, lookN (rnE (nmG g) e) n deep = lookN e n deep := by
  induction h with
  | mk k a b c d t ks hf hn hk ih =>
    intro n deep
    rw [rnE_mk]
    unfold lookN
    rw [List.length_map, hf, rn_fit R hf hn]
    rw [show ∀ (l : List Ex) n deep, (∀ e ∈ l, ∀ n deep, lookN (rnE (nmG g) e) n deep = lookN e n deep) → looks (l.map (rnE (nmG g))) n deep = looks l n deep from fun l => by
      induction l with
      | nil => intros; rfl
      | cons x l il =>
        intro n deep h
        rw [List.map_cons, looks, looks, h x (by simp), il _ _ fun e he => h e (by simp [he])]]
    exact ih
theorem rn_right (R : RightG g) : RightG (rnG g) where
  pos := by rw [rnG_len]; exact R.pos
  ten := by rw [rnG_len]; exact R.ten
  nodes := by
    have : (rnG g).map (fun r => nodes r.2) = g.map fun r => nodes r.2 := by
      unfold rnG
      rw [List.map_map]
      exact List.map_congr_left fun r _ => rnE_nodes r.2
    rw [this]
    exact R.nodes
  named := fun r hr => by
    obtain ⟨i, hi⟩ := List.mem_iff_getElem?.1 hr
    have hil := getElem?_lt hi
    rw [rnG_len] at hil
    rw [rnG_at] at hi
    cases hk : g[i]? with
    | none => rw [hk] at hi; cases hi
    | some r' =>
      rw [hk] at hi
      injection hi with hi
      subst hi
      show nameB (nmG g r'.1).data.toList = true
      rw [nm_at R hk]
      have := R.ten
      exact newL_name i (by omega)
  once := fun j r hr => by
    rw [rnG_at] at hr
    cases hk : g[j]? with
    | none => rw [hk] at hr; cases hr
    | some r' =>
      rw [hk] at hr
      injection hr with hr
      subst hr
      have h1 := R.once j r' hk
      show fnd (rnG g) (nmG g r'.1).data.toList = _
      rw [rn_fnd R (by omega), h1]
  body := fun r hr => by
    obtain ⟨r', h', rfl⟩ := List.mem_map.1 hr
    have := R.body r' h'
    unfold checkE at this ⊢
    rw [rn_look R (R.rt r' h')]
    exact this
  rt := fun r hr => by
    obtain ⟨r', h', rfl⟩ := List.mem_map.1 hr
    exact rn_rt R (R.rt r' h')

/-! facts -/
theorem rn_of (R : RightG g) (kn : List Fa) {e : Ex} (h : Rt g e) : ofE (rnG g) kn (rnE (nmG g) e) = ofE g kn e := by
  induction h with
  | mk k a b c d t ks hf hn hk ih =>
    have hs : ofEs (rnG g) kn (ks.map (rnE (nmG g))) = ofEs g kn ks := by
      clear hf hk
      induction ks with
      | nil => rw [List.map_nil, ofEs, ofEs]
      | cons x l il => rw [List.map_cons, ofEs, ofEs, ih x (by simp), il fun e he => ih e (by simp [he])]
    rw [rnE_mk, ofE, ofE, hs]
    by_cases h4 : k = 4
    · subst h4
      simp only [Int.reduceEq, reduceIte]
      rw [rn_fnd R (hn rfl)]
    · simp only [if_neg h4]
theorem rn_nxF (R : RightG g) : nxF (rnG g) = nxF g := by
  funext kn i
  unfold nxF
  rw [rnG_at]
  cases hr : g[i]? with
  | none => rfl
  | some r => exact rn_of R kn (R.rt r (List.mem_of_getElem? hr))
theorem rn_facts (R : RightG g) : factsG (rnG g) = factsG g := by
  unfold factsG
  rw [rn_nxF R, rnG_len]
theorem rn_ofs (R : RightG g) (kn : List Fa) : ∀ {ks : List Ex}, (∀ e ∈ ks, Rt g e) → ofEs (rnG g) kn (ks.map (rnE (nmG g))) = ofEs g kn ks
  | [], _ => by rw [List.map_nil, ofEs, ofEs]
  | e :: es, h => by rw [List.map_cons, ofEs, ofEs, rn_of R kn (h e (by simp)), rn_ofs R kn fun e he => h e (by simp [he])]
theorem rn_loops (R : RightG g) (fs : List Fa) {e : Ex} (h : Rt g e) : loopsE (rnG g) fs (rnE (nmG g) e) = loopsE g fs e := by
  induction h with
  | mk k a b c d t ks hf hn hk ih =>
    have hs : loopsEs (rnG g) fs (ks.map (rnE (nmG g))) = loopsEs g fs ks := by
      clear hf hk
      induction ks with
      | nil => rw [List.map_nil, loopsEs, loopsEs]
      | cons x l il => rw [List.map_cons, loopsEs, loopsEs, ih x (by simp), il fun e he => ih e (by simp [he])]
    rw [rnE_mk, loopsE, loopsE, hs, rn_ofs R fs hk]
theorem rn_badLoop (R : RightG g) (fs : List Fa) : ∀ (l : List Rl) (i : Nat), (∀ r ∈ l, Rt g r.2) → badLoop (rnG g) fs (l.map fun r => (nmG g r.1, rnE (nmG g) r.2)) i = badLoop g fs l i
  | [], _, _ => rfl
  | r :: l, i, h => by
    rw [List.map_cons, badLoop, badLoop, rn_loops R fs (h r (by simp)), rn_badLoop R fs l (i + 1) fun r hr => h r (by simp [hr])]
theorem rn_sound (R : RightG g) (fs : List Fa) (kn : List Bool) {e : Ex} (h : Rt g e) : soundE (rnG g) fs kn (rnE (nmG g) e) = soundE g fs kn e := by
  induction h with
  | mk k a b c d t ks hf hn hk ih =>
    have hs : soundS (rnG g) fs kn (ks.map (rnE (nmG g))) = soundS g fs kn ks := by
      clear hf
      induction ks with
      | nil => rw [List.map_nil, soundS, soundS]
      | cons x l il => rw [List.map_cons, soundS, soundS, ih x (by simp), rn_of R fs (hk x (by simp)), il (fun e he => hk e (by simp [he])) fun e he => ih e (by simp [he])]
    have ha : soundA (rnG g) fs kn (ks.map (rnE (nmG g))) = soundA g fs kn ks := by
      clear hf hk hs
      induction ks with
      | nil => rw [List.map_nil, soundA, soundA]
      | cons x l il => rw [List.map_cons, soundA, soundA, ih x (by simp), il fun e he => ih e (by simp [he])]
    rw [rnE_mk, soundE, soundE, hs, ha]
    by_cases h4 : k = 4
    · subst h4
      simp only [reduceIte]
      rw [rn_fnd R (hn rfl)]
    · simp only [if_neg h4]
theorem rn_nxB (R : RightG g) (fs : List Fa) : nxB (rnG g) fs = nxB g fs := by
  funext kn i
  unfold nxB
  rw [rnG_at]
  cases hr : g[i]? with
  | none => rfl
  | some r => exact rn_sound R fs kn (R.rt r (List.mem_of_getElem? hr))
/-- as well as it was -/
theorem rn_well (h0 : checkG g = 0) : wellG (rnG g) = wellG g := by
  have R := right_of h0
  have hb : badLoop (rnG g) (factsG g) (rnG g) 0 = badLoop g (factsG g) g 0 := rn_badLoop R _ g 0 R.rt
  unfold wellG
  rw [h0, check_ofC (rn_right R), rn_facts R, hb]
  unfold knownG
  rw [rn_nxB R, rnG_len]

/-! what it means -/
def rnJ (f : ByteArray → ByteArray) : Job → Job
  | .ex e => .ex (rnE f e)
  | .kid k e => .kid k (rnE f e)
  | .seq es => .seq (es.map (rnE f))
  | .alt es => .alt (es.map (rnE f))
  | .rep e => .rep (rnE f e)
def RtJ (g : List Rl) : Job → Prop
  | .ex e => Rt g e
  | .kid _ e => Rt g e
  | .seq es => ∀ e ∈ es, Rt g e
  | .alt es => ∀ e ∈ es, Rt g e
  | .rep e => Rt g e
theorem rn_evJ (R : RightG g) (s : List UInt8) : ∀ (n : Nat) (j : Job) (p : Nat), RtJ g j → evJ (rnG g) s n (rnJ (nmG g) j) p = evJ g s n j p := by
  intro n
  induction n with
  | zero => intro j p _; rw [evJ, evJ]
  | succ n ih =>
    have hE : ∀ e p, Rt g e → evJ (rnG g) s n (.ex (rnE (nmG g) e)) p = evJ g s n (.ex e) p := fun e p h => ih (.ex e) p h
    have hR : ∀ e p, Rt g e → evJ (rnG g) s n (.rep (rnE (nmG g) e)) p = evJ g s n (.rep e) p := fun e p h => ih (.rep e) p h
    intro j p hj
    cases j with
    | ex e =>
      cases hj with
      | mk k a b c d t ks hf hn hk =>
      show ev (rnG g) s (n + 1) (rnE (nmG g) _) p = ev g s (n + 1) _ p
      have hS : evS (rnG g) s n (ks.map (rnE (nmG g))) p = evS g s n ks p := ih (.seq ks) p hk
      have hA : evA (rnG g) s n (ks.map (rnE (nmG g))) p = evA g s n ks p := ih (.alt ks) p hk
      rw [rnE_mk, ev_s, ev_s, hS, hA]
      by_cases h4 : k = 4
      · subst h4
        simp only [Int.reduceEq, reduceIte]
        rw [rn_fnd R (hn rfl), rnG_at]
        cases hr : g[(fnd g t.data.toList).toNat]? with
        | none => rfl
        | some r => exact hE r.2 p (R.rt r (List.mem_of_getElem? hr))
      · simp only [if_neg h4]
        cases ks with
        | nil => rfl
        | cons x l =>
          have hK : evK (rnG g) s n k (rnE (nmG g) x) p = evK g s n k x p := ih (.kid k x) p (hk x (by simp))
          simp only [List.map_cons, hK]
    | kid k e =>
      show evK (rnG g) s (n + 1) k (rnE (nmG g) e) p = evK g s (n + 1) k e p
      have h1 : ev (rnG g) s n (rnE (nmG g) e) p = ev g s n e p := hE e p hj
      have h2 : ∀ q, evR (rnG g) s n (rnE (nmG g) e) q = evR g s n e q := fun q => hR e q hj
      rw [evK_s, evK_s, h1]
      simp only [h2]
    | seq es =>
      cases es with
      | nil => rfl
      | cons x l =>
        have hL : ∀ q, evS (rnG g) s n (l.map (rnE (nmG g))) q = evS g s n l q := fun q => ih (.seq l) q fun e he => hj e (by simp [he])
        have h1 : ev (rnG g) s n (rnE (nmG g) x) p = ev g s n x p := hE x p (hj x (by simp))
        show evS (rnG g) s (n + 1) (rnE (nmG g) x :: l.map (rnE (nmG g))) p = evS g s (n + 1) (x :: l) p
        rw [evS_cons, evS_cons, h1]
        simp only [hL]
    | alt es =>
      cases es with
      | nil => rfl
      | cons x l =>
        have hL : ∀ q, evA (rnG g) s n (l.map (rnE (nmG g))) q = evA g s n l q := fun q => ih (.alt l) q fun e he => hj e (by simp [he])
        have h1 : ev (rnG g) s n (rnE (nmG g) x) p = ev g s n x p := hE x p (hj x (by simp))
        show evA (rnG g) s (n + 1) (rnE (nmG g) x :: l.map (rnE (nmG g))) p = evA g s (n + 1) (x :: l) p
        rw [evA_cons, evA_cons, h1]
        simp only [hL]
    | rep e =>
      show evR (rnG g) s (n + 1) (rnE (nmG g) e) p = evR g s (n + 1) e p
      have h1 : ev (rnG g) s n (rnE (nmG g) e) p = ev g s n e p := hE e p hj
      have h2 : ∀ q, evR (rnG g) s n (rnE (nmG g) e) q = evR g s n e q := fun q => hR e q hj
      rw [evR_s, evR_s, h1]
      simp only [h2]
theorem rn_sem (R : RightG g) {s : List UInt8} {e : Ex} {p : Nat} {o : Option Nat} (hr : Rt g e) : Sem (rnG g) s (rnE (nmG g) e) p o ↔ Sem g s e p o := by
  unfold Sem ev
  constructor <;> rintro ⟨n, h⟩ <;> refine ⟨n, ?_⟩
  · rw [← rn_evJ R s n (.ex e) p hr]; exact h
  · show evJ (rnG g) s n (rnJ (nmG g) (.ex e)) p = _
    rw [rn_evJ R s n (.ex e) p hr]; exact h
theorem rn_lookG (h0 : checkG g = 0) (s : ByteArray) : lookG (rnG g) s = lookG g s := by
  unfold lookG
  rw [rn_well h0]
end
end Go.Proofs.Ytkmcnekjimobhaa
