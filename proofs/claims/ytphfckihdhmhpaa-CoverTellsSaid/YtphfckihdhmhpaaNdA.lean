/- chaffref.Nodes: all nodes of a right expression, each ahead of its kids. -/
import Derived.Test.YtphfckihdhmhpaaGF
import Derived.Test.YtphfckihdhmhpaaGD
import Derived.WalkSpells
import Derived.Maps.AppendAt
import Derived.Lib.SmallJoins
namespace Go.Proofs.Ytphfckihdhmhpaa
open Go.RowKit

mutual
/-- the nodes, and how deep each is -/
def preD : Ex → Nat → List (Ex × Nat)
  | .mk k a b c d t ks, dp => (.mk k a b c d t ks, dp) :: preDs ks (dp + 1)
def preDs : List Ex → Nat → List (Ex × Nat)
  | [], _ => []
  | e :: es, dp => preD e dp ++ preDs es dp
end
def kidsN : Ex → List Ex
  | .mk _ _ _ _ _ _ ks => ks
theorem preD_eq (e : Ex) (dp : Nat) : preD e dp = (e, dp) :: preDs (kidsN e) (dp + 1) := by
  cases e
  rw [preD]
  rfl
theorem preDs_map : ∀ (es : List Ex) (dp : Nat), preDs es dp = (es.map fun e => (e, dp)).flatMap fun x => preD x.1 x.2
  | [], _ => by rw [preDs]; rfl
  | e :: es, dp => by rw [preDs, preDs_map es dp, List.map_cons, List.flatMap_cons]
theorem preDs_len : ∀ (es : List Ex) (dp : Nat), (∀ e ∈ es, ∀ dp, (preD e dp).length = nodes e) → (preDs es dp).length = nodesAll es
  | [], _, _ => by rw [preDs, nodesAll]; rfl
  | e :: es, dp, h => by rw [preDs, nodesAll, List.length_append, h e (by simp), preDs_len es dp fun e he => h e (by simp [he])]
theorem preD_len (e : Ex) : ∀ dp, (preD e dp).length = nodes e := by
  refine Ex.ind (P := fun e => ∀ dp, (preD e dp).length = nodes e) ?_ e
  intro k a b c d t ks ih dp
  rw [preD, nodes, List.length_cons, preDs_len ks _ ih]
  omega
theorem looks_D : ∀ (ks : List Ex) (n dp : Nat), (∀ e ∈ ks, ∀ n dp, (lookN e n dp).1 = 0 → ∀ x ∈ preD e dp, x.2 ≤ 12 ∧ (kidsN x.1).length ≤ 8) → (looks ks n dp).1 = 0 → ∀ x ∈ preDs ks dp, x.2 ≤ 12 ∧ (kidsN x.1).length ≤ 8
  | [], _, _, _, _ => fun x hx => by rw [preDs] at hx; cases hx
  | e :: es, n, dp, h, h0 => fun x hx => by
    unfold looks at h0
    split at h0
    · rename_i hz
      rw [preDs, List.mem_append] at hx
      rcases hx with hx | hx
      · exact h e (by simp) n dp hz x hx
      · exact looks_D es _ dp (fun e he => h e (by simp [he])) h0 x hx
    · rename_i hz
      exact absurd h0 hz
/-- none of a right expression is too deep, or has too many kids -/
theorem look_D (e : Ex) : ∀ n dp, (lookN e n dp).1 = 0 → ∀ x ∈ preD e dp, x.2 ≤ 12 ∧ (kidsN x.1).length ≤ 8 := by
  refine Ex.ind (P := fun e => ∀ n dp, (lookN e n dp).1 = 0 → ∀ x ∈ preD e dp, x.2 ≤ 12 ∧ (kidsN x.1).length ≤ 8) ?_ e
  intro k a b c d t ks ih n dp h x hx
  unfold lookN at h
  split at h
  · simp at h
  split at h
  · simp at h
  rename_i hd
  split at h
  · simp at h
  rename_i hf
  rw [preD, List.mem_cons] at hx
  rcases hx with rfl | hx
  · exact ⟨by simp only; omega, by show ks.length ≤ 8; exact fit_len (by simpa using hf)⟩
  · exact looks_D ks _ _ ih h x hx
/-- a node with its cells -/
abbrev Nde := Ex × Nat × List Value
def ndK (r : Nde) : Ex × Nat := (r.1, r.2.1)
def ndC (r : Nde) : List Value := r.2.2 ++ [.int .i64 r.2.1]
def ndF (l : List Nde) : List Value := l.flatMap ndC
def NdOkB (B : Nat) (w : World) (l : List Nde) : Prop := ∀ r ∈ l, ExIs w B r.1 r.2.2
abbrev NdOk (w : World) (l : List Nde) : Prop := NdOkB w.heap.size w l
theorem ndC_len {B : Nat} {w : World} {l : List Nde} (h : NdOkB B w l) {r : Nde} (hr : r ∈ l) : (ndC r).length = 8 := by
  unfold ndC
  rw [List.length_append, ex_len (h r hr)]
  rfl
theorem ndF_len {B : Nat} {w : World} : ∀ {l : List Nde}, NdOkB B w l → (ndF l).length = l.length * 8
  | [], _ => rfl
  | r :: l, h => by
    have h1 := ndC_len h (r := r) (by simp)
    have h2 := ndF_len (l := l) fun x hx => h x (by simp [hx])
    unfold ndF at h2 ⊢
    rw [List.flatMap_cons, List.length_append, h1, h2, List.length_cons]
    omega
theorem ndF_get {B : Nat} {w : World} : ∀ {l : List Nde}, NdOkB B w l → ∀ {i : Nat} {r : Nde}, l[i]? = some r → ∀ {u : Nat} {v : Value}, (ndC r)[u]? = some v → (ndF l)[i * 8 + u]? = some v
  | [], _, i, r, h, _, _, _ => by simp at h
  | x :: l, h, 0, r, hr, u, v, hu => by
    simp at hr
    subst hr
    unfold ndF
    rw [List.flatMap_cons, Nat.zero_mul, Nat.zero_add, List.getElem?_append_left (getElem?_lt hu)]
    exact hu
  | x :: l, h, i + 1, r, hr, u, v, hu => by
    have h1 := ndC_len h (r := x) (by simp)
    have h2 := ndF_get (l := l) (fun x hx => h x (by simp [hx])) (i := i) (by simpa using hr) hu
    unfold ndF at h2 ⊢
    rw [List.flatMap_cons, List.getElem?_append_right (by omega), h1, show (i + 1) * 8 + u - 8 = i * 8 + u by omega]
    exact h2
theorem ndF_one {B : Nat} {w : World} {l : List Nde} (h : NdOkB B w l) : ∀ u ∈ ndF l, u.oneCell' = true := by
  intro u hu
  unfold ndF at hu
  rw [List.mem_flatMap] at hu
  obtain ⟨r, hr, hu⟩ := hu
  unfold ndC at hu
  rw [List.mem_append] at hu
  rcases hu with hu | hu
  · obtain ⟨k, a, b, c, d, t, A, n, cp, he⟩ := Ex.parts _ (h r hr)
    rw [he] at hu
    simp at hu
    rcases hu with rfl | rfl | rfl | rfl | rfl | rfl | rfl <;> rfl
  · simp at hu
    subst hu
    rfl
theorem NdOk.grow {w w' : World} {l : List Nde} (h : NdOk w l) (hb : Below w.heap.size w w') : NdOk w' l := fun r hr => (h r hr).grow hb
theorem NdOkB.app {B : Nat} {w : World} {l l' : List Nde} (h : NdOkB B w l) (h' : NdOkB B w l') : NdOkB B w (l ++ l') := fun r hr => by rcases List.mem_append.1 hr with hr | hr; exact h r hr; exact h' r hr
theorem ndF_app (l l' : List Nde) : ndF (l ++ l') = ndF l ++ ndF l' := by unfold ndF; rw [List.flatMap_append]
theorem newN (w : World) (t : TypeId) (cs : List Value) : ∀ (j : Nat) (u : Value), cs[j]? = some u → (w.alloc (.cells cs.toArray t)).cell? ((⟨w.heap.size, 0, none⟩ : Addr).add j) = some u := by
  intro j u h
  have hb : Blk (w.alloc (.cells cs.toArray t)) w.heap.size t cs.toArray := blk_at rfl
  rw [cell_add, hb.cell j]
  simpa using h
theorem node_info : (Try.prog.info? 126).map (fun i => (i.zero, i.size, i.bytes)) = some (some (.agg #[.int .i64 0, .int .u64 0, .int .u64 0, .int .u64 0, .int .u64 0, .string ⟨#[]⟩, .slice none 0 0, .int .i64 0]), 8, 88) := by kernel_rfl
/-- nodes that can be read, in no block that is another row's -/
structure NdR (W : World) (own : Option Nat) (V : Option Addr) (l : List Nde) : Prop where
  lies : 0 < l.length → ∃ ad : Addr, V = some ad ∧ ad.block < W.heap.size ∧ some ad.block ≠ own ∧ ∀ j u, (ndF l)[j]? = some u → W.cell? (ad.add j) = some u
theorem NdR.keep {W W' : World} {own : Option Nat} {V : Option Addr} {l : List Nde} (h : NdR W own V l) (hg : W.grownBy W' own) {own' : Option Nat} (ho : own' = own ∨ own' = some W.heap.size) : NdR W' own' V l := by
  refine ⟨fun h0 => ?_⟩
  obtain ⟨ad, h1, h2, h3, h4⟩ := h.lies h0
  refine ⟨ad, h1, Nat.lt_of_lt_of_le h2 hg.size, ?_, fun j u hu => ?_⟩
  · rcases ho with rfl | rfl
    · exact h3
    · intro e; injection e with e; omega
  · rw [World.cell?_of_block (hg.block _ (by rw [add_block]; exact h2) (by rw [add_block]; exact h3))]
    exact h4 j u hu
theorem NdR.below {W W' : World} {own : Option Nat} {V : Option Addr} {l : List Nde} (h : NdR W own V l) (hb : Below W.heap.size W W') : NdR W' own V l := h.keep (grown_of_below hb own) (.inl rfl)
/-- the first node -/
theorem NdR.head {B : Nat} {W w : World} {own : Option Nat} {V : Option Addr} {r : Nde} {l : List Nde} (h : NdR W own V (r :: l)) (hok : NdOkB B w (r :: l)) : ∃ (ad : Addr) (k a b c d : Int) (t : ByteArray) (ks : List Ex) (A : Option Addr) (cp : Nat), V = some ad ∧ ad.block < W.heap.size ∧ r.1 = .mk k a b c d t ks ∧
    r.2.2 = exCells k a b c d t A ks.length cp ∧ ExIs w B (.mk k a b c d t ks) (exCells k a b c d t A ks.length cp) ∧ Seven W ad k a b c d t A ks.length cp ∧ W.cell? ⟨ad.block, ad.off + 7, none⟩ = some (.int .i64 r.2.1) ∧
    NdR W own (some (ad.add 8)) l := by
  obtain ⟨ad, h1, h2, h3, h4⟩ := h.lies (by simp)
  obtain ⟨e, dp, cs⟩ := r
  have hE := hok (e, dp, cs) (by simp)
  cases e with
  | mk k a b c d t ks =>
  obtain ⟨_, A, cp, hcs, _⟩ := hE.shape
  simp only at hcs hE
  subst hcs
  have h5 : ∀ j u, (exCells k a b c d t A ks.length cp)[j]? = some u → W.cell? (ad.add j) = some u := fun j u hu => h4 j u (by
    unfold ndF
    rw [List.flatMap_cons, List.getElem?_append_left (by simp [ndC, exCells]; have := getElem?_lt hu; simp [exCells] at this; omega)]
    unfold ndC
    rw [List.getElem?_append_left (getElem?_lt hu)]
    exact hu)
  refine ⟨ad, k, a, b, c, d, t, ks, A, cp, h1, h2, rfl, rfl, hE, Seven.of h5, h4 7 _ rfl, ⟨fun h0 => ⟨ad.add 8, rfl, by rw [add_block]; exact h2, by rw [add_block]; exact h3, fun j u hu => ?_⟩⟩⟩
  rw [add_add']
  refine h4 (8 + j) u ?_
  have h8 := ndC_len hok (r := (.mk k a b c d t ks, dp, exCells k a b c d t A ks.length cp)) (by simp)
  unfold ndF at hu ⊢
  rw [List.flatMap_cons, List.getElem?_append_right (by omega), h8, Nat.add_sub_cancel_left]
  exact hu
/-- a row of one's own, apart from another -/
theorem NdR.of_own {W : World} {base c : Nat} {V : Option Addr} {l : List Nde} {own : Option Nat} (h : W.ownsRow base 126 8 (.slice V l.length c) l.length (ndF l)) (ho : ∀ q, own = some q → q < base) : NdR W own V l := by
  refine ⟨fun h0 => ?_⟩
  obtain ⟨g, cap, hv, hb, hlt⟩ := h.form h0
  simp only [Value.slice.injEq] at hv
  obtain ⟨rfl, -, -⟩ := hv
  exact ⟨⟨g, 0, none⟩, rfl, hlt, fun e => by have := ho g e.symm; omega, h.cells (g := g) rfl⟩
theorem flat_len : ∀ l : List (Ex × Nat), l.length ≤ (l.flatMap fun x => preD x.1 x.2).length
  | [] => Nat.le_refl _
  | x :: l => by
    have := flat_len l
    rw [List.flatMap_cons, List.length_append, List.length_cons, preD_eq, List.length_cons]
    omega
/-- while nodes are told -/
structure NdI (B : Nat) (e : Ex) (w : World) (Vo : Option Addr) (co : Nat) (Vw : Option Addr) (cw : Nat) (out wait : List Nde) (W : World) : Prop where
  bel : Below w.heap.size w W
  eq : out.map ndK ++ (wait.map ndK).flatMap (fun x => preD x.1 x.2) = preD e 1
  okO : NdOkB B w out
  okW : NdOkB B w wait
  own : W.ownsRow w.heap.size 126 8 (.slice Vo out.length co) out.length (ndF out)
  rd : NdR W (Value.slice Vo out.length co).ownBlock Vw wait
  cap : wait.length ≤ cw
theorem NdI.len {B : Nat} {e : Ex} {w W : World} {Vo Vw : Option Addr} {co cw : Nat} {out wait : List Nde} (h : NdI B e w Vo co Vw cw out wait W) : out.length + wait.length ≤ nodes e := by
  have h1 := congrArg List.length h.eq
  rw [preD_len, List.length_append, List.length_map] at h1
  have h2 := flat_len (wait.map ndK)
  rw [List.length_map] at h2
  omega
/-- what Nodes leaves -/
def NodesQB (B : Nat) (e : Ex) (w : World) (r : Ending) (w' : World) : Prop := Below w.heap.size w w' ∧ ∃ (V : Option Addr) (c : Nat) (l : List Nde), r = .returned (.slice V l.length c) ∧ l.map ndK = preD e 1 ∧ NdOkB B w l ∧ w'.ownsRow w.heap.size 126 8 (.slice V l.length c) l.length (ndF l)
abbrev NodesQ (e : Ex) (w : World) (r : Ending) (w' : World) : Prop := NodesQB w.heap.size e w r w'
def lenV : Value → Nat
  | .slice _ n _ => n
  | _ => 0
end Go.Proofs.Ytphfckihdhmhpaa
