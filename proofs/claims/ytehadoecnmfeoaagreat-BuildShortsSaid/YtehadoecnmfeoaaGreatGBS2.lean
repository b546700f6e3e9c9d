/- Part 2 of this claim's texts: walks and plain laws. -/
import Derived.Test.YtehadoecnmfeoaaGreatGBS1
import Derived.Laws.OwnMore
import Derived.Deep.AppendLies
import Derived.Deep.Draws
import Derived.Maps.AppendAt
import Derived.RegionTactic
import Derived.OwnWalk
import Derived.Below
import Derived.Deep.RegionHeld
import Derived.OneCell
import Derived.RangeFuncFrom
set_option linter.unusedVariables false
set_option linter.unusedSimpArgs false
set_option linter.unusedSectionVars false
namespace Go.Proofs.YtehadoecnmfeoaaGreat
open Go.RowKit

theorem block_of_add (a : Addr) (n : Nat) : (a.add n).block = a.block := by unfold Addr.add; split <;> rfl
def Reads (w : World) (B size : Nat) (A : Option Addr) (n : Nat) (xs : List Value) : Prop :=
 xs.length = n * size ∧ (0 < n → ∃ ad, A = some ad ∧ ad.block < B ∧ ∀ j u, xs[j]? = some u → w.cell? (ad.add j) = some u)

section
variable {w w' : World} {B B' size n : Nat} {A : Option Addr} {xs : List Value}
theorem Reads.keep (h : Reads w B size A n xs) (hk : ∀ p : Addr, p.block < B → w'.cell? p = w.cell? p) : Reads w' B size A n xs :=
 ⟨h.1, fun hn => by
  obtain ⟨ad, e, hb, hc⟩ := h.2 hn
  exact ⟨ad, e, hb, fun j u hu => (hk _ (by rw [block_of_add]; exact hb)).trans (hc j u hu)⟩⟩
theorem Reads.drewN (h : Reads w B size A n xs) (k : Nat) : Reads (w.drewN k) B size A n xs := h
theorem Reads.alloc (h : Reads w B size A n xs) (hB : B ≤ w.heap.size) (o : Obj) : Reads (w.alloc o) B size A n xs := h.keep fun p hp => World.cell?_alloc_lt w o p (by omega)
end

section
variable {P : Program} (w : World)

theorem run_append_of_nil (base : Nat) (t ty e : TypeId) (i : TypeInfo) (size : Nat) (ht : P.underlying t = some (.slice e)) (hi : P.info? e = some i)
  (v : Value) (n : Nat) (xs : List Value) (hown : w.ownsRow base e size v n xs) (c : Nat) : (Builtin.append_ #[t, t] ty #[v, .slice none 0 c]).run P w = .ok v w := by
 rcases hown.2 with ⟨rfl, rfl⟩ | ⟨g, cap, cur, rfl, _, _, hnc, _⟩
 ·
  simp [Builtin.append_, run_underlying ht, sizeOf, typeInfo, hi, Builtin.lenOf, Builtin.firstCells]
 ·
  simp [Builtin.append_, run_underlying ht, sizeOf, typeInfo, hi, Builtin.lenOf, Builtin.firstCells, hnc, storeCells]

theorem run_append_any (base : Nat) (t ty e : TypeId) (i : TypeInfo) (z : Value) (size bytes : Nat) (ht : P.underlying t = some (.slice e)) (hi : P.info? e = some i) (hz : i.zero = some z)
  (hsize : i.size = size) (hby : i.bytes = bytes) (hzs : z.cells.size = size) (hsz : 0 < size)
  (v : Value) (n : Nat) (xs : List Value) (hown : w.ownsRow base e size v n xs)
  (B : Nat) (A : Option Addr) (m c : Nat) (news : List Value) (hr : Reads w B size A m news) (h1 : ∀ u ∈ news, u.oneCell' = true)
  (h63 : n + m ≤ maxLen) (hbytes : (n + m) * bytes ≤ 140737488355328) (hbase : base ≤ w.heap.size) :
  ∃ v' w', (Builtin.append_ #[t, t] ty #[v, .slice A m c]).run P w = .ok v' w' ∧ w'.ownsRow base e size v' (n + m) (xs ++ news) ∧ w.grownBy w' v.ownBlock ∧
   (v'.ownBlock = v.ownBlock ∨ v'.ownBlock = some w.heap.size) := by
 rcases A with _ | ad
 ·
  have hm : m = 0 := by
   rcases Nat.eq_zero_or_pos m with h0 | h0
   ·
    exact h0
   ·
    obtain ⟨ad, h, _⟩ := hr.2 h0
    cases h
  subst hm
  have hn : news = [] := List.eq_nil_of_length_eq_zero (by simpa using hr.1)
  subst hn
  exact ⟨v, w, run_append_of_nil w base t ty e i size ht hi v n xs hown c, by simpa using hown, World.grownBy.refl w _, .inl rfl⟩
 ·
  have hcells : ∀ j u, news[j]? = some u → w.cell? (ad.add j) = some u := by
   intro j u hu
   rcases Nat.eq_zero_or_pos m with h0 | h0
   ·
    subst h0
    have hn : news = [] := List.eq_nil_of_length_eq_zero (by simpa using hr.1)
    subst hn
    simp at hu
   ·
    obtain ⟨ad', h, _, hc⟩ := hr.2 h0
    injection h with h
    subst h
    exact hc j u hu
  obtain ⟨v', w', hrun, h2, h3, _, h5⟩ := run_append_own_at (P := P) w base t ty e i z size bytes ht hi hz hsize hby hzs hsz v n xs hown ad m c news hr.1 hcells h1 h63 hbytes hbase
  exact ⟨v', w', hrun, h2, h3, h5⟩

theorem wp_append_any {o : Oper} {a : Act} {K : Act → World → Prop} {Q : Exit → Act → World → Prop} (s x : Operand) (t : TypeId)
  (ho : o.op = .call { callee := .builtin .append, args := #[s, x], argTypes := #[t, t] })
  (base : Nat) (e : TypeId) (i : TypeInfo) (z : Value) (size bytes : Nat) (ht : P.underlying t = some (.slice e)) (hi : P.info? e = some i) (hz : i.zero = some z)
  (hsize : i.size = size) (hby : i.bytes = bytes) (hzs : z.cells.size = size) (hsz : 0 < size)
  (v : Value) (n : Nat) (xs : List Value) (hs : a.eval s = v) (hown : w.ownsRow base e size v n xs)
  (B : Nat) (A : Option Addr) (m c : Nat) (news : List Value) (hx : a.eval x = .slice A m c) (hr : Reads w B size A m news) (h1 : ∀ u ∈ news, u.oneCell' = true)
  (h63 : n + m ≤ maxLen) (hbytes : (n + m) * bytes ≤ 140737488355328) (hbase : base ≤ w.heap.size)
  (h : ∀ v' w', w'.ownsRow base e size v' (n + m) (xs ++ news) → w.grownBy w' v.ownBlock → (v'.ownBlock = v.ownBlock ∨ v'.ownBlock = some w.heap.size) → K (a.put o.dst v') w') : o.wp P a w K Q := by
 obtain ⟨v', w', hrun, h2, h3, h4⟩ := run_append_any (P := P) w base t o.type e i z size bytes ht hi hz hsize hby hzs hsz v n xs hown B A m c news hr h1 h63 hbytes hbase
 unfold Oper.wp execOp
 simp only [ho, resolve, invoke, builtin, Sem.run_bind, Sem.run_pure, Result.andThen_ok, List.map_toArray, List.map_cons, List.map_nil, hs, hx, hrun]
 exact h v' w' h2 h3 h4

theorem wpList_append_any {ops : Array Oper} {rest : List Oper} {o : Oper} {a : Act} {Q : Exit → Act → World → Prop} (hgd : o.guard = none) (s x : Operand) (t : TypeId)
  (ho : o.op = .call { callee := .builtin .append, args := #[s, x], argTypes := #[t, t] })
  (base : Nat) (e : TypeId) (i : TypeInfo) (z : Value) (size bytes : Nat) (ht : P.underlying t = some (.slice e)) (hi : P.info? e = some i) (hz : i.zero = some z)
  (hsize : i.size = size) (hby : i.bytes = bytes) (hzs : z.cells.size = size) (hsz : 0 < size)
  (v : Value) (n : Nat) (xs : List Value) (hs : a.eval s = v) (hown : w.ownsRow base e size v n xs)
  (B : Nat) (A : Option Addr) (m c : Nat) (news : List Value) (hx : a.eval x = .slice A m c) (hr : Reads w B size A m news) (h1 : ∀ u ∈ news, u.oneCell' = true)
  (h63 : n + m ≤ maxLen) (hbytes : (n + m) * bytes ≤ 140737488355328) (hbase : base ≤ w.heap.size)
  (h : ∀ v' w', w'.ownsRow base e size v' (n + m) (xs ++ news) → w.grownBy w' v.ownBlock → (v'.ownBlock = v.ownBlock ∨ v'.ownBlock = some w.heap.size) → wpList P ops Q rest (a.put o.dst v') w') : wpList P ops Q (o :: rest) a w :=
 wpList_plain hgd fun _ hK => wp_append_any w s x t ho base e i z size bytes ht hi hz hsize hby hzs hsz v n xs hs hown B A m c news hx hr h1 h63 hbytes hbase fun v' w' h2 h3 h4 => hK _ _ (h v' w' h2 h3 h4)

theorem step_append_any {ops : Array Oper} {o : Oper} {a : Act} {K : Act → World → Prop} {Q : Exit → Act → World → Prop} {E : Prop} (hgd : o.guard = none) (s x : Operand) (t : TypeId)
  (ho : o.op = .call { callee := .builtin .append, args := #[s, x], argTypes := #[t, t] })
  (base : Nat) (e : TypeId) (i : TypeInfo) (z : Value) (size bytes : Nat) (ht : P.underlying t = some (.slice e)) (hi : P.info? e = some i) (hz : i.zero = some z)
  (hsize : i.size = size) (hby : i.bytes = bytes) (hzs : z.cells.size = size) (hsz : 0 < size)
  (v : Value) (n : Nat) (xs : List Value) (hs : a.eval s = v) (hown : w.ownsRow base e size v n xs)
  (B : Nat) (A : Option Addr) (m c : Nat) (news : List Value) (hx : a.eval x = .slice A m c) (hr : Reads w B size A m news) (h1 : ∀ u ∈ news, u.oneCell' = true)
  (h63 : n + m ≤ maxLen) (hbytes : (n + m) * bytes ≤ 140737488355328) (hbase : base ≤ w.heap.size)
  (h : ∀ v' w', w'.ownsRow base e size v' (n + m) (xs ++ news) → w.grownBy w' v.ownBlock → (v'.ownBlock = v.ownBlock ∨ v'.ownBlock = some w.heap.size) → K (a.put o.dst v') w') :
  if Region.wanted o (yielded ops a.tmps) = true then Oper.wp P o a w K Q else E := by
 have hw : Region.wanted o (yielded ops a.tmps) = true := by simp [Region.wanted, hgd]
 rw [if_pos hw]
 exact wp_append_any w s x t ho base e i z size bytes ht hi hz hsize hby hzs hsz v n xs hs hown B A m c news hx hr h1 h63 hbytes hbase h
end

def flat (n sz : Nat) (f : Nat → Nat → Value) : List Value := (List.range (n * sz)).map fun m => f (m / sz) (m % sz)
theorem flat_length (n sz : Nat) (f : Nat → Nat → Value) : (flat n sz f).length = n * sz := by simp [flat]
theorem idx_lt {i j n sz : Nat} (hi : i < n) (hj : j < sz) : i * sz + j < n * sz := by
 have h1 : (i + 1) * sz ≤ n * sz := Nat.mul_le_mul_right _ hi
 rw [Nat.succ_mul] at h1
 omega
theorem flat_get {n sz : Nat} {f : Nat → Nat → Value} {i j : Nat} (hi : i < n) (hj : j < sz) : (flat n sz f)[i * sz + j]? = some (f i j) := by
 have hlt := idx_lt hi hj
 have h1 : (i * sz + j) / sz = i := by
  rw [Nat.mul_comm, Nat.mul_add_div (by omega), Nat.div_eq_of_lt hj]; omega
 have h2 : (i * sz + j) % sz = j := by
  rw [Nat.mul_comm, Nat.mul_add_mod, Nat.mod_eq_of_lt hj]
 simp [flat, hlt, h1, h2]
theorem flat_inv {n sz : Nat} {f : Nat → Nat → Value} {m : Nat} {u : Value} (hsz : 0 < sz) (h : (flat n sz f)[m]? = some u) : ∃ i j, i < n ∧ j < sz ∧ m = i * sz + j ∧ u = f i j := by
 have hm : m < n * sz := by
  have := (List.getElem?_eq_some_iff.1 h).1
  rwa [flat_length] at this
 have hi : m / sz < n := by rw [Nat.div_lt_iff_lt_mul hsz]; exact hm
 have hj : m % sz < sz := Nat.mod_lt _ hsz
 refine ⟨m / sz, m % sz, hi, hj, by rw [Nat.mul_comm]; exact (Nat.div_add_mod m sz).symm, ?_⟩
 have h2 := flat_get (f := f) hi hj
 rw [show m / sz * sz + m % sz = m by rw [Nat.mul_comm]; exact Nat.div_add_mod m sz, h] at h2
 injection h2
theorem Sl.reads {w : World} {B sz n cap : Nat} {A : Option Addr} {f : Nat → Nat → Value} (h : Sl w B sz (.slice A n cap) n f) (hsz : 0 < sz) : Reads w B sz A n (flat n sz f) := by
 obtain ⟨A', b, off, cap', hv, hn, hA, hc⟩ := h
 injection hv with hv1 hv2 hv3
 subst hv1
 refine ⟨flat_length _ _ _, fun h0 => ?_⟩
 rcases hA with ⟨rfl, hb⟩ | hz
 ·
  refine ⟨_, rfl, hb, fun m u hu => ?_⟩
  obtain ⟨i, j, hi, hj, rfl, rfl⟩ := flat_inv hsz hu
  have := hc i j hi hj
  unfold Addr.add
  split
  ·
   rename_i h1
   rw [h1] at this
   simpa using this
  ·
   exact this
 ·
  omega
theorem Sl.of_owns {w : World} {base e sz n : Nat} {v : Value} {xs : List Value} {f : Nat → Nat → Value} (h : w.ownsRow base e sz v n xs) (hx : ∀ i j, i < n → j < sz → xs[i * sz + j]? = some (f i j)) : Sl w w.heap.size sz v n f := by
 have hlt := h.lt
 obtain ⟨hl, ⟨rfl, rfl⟩ | ⟨g, cap, cur, rfl, hb, hg, hnc, hcm, hcs, htake⟩⟩ := h
 ·
  exact Sl.nil _ _ _ _
 ·
  refine ⟨some ⟨g, 0, none⟩, g, 0, cap, rfl, hnc, .inl ⟨rfl, (hlt g (by simp [Value.ownBlock])).2⟩, fun i j hi hj => ?_⟩
  have h1 := hx i j hi hj
  rw [← htake] at h1
  have h2 : cur[i * sz + j]? = some (f i j) := by
   rw [List.getElem?_take] at h1
   split at h1
   ·
    rwa [Array.getElem?_toList] at h1
   ·
    cases h1
  rw [Nat.zero_add]
  simp [World.cell?, hg, h2]

def putAll (a : Act) (dst : Nat → Tmp) (tv : Nat → Value) : List Nat → Act
 | [] => a
 | j :: r => putAll (a.put (some (dst j)) (tv j)) dst tv r
def updV (tv : Nat → Value) (j : Nat) (v : Value) : Nat → Value := fun k => if k = j then v else tv k
theorem updV_self (tv : Nat → Value) (j : Nat) (v : Value) : updV tv j v j = v := by simp [updV]
theorem updV_ne (tv : Nat → Value) {j k : Nat} (v : Value) (h : k ≠ j) : updV tv j v k = tv k := by simp [updV, h]
theorem putAll_congr (dst : Nat → Tmp) {tv tv' : Nat → Value} : ∀ (J : List Nat) (a : Act), (∀ j ∈ J, tv j = tv' j) → putAll a dst tv J = putAll a dst tv' J
 | [], _, _ => rfl
 | j :: r, a, h => by
  unfold putAll
  rw [h j (List.mem_cons_self ..)]
  exact putAll_congr dst r _ fun k hk => h k (List.mem_cons_of_mem _ hk)
theorem putAll_out (dst : Nat → Tmp) (tv : Nat → Value) (t : Tmp) (v : Value) : ∀ (J : List Nat) (a : Act), (∀ j ∈ J, dst j ≠ t) → (putAll a dst tv J).put (some t) v = putAll (a.put (some t) v) dst tv J
 | [], _, _ => rfl
 | j :: r, a, h => by
  unfold putAll
  rw [putAll_out dst tv t v r _ fun k hk => h k (List.mem_cons_of_mem _ hk)]
  rw [Act.put_comm a (tv j) v (fun d hd => by
   injection hd with hd
   intro he
   injection he with he
   exact h j (List.mem_cons_self ..) (by rw [hd, he]))]
theorem put_put (a : Act) (t : Tmp) (u v : Value) : (a.put (some t) u).put (some t) v = a.put (some t) v := by
 simp [Act.put]
theorem putAll_put (dst : Nat → Tmp) (tv : Nat → Value) (j : Nat) (v : Value) : ∀ (J : List Nat) (a : Act), j ∈ J → J.Nodup → (∀ x ∈ J, ∀ y ∈ J, dst x = dst y → x = y) → (putAll a dst tv J).put (some (dst j)) v = putAll a dst (updV tv j v) J
 | [], _, h, _, _ => by cases h
 | k :: r, a, h, hn, hd => by
  obtain ⟨hk, hr⟩ := List.nodup_cons.1 hn
  by_cases e : j = k
  ·
   subst e
   show (putAll (a.put (some (dst j)) (tv j)) dst tv r).put (some (dst j)) v = putAll (a.put (some (dst j)) (updV tv j v j)) dst (updV tv j v) r
   rw [putAll_out dst tv (dst j) v r _ (fun x hx he => hk (by rw [← hd x (List.mem_cons_of_mem _ hx) j (List.mem_cons_self ..) he]; exact hx)), put_put, updV_self]
   exact putAll_congr dst r _ fun x hx => (updV_ne tv v (fun hxj => hk (by rw [← hxj]; exact hx))).symm
  ·
   have hm : j ∈ r := by
    rcases List.mem_cons.1 h with h | h
    ·
     exact absurd h e
    ·
     exact h
   show (putAll (a.put (some (dst k)) (tv k)) dst tv r).put (some (dst j)) v = putAll (a.put (some (dst k)) (updV tv j v k)) dst (updV tv j v) r
   rw [updV_ne tv v (fun hkj => e hkj.symm)]
   exact putAll_put dst tv j v r _ hm hr fun x hx y hy => hd x (List.mem_cons_of_mem _ hx) y (List.mem_cons_of_mem _ hy)

def freeOk (md : Region.Mode) (ops : Array Oper) (listed : Array Bool) (J : List Nat) : Bool :=
 J.all (fun j => !listed.getD j true && ((ops[j]?).map (fun o => o.after.all fun e => !Region.binds md e || (decide (e.on < j) && (listed.getD e.on false || J.contains e.on)))).getD false) &&
 (List.range ops.size).all (fun k => listed.getD k true || J.contains k || ((ops[k]?).map (fun o => J.all fun j => o.after.any fun e => Region.binds md e && e.on == j)).getD false)
def listAll (listed : Array Bool) : List Nat → Array Bool
 | [] => listed
 | j :: r => listAll (listed.setIfInBounds j true) r
theorem listAll_size : ∀ (J : List Nat) (l : Array Bool), (listAll l J).size = l.size
 | [], _ => rfl
 | j :: r, l => by unfold listAll; rw [listAll_size r]; simp
theorem listAll_get : ∀ (J : List Nat) (l : Array Bool) (k : Nat), k < l.size → (listAll l J)[k]? = some (l.getD k false || J.contains k)
 | [], l, k, h => by simp [listAll, h]
 | j :: r, l, k, h => by
  unfold listAll
  rw [listAll_get r _ k (by simpa using h)]
  by_cases e : j = k
  ·
   subst e; simp [h]
  ·
   have : (k == j) = false := by simpa using fun h => e h.symm
   rw [getD_set_ne false e]
   simp only [List.contains_cons, this, Bool.false_or]

section
variable {P : Program} {ops : Array Oper} {Q : Exit → Act → World → Prop} {md : Region.Mode} {S : World → Prop}

theorem wpAnyH_free (J : List Nat) (dst : Nat → Tmp) (R : Nat → Value → World → Prop) (listed0 : Array Bool) (a0 : Act) (fe : Nat)
  (hok : freeOk md ops listed0 J = true) (hsz : listed0.size = ops.size) (hnd : J.Nodup) (hdst : ∀ x ∈ J, ∀ y ∈ J, dst x = dst y → x = y)
  (hkeep : ∀ j ∈ J, ∀ v w w', Below w.heap.size w w' → R j v w → R j v w')
  (hstep : ∀ j ∈ J, ∀ (tv : Nat → Value) (w : World), S w → (∀ o, ops[j]? = some o → ∀ e ∈ o.after, Region.binds md e = true → e.on ∈ J → R e.on (tv e.on) w) →
   wpOp P ops Q j (fun a' w' => (∃ v, a' = (putAll a0 dst tv J).put (some (dst j)) v ∧ R j v w') ∧ Below w.heap.size w w' ∧ S w') (putAll a0 dst tv J) w)
  (hend : ∀ (tv : Nat → Value) (w : World), S w → (∀ j ∈ J, R j (tv j) w) → wpAnyH P md ops Q S fe (listAll listed0 J) (putAll a0 dst tv J) w) :
  ∀ (m : Nat) (listed : Array Bool) (tv : Nat → Value) (w : World), (J.filter fun j => !listed.getD j true).length = m → listed.size = ops.size →
   (∀ k, k ∉ J → listed[k]? = listed0[k]?) → S w → (∀ j ∈ J, listed.getD j true = true → R j (tv j) w) → wpAnyH P md ops Q S (m + fe) listed (putAll a0 dst tv J) w := by
 have hok' := hok
 unfold freeOk at hok'
 rw [Bool.and_eq_true, List.all_eq_true, List.all_eq_true] at hok'
 obtain ⟨hJ, hrest⟩ := hok'
 have hlt : ∀ j ∈ J, j < ops.size := fun j hj => by
  have := hJ j hj
  rcases Nat.lt_or_ge j ops.size with h | h
  ·
   exact h
  ·
   simp [Array.getElem?_eq_none h] at this
 intro m
 induction m with
 | zero =>
  intro listed tv w hm hls hout hS hR
  have hall : ∀ j ∈ J, listed.getD j true = true := fun j hj => by
   have h0 : J.filter (fun j => !listed.getD j true) = [] := List.eq_nil_of_length_eq_zero hm
   rw [List.filter_eq_nil_iff] at h0
   simpa using h0 j hj
  have he : listed = listAll listed0 J := by
   apply Array.ext_getElem?
   intro k
   rcases Nat.lt_or_ge k listed.size with h | h
   ·
    rw [listAll_get J listed0 k (by omega)]
    by_cases hk : k ∈ J
    ·
     have := hall k hk
     simp [h] at this
     simp [h, this, hk]
    ·
     rw [hout k hk]
     have h2 : k < listed0.size := by omega
     simp [h2, hk]
   ·
    rw [Array.getElem?_eq_none h, Array.getElem?_eq_none (by rw [listAll_size]; omega)]
  rw [Nat.zero_add, he]
  exact hend tv w hS fun j hj => hR j hj (hall j hj)
 | succ m ih =>
  intro listed tv w hm hls hout hS hR
  rw [show m + 1 + fe = (m + fe) + 1 by omega]
  have hready : ∀ i ∈ Region.ready md ops listed, i ∈ J := by
   intro i hi
   obtain ⟨h0, o, ho, hd⟩ := mem_ready.1 hi
   have hio : i < ops.size := (Array.getElem?_eq_some_iff.1 ho).1
   have h1 := hrest i (by simpa using hio)
   by_cases hiJ : i ∈ J
   ·
    exact hiJ
   ·
    exfalso
    have hi0 : listed0.getD i true = false := by
     have : listed0[i]? = listed[i]? := (hout i hiJ).symm
     simp only [Array.getD_eq_getD_getElem?, this] at h0 ⊢
     exact h0
    rw [hi0] at h1
    simp [hiJ, ho] at h1
    have h2 : ∀ j ∈ J, listed.getD j false = true := fun j hj => by
     obtain ⟨n, hn, hb, hon⟩ := h1 j hj
     have := hd _ (Array.getElem_mem hn) hb
     rw [hon] at this
     exact this
    have h3 : J.filter (fun j => !listed.getD j true) = [] := by
     rw [List.filter_eq_nil_iff]
     intro j hj
     have h4 := h2 j hj
     have h5 : j < listed.size := by have := hlt j hj; omega
     simp [h5] at h4
     simp [h5, h4]
    rw [h3] at hm
    simp at hm
  refine ⟨fun hno => ?_, fun i hi => ?_⟩
  ·
   exfalso
   have hex : ∃ j, j ∈ J ∧ listed.getD j true = false := by
    rcases hf : J.filter (fun j => !listed.getD j true) with _ | ⟨j, r⟩
    ·
     rw [hf] at hm; simp at hm
    ·
     have : j ∈ J.filter (fun j => !listed.getD j true) := by rw [hf]; exact List.mem_cons_self ..
     rw [List.mem_filter] at this
     exact ⟨j, this.1, by simpa using this.2⟩
   have hmin : ∀ n j, j ∈ J → listed.getD j true = false → j ≤ n → False := by
    intro n
    induction n with
    | zero =>
     intro j hj hl hn
     have hjJ := hJ j hj
     obtain ⟨o, ho⟩ : ∃ o, ops[j]? = some o := ⟨_, Array.getElem?_eq_getElem (hlt j hj)⟩
     have : j ∈ Region.ready md ops listed := mem_ready.2 ⟨hl, o, ho, fun e he hb => by
      simp only [ho, Option.map_some, Option.getD_some, Bool.and_eq_true, Array.all_eq_true_iff_forall_mem] at hjJ
      have := hjJ.2 e he
      simp [hb] at this
      omega⟩
     rw [hno] at this
     cases this
    | succ n ihn =>
     intro j hj hl hn
     have hjJ := hJ j hj
     obtain ⟨o, ho⟩ : ∃ o, ops[j]? = some o := ⟨_, Array.getElem?_eq_getElem (hlt j hj)⟩
     have : j ∈ Region.ready md ops listed := mem_ready.2 ⟨hl, o, ho, fun e he hb => by
      simp only [ho, Option.map_some, Option.getD_some, Bool.and_eq_true, Array.all_eq_true_iff_forall_mem] at hjJ
      have h6 := hjJ.2 e he
      rw [hb] at h6
      simp only [Bool.not_true, Bool.false_or, Bool.and_eq_true, decide_eq_true_eq, Bool.or_eq_true] at h6
      obtain ⟨h7, h8⟩ := h6
      have hes : e.on < listed.size := by have := hlt j hj; omega
      by_cases hJe : e.on ∈ J
      ·
       cases hg : listed.getD e.on true with
       | true =>
        simp [hes] at hg ⊢
        exact hg
       | false => exact absurd (ihn e.on hJe hg (by omega)) id
      ·
       rcases h8 with h8 | h8
       ·
        have : listed0[e.on]? = listed[e.on]? := (hout _ hJe).symm
        simp only [Array.getD_eq_getD_getElem?, this] at h8 ⊢
        exact h8
       ·
        exact absurd (by simpa using h8) hJe⟩
     rw [hno] at this
     cases this
   obtain ⟨j, hj, hl⟩ := hex
   exact hmin j j hj hl (Nat.le_refl _)
  ·
   have hiJ := hready i hi
   obtain ⟨h0, o, ho, hd⟩ := mem_ready.1 hi
   have hil : i < listed.size := by have := hlt i hiJ; omega
   refine wpOp_mono ?_ (hstep i hiJ tv w hS (fun o' ho' e he hb hon => hR e.on hon (by
    rw [ho] at ho'
    injection ho' with ho'
    subst ho'
    have h9 := hd e he hb
    have h10 : e.on < listed.size := by have := hlt _ hon; omega
    simp [h10] at h9 ⊢
    exact h9)))
   rintro a' w' ⟨⟨v, rfl, hv⟩, hB, hS'⟩
   refine ⟨hS', ?_⟩
   rw [putAll_put dst tv i v J a0 hiJ hnd hdst]
   refine ih (listed.setIfInBounds i true) (updV tv i v) w' ?_ (by simpa using hls) ?_ hS' ?_
   ·
    have hcount : ∀ L : List Nat, L.Nodup → i ∈ L → (L.filter fun j => !listed.getD j true).length = (L.filter fun j => !(listed.setIfInBounds i true).getD j true).length + 1 := by
     intro L
     induction L with
     | nil => intro _ h; cases h
     | cons x r ihr =>
      intro hn hx
      obtain ⟨hx1, hx2⟩ := List.nodup_cons.1 hn
      by_cases e : i = x
      ·
       subst e
       have hsame : r.filter (fun j => !(listed.setIfInBounds i true).getD j true) = r.filter (fun j => !listed.getD j true) := by
        apply List.filter_congr
        intro y hy
        rw [getD_set_ne true (fun h => hx1 (by rw [h]; exact hy))]
       have hset : (listed.setIfInBounds i true).getD i true = true := by simp [hil]
       rw [List.filter_cons, List.filter_cons, h0, hset, hsame]
       simp
      ·
       have hxr : i ∈ r := by
        rcases List.mem_cons.1 hx with h | h
        ·
         exact absurd h e
        ·
         exact h
       have := ihr hx2 hxr
       rw [List.filter_cons, List.filter_cons, getD_set_ne true e]
       cases listed.getD x true with
       | true => exact this
       | false =>
        show (x :: _).length = (x :: _).length + 1
        rw [List.length_cons, List.length_cons, this]
    have := hcount J hnd hiJ
    omega
   ·
    intro k hk
    rw [← hout k hk]
    exact Array.getElem?_setIfInBounds_ne (fun h => hk (by rw [← h]; exact hiJ))
   ·
    intro j hj hl
    by_cases e : j = i
    ·
     subst e
     rw [updV_self]
     exact hv
    ·
     rw [updV_ne tv v e]
     refine hkeep j hj _ _ _ hB (hR j hj ?_)
     rw [getD_set_ne true (fun h => e h.symm)] at hl
     exact hl

def waitsFor (md : Region.Mode) (ops : Array Oper) (j k : Nat) : Bool := ((ops[j]?).map (fun o => o.after.any fun e => Region.binds md e && e.on == k)).getD false
theorem putAll_self (a : Act) (dst : Nat → Tmp) (tv : Nat → Value) : ∀ (J : List Nat), (∀ j ∈ J, dst j < a.tmps.size ∧ tv j = a.tmps.getD (dst j) undef) → putAll a dst tv J = a
 | [], _ => rfl
 | j :: r, h => by
  obtain ⟨h1, h2⟩ := h j (List.mem_cons_self ..)
  unfold putAll
  rw [show a.put (some (dst j)) (tv j) = a by
   rw [h2]
   unfold Act.put
   show { a with tmps := a.tmps.setIfInBounds (dst j) (a.tmps.getD (dst j) undef) } = a
   have : a.tmps.setIfInBounds (dst j) (a.tmps.getD (dst j) undef) = a.tmps := by
    apply Array.ext_getElem?
    intro k
    by_cases e : dst j = k
    ·
     subst e; simp [h1]
    ·
     rw [Array.getElem?_setIfInBounds_ne e]
   rw [this]]
  exact putAll_self a dst tv r fun k hk => h k (List.mem_cons_of_mem _ hk)

theorem wpAnyH_start {fuel : Nat} {listed0 : Array Bool} {a0 : Act} {w0 : World} (J : List Nat) (dst : Nat → Tmp) (R : Nat → Value → World → Prop) (fe : Nat) (hf : fuel = J.length + fe)
  (hok : freeOk md ops listed0 J = true) (hsz : listed0.size = ops.size) (hnd : J.Nodup) (hdst : ∀ x ∈ J, ∀ y ∈ J, dst x = dst y → x = y) (hlt : (J.all fun j => decide (dst j < a0.tmps.size)) = true) (hS0 : S w0)
  (hkeep : ∀ j ∈ J, ∀ v w w', Below w.heap.size w w' → R j v w → R j v w')
  (hstep : ∀ j ∈ J, ∀ (tv : Nat → Value) (w : World), S w → (∀ k ∈ J, waitsFor md ops j k = true → R k (tv k) w) →
   wpOp P ops Q j (fun a' w' => (∃ v, a' = (putAll a0 dst tv J).put (some (dst j)) v ∧ R j v w') ∧ Below w.heap.size w w' ∧ S w') (putAll a0 dst tv J) w)
  (hend : ∀ (tv : Nat → Value) (w : World), S w → (∀ j ∈ J, R j (tv j) w) → wpAnyH P md ops Q S fe (listAll listed0 J) (putAll a0 dst tv J) w) : wpAnyH P md ops Q S fuel listed0 a0 w0 := by
 subst hf
 have hun : ∀ j ∈ J, listed0.getD j true = false := fun j hj => by
  have h := hok
  unfold freeOk at h
  rw [Bool.and_eq_true, List.all_eq_true] at h
  have := h.1 j hj
  rw [Bool.and_eq_true] at this
  simpa using this.1
 have hme := putAll_self a0 dst (fun j => a0.tmps.getD (dst j) undef) J fun j hj => ⟨by
  rw [List.all_eq_true] at hlt
  simpa using hlt j hj, rfl⟩
 have hcount : (J.filter fun j => !listed0.getD j true).length = J.length := by
  rw [List.filter_eq_self.2]
  intro j hj
  rw [hun j hj]
  rfl
 have := wpAnyH_free J dst R listed0 a0 fe hok hsz hnd hdst hkeep (fun j hj tv w hS hd => hstep j hj tv w hS fun k hk hw => by
   unfold waitsFor at hw
   cases ho : ops[j]? with
   | none => rw [ho] at hw; cases hw
   | some o =>
    rw [ho] at hw
    simp only [Option.map_some, Option.getD_some, Array.any_eq_true] at hw
    obtain ⟨n, hn, hb⟩ := hw
    rw [Bool.and_eq_true, beq_iff_eq] at hb
    have h2 := hd o ho _ (Array.getElem_mem hn) hb.1 (by rw [hb.2]; exact hk)
    rw [hb.2] at h2
    exact h2) hend J.length listed0 (fun j => a0.tmps.getD (dst j) undef) w0 hcount hsz (fun _ _ => rfl) hS0 (fun j hj hl => by rw [hun j hj] at hl; cases hl)
 rw [hme] at this
 exact this
end

section
variable {P : Program} (w : World)
end
theorem owns_below {w w' : World} {base e size n : Nat} {v : Value} {xs : List Value} (h : w.ownsRow base e size v n xs) (hb : Below w.heap.size w w') : w'.ownsRow base e size v n xs := by
 obtain ⟨h1, h2 | ⟨g, cap, cur, h3, h4, h5, h6⟩⟩ := h
 ·
  exact ⟨h1, .inl h2⟩
 ·
  exact ⟨h1, .inr ⟨g, cap, cur, h3, h4, (hb.block g (Array.getElem?_eq_some_iff.1 h5).1).trans h5, h6⟩⟩
theorem heap_below {w w' : World} {g : Nat} {o : Obj} (h : w.heap[g]? = some o) (hb : Below w.heap.size w w') : w'.heap[g]? = some o :=
 (hb.block g (Array.getElem?_eq_some_iff.1 h).1).trans h
theorem owns_base {w : World} {base base' e size n : Nat} {v : Value} {xs : List Value} (h : w.ownsRow base e size v n xs) (hb : base' ≤ base) : w.ownsRow base' e size v n xs := by
 obtain ⟨h1, h2 | ⟨g, cap, cur, h3, h4, h5⟩⟩ := h
 ·
  exact ⟨h1, .inl h2⟩
 ·
  exact ⟨h1, .inr ⟨g, cap, cur, h3, Nat.le_trans hb h4, h5⟩⟩
theorem gcell {w w' : World} {g : Nat} (h : w.grownBy w' (some g)) : ∀ b o, b < w.heap.size → b ≠ g → w'.cell? ⟨b, o, none⟩ = w.cell? ⟨b, o, none⟩ :=
 fun b o hb hg => World.cell?_of_block (a := ⟨b, o, none⟩) (h.block b hb (fun e => hg (by injection e)))
theorem grown_of_below {w w' : World} {row : Option Nat} (h : Below w.heap.size w w') : w.grownBy w' row := ⟨h.os, h.tape, h.output, h.size, fun k hk _ => h.block k hk⟩
theorem owns_grown {w w' : World} {base e size n g t : Nat} {C : Array Value} {v : Value} {xs : List Value} (h : w.ownsRow base e size v n xs) (hg : w.grownBy w' (some g)) (ht : w.heap[g]? = some (.cells C t (0, 0))) (hne : e ≠ t) : w'.ownsRow base e size v n xs := by
 obtain ⟨h1, h2 | ⟨b, cap, cur, h3, h4, h5, h6⟩⟩ := h
 ·
  exact ⟨h1, .inl h2⟩
 ·
  exact ⟨h1, .inr ⟨b, cap, cur, h3, h4, (hg.block b (Array.getElem?_eq_some_iff.1 h5).1 (fun e' => by
   injection e' with e'
   subst e'
   rw [h5] at ht
   injection ht with ht
   injection ht with _ ht
   exact hne ht)).trans h5, h6⟩⟩
theorem alloc2 {w w0 : World} {o p : Obj} (h : (w.alloc o).alloc p = w0) : w0.heap[w.heap.size]? = some o ∧ w0.heap[w.heap.size + 1]? = some p ∧ Below w.heap.size w w0 ∧ w0.heap.size = w.heap.size + 2 := by
 subst h
 refine ⟨?_, ?_, Below.allocT (Below.allocT (Below.refl _ _) (Nat.le_refl _) _) (Nat.le_refl _) _, by simp⟩
 ·
  rw [show ((w.alloc o).alloc p).heap[w.heap.size]? = (w.alloc o).heap[w.heap.size]? from Below.heap_alloc _ _ _ (by simp)]
  exact heap_alloc_new w o
 ·
  have := heap_alloc_new (w.alloc o) p
  simpa using this
theorem heap_new (w : World) (o : Obj) (k : Nat) (hk : k = w.heap.size) : (w.alloc o).heap[k]? = some o := by subst hk; exact World.alloc_heap_new w o
theorem heap_old (w : World) (o : Obj) (k : Nat) (hk : k < w.heap.size) : (w.alloc o).heap[k]? = w.heap[k]? := Below.heap_alloc w o k hk
theorem box_lt {w : World} {k : Nat} {o : Obj} (h : w.heap[k]? = some o) : k < w.heap.size := (Array.getElem?_eq_some_iff.1 h).1
theorem box_to {w w1 : World} {k : Nat} {o : Obj} (h : w.heap[k]? = some o) (hB : Below w.heap.size w w1) : w1.heap[k]? = some o := (hB.block _ (box_lt h)).trans h
theorem cellOf {w : World} {g : Nat} {cs : Array Value} {t : TypeId} {fr : Nat × Nat} (h : w.heap[g]? = some (.cells cs t fr)) (i : Nat) : w.cell? ⟨g, i, none⟩ = cs[i]? := by simp [World.cell?, h]
theorem unfrozenOf {w : World} {g : Nat} {cs : Array Value} {t : TypeId} (h : w.heap[g]? = some (.cells cs t (0, 0))) (i : Nat) : w.frozen? ⟨g, i, none⟩ = false := by simp [World.frozen?, h]
theorem setCellOf {w : World} {g i : Nat} {cs : Array Value} {t : TypeId} {fr : Nat × Nat} (h : w.heap[g]? = some (.cells cs t fr)) (v : Value) : (w.setCell ⟨g, i, none⟩ v).heap[g]? = some (.cells (cs.setIfInBounds i v) t fr) := by
 simp [World.setCell, Array.getElem?_modify, h]
theorem alloc1 {w w0 : World} {o : Obj} (h : w.alloc o = w0) : w0.heap[w.heap.size]? = some o ∧ Below w.heap.size w w0 ∧ w0.heap.size = w.heap.size + 1 := by
 subst h
 exact ⟨heap_new _ _ _ rfl, (Below.refl _ _).alloc (Nat.le_refl _) _, by simp⟩
theorem alloc3 {w w0 : World} {o p q : Obj} (h : ((w.alloc o).alloc p).alloc q = w0) : w0.heap[w.heap.size]? = some o ∧ w0.heap[w.heap.size + 1]? = some p ∧ w0.heap[w.heap.size + 2]? = some q ∧ Below w.heap.size w w0 ∧ w0.heap.size = w.heap.size + 3 := by
 subst h
 refine ⟨?_, ?_, ?_, Below.allocT (Below.allocT (Below.allocT (Below.refl _ _) (Nat.le_refl _) _) (Nat.le_refl _) _) (Nat.le_refl _) _, by simp⟩
 ·
  rw [heap_old _ _ _ (by simp <;> omega), heap_old _ _ _ (by simp), heap_new _ _ _ rfl]
 ·
  rw [heap_old _ _ _ (by simp), heap_new _ _ _ (by simp)]
 ·
  rw [heap_new _ _ _ (by simp)]
theorem alloc4 {w w0 : World} {o p q r : Obj} (h : (((w.alloc o).alloc p).alloc q).alloc r = w0) : w0.heap[w.heap.size]? = some o ∧ w0.heap[w.heap.size + 1]? = some p ∧ w0.heap[w.heap.size + 2]? = some q ∧ w0.heap[w.heap.size + 3]? = some r ∧ Below w.heap.size w w0 ∧ w0.heap.size = w.heap.size + 4 := by
 subst h
 refine ⟨?_, ?_, ?_, ?_, Below.allocT (Below.allocT (Below.allocT (Below.allocT (Below.refl _ _) (Nat.le_refl _) _) (Nat.le_refl _) _) (Nat.le_refl _) _) (Nat.le_refl _) _, by simp⟩
 ·
  rw [heap_old _ _ _ (by simp <;> omega), heap_old _ _ _ (by simp <;> omega), heap_old _ _ _ (by simp), heap_new _ _ _ rfl]
 ·
  rw [heap_old _ _ _ (by simp <;> omega), heap_old _ _ _ (by simp), heap_new _ _ _ (by simp)]
 ·
  rw [heap_old _ _ _ (by simp), heap_new _ _ _ (by simp)]
 ·
  rw [heap_new _ _ _ (by simp)]
end Go.Proofs.YtehadoecnmfeoaaGreat
