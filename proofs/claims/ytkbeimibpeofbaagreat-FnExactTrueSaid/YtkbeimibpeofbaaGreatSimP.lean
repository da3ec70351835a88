/- A call as a step of its caller: the two ways. -/
import Derived.Test.YtkbeimibpeofbaaGreatSimO
namespace Go.Sim

/-- The objects behind a call, as the caller has them. -/
def backU (G : List Ref) (d E : Nat) (outs' : List Ob) : List (Ref × Ob) := (alls G d E).zip (outs'.map (renO (tau G d E)))

theorem lookR_zip : ∀ (rs : List Ref) (os : List Ob) (r : Ref), rs.length = os.length → lookR (rs.zip os) r = (gidx rs r).bind (fun j => os[j]?) := by
  intro rs
  induction rs with
  | nil => intro os r h; simp [lookR, gidx]
  | cons q rs ih =>
    intro os r h
    cases os with
    | nil => simp at h
    | cons o os =>
      simp only [List.zip_cons_cons, lookR, gidx]
      by_cases hq : q = r
      · subst hq; simp
      · rw [if_neg (Ne.symm hq), if_neg hq, ih os r (by simpa using h)]
        cases gidx rs r <;> simp

theorem backU_obs (obs : Ref → Option Ob) (G : List Ref) (d E : Nat) (outs' : List Ob) (hl : outs'.length = G.length + E) : updAll obs (backU G d E outs') = obsBack obs G d E outs' := by
  funext r
  unfold updAll backU obsBack cidx
  rw [lookR_zip _ _ _ (by simp [alls, hl])]
  cases hg : gidx (alls G d E) r with
  | none => rfl
  | some j =>
    have hj : j < outs'.length := by
      have := (List.getElem?_eq_some_iff.1 (gidx_get hg)).1
      simpa [alls, hl] using this
    simp [hj]

/-- The callee: a function, or a closure with its captured variables behind the arguments. -/
theorem run_call_value {P : Program} {o : Oper} {a : Act} {c : Call} {fo : Operand} {f : FuncId} {caps : Array Value} (ho : o.op = .call c) (hc : c.callee = .value fo) (hf : a.eval fo = .func (.func f) #[] caps)
    (hent : ∀ (vs : Array Value) (w : World), (callFunc f vs).run P w = .ok (.enter f vs) w) (w : World) :
    (execOp a.eval o).run P w = .ok (.enter f (c.args.map a.eval ++ caps)) w := by
  simp [execOp, ho, resolve, hc, hf, Deferred.ofValue, invoke, hent]

def capsA (caps : List Ref) : List AV := caps.map fun r => .ptr r 0

section
variable {P : Program} {n : Nat} {o : Oper} (hd : ∀ d, o.dst = some d → d < n)
include hd

theorem ls_callS {c : Call} (ho : o.op = .call c) {fo : Operand} (hc : c.callee = .value fo) {f : FuncId} {env : Nat → AV} (obs : Ref → Option Ob) {args : List AV} {res : AV}
    (hargs : args = (c.args.toList.map (evAV env)).map (argA obs [] false)) (hok : allP (argOkA obs false true) (c.args.toList.map (evAV env)))
    (hcall : Does P f args [] res []) (hsc : scalarV res = true) (R : List (Ref × Ob)) (hRr : ∀ p ∈ (c.args.toList.map (evAV env)).flatMap (refsA obs), p ∈ R) :
    LStep P n o ⟨(fo, .clo f []) :: c.args.toList.map (fun x => (x, evAV env x)), R, [], res, []⟩ := by
  intro C env' M a K Q hRl h1 h2 _ hK
  have hfo := hRl.ev fo
  rw [h1 (fo, .clo f []) (by simp)] at hfo
  obtain ⟨bs, hf, hbl, _⟩ := hfo
  have hb0 : bs = [] := List.eq_nil_of_length_eq_zero (by simpa using hbl)
  subst hb0
  have hrun := run_call_value (P := P) ho hc hf hcall.enter M.w
  unfold Oper.wp
  rw [hrun, Oper.upon_enter]
  have hev : ∀ x ∈ c.args.toList, evAV env' x = evAV env x := fun x hx => h1 (x, evAV env x) (.tail _ (List.mem_map.2 ⟨x, hx, rfl⟩))
  have hcalls := callS hRl.mem hcall hsc (c.args.toList.map a.eval) (by rw [hargs]; simp) (fun Mc hP hw j x v hx hv => by
    rw [hargs] at hx
    simp only [List.getElem?_map, Option.map_eq_some_iff] at hx hv
    obtain ⟨y, ⟨z, hz, rfl⟩, rfl⟩ := hx
    obtain ⟨z', hz', rfl⟩ := hv
    rw [hz] at hz'
    have := Option.some.inj hz'
    subst this
    have hm := List.mem_of_getElem? hz
    have hme : evAV env z ∈ c.args.toList.map (evAV env) := List.mem_map.2 ⟨z, hm, rfl⟩
    have hv := hRl.ev z
    rw [hev z hm] at hv
    exact argA_S hRl.mem hP hw (allP_mem hok _ hme) (fun p hp => h2 p (hRr p (List.mem_flatMap.2 ⟨_, hme, hp⟩))) hv)
  rw [show c.args.map a.eval ++ (([] : List Nat).map fun b => Value.pointer (some ⟨b, 0, none⟩)).toArray = (c.args.toList.map a.eval).toArray from by apply Array.ext'; simp]
  refine Calls.mono hcalls ?_
  rintro e w' ⟨v, M', rfl, rfl, hobs, hst, hM, hv⟩
  exact hK M' _ (hRl.put hst hM hd hv) hobs

theorem ls_callG {c : Call} (ho : o.op = .call c) {fo : Operand} (hc : c.callee = .value fo) {f : FuncId} {caps : List Ref} {env : Nat → AV} (obs : Ref → Option Ob) (G : List Ref) (d E : Nat) (br : Bool)
    {args : List AV} {outs : List Ob} {res : AV} {outs' : List Ob}
    (hargs : args = ((c.args.toList.map (evAV env)).map (argA obs G br)) ++ (capsA caps).map (renS (sig G))) (hok : allP (argOkA obs br false) (c.args.toList.map (evAV env)))
    (hcall : Does P f args outs res outs') (hnd : G.Nodup) (hlen : outs.length = G.length)
    (houts : ∀ (j : Nat) (r : Ref), G[j]? = some r → ∃ ob, obs r = some ob ∧ outs[j]? = some (renO (sig G) ob)) (hl' : outs'.length = G.length + E)
    (R : List (Ref × Ob)) (Nw : List Ref) (hRr : ∀ p ∈ (c.args.toList.map (evAV env)).flatMap (refsA obs), p ∈ R) (hRg : ∀ r ob, r ∈ G → obs r = some ob → (r, ob) ∈ R) (hNw : ∀ k, k < E → .loc d k ∈ Nw) :
    LStep P n o ⟨(fo, .clo f caps) :: c.args.toList.map (fun x => (x, evAV env x)), R, Nw, renV (tau G d E) res, backU G d E outs'⟩ := by
  intro C env' M a K Q hRl h1 h2 h3 hK
  have hfo := hRl.ev fo
  rw [h1 (fo, .clo f caps) (by simp)] at hfo
  obtain ⟨bs, hf, hbl, hcap⟩ := hfo
  have hrun := run_call_value (P := P) ho hc hf hcall.enter M.w
  unfold Oper.wp
  rw [hrun, Oper.upon_enter]
  have hev : ∀ x ∈ c.args.toList, evAV env' x = evAV env x := fun x hx => h1 (x, evAV env x) (.tail _ (List.mem_map.2 ⟨x, hx, rfl⟩))
  have hcalls := callG hRl.mem hcall G d hnd hlen (fun j r hg => by
      obtain ⟨ob, k1, k2⟩ := houts j r hg
      exact ⟨ob, h2 _ (hRg r ob (List.mem_of_getElem? hg) k1), k2⟩) E (fun k hk => h3 _ (hNw k hk))
    (c.args.toList.map a.eval ++ bs.map fun b => .pointer (some ⟨b, 0, none⟩)) (by rw [hargs]; simp [capsA, hbl]) (fun Mc hS hP hw j x v hx hv => by
      rw [hargs] at hx
      by_cases hj : j < c.args.toList.length
      · rw [List.getElem?_append_left (by simpa using hj)] at hx hv
        simp only [List.getElem?_map, Option.map_eq_some_iff] at hx hv
        obtain ⟨y, ⟨z, hz, rfl⟩, rfl⟩ := hx
        obtain ⟨z', hz', rfl⟩ := hv
        rw [hz] at hz'
        have := Option.some.inj hz'
        subst this
        have hm := List.mem_of_getElem? hz
        have hme : evAV env z ∈ c.args.toList.map (evAV env) := List.mem_map.2 ⟨z, hm, rfl⟩
        have hv := hRl.ev z
        rw [hev z hm] at hv
        exact argA_G hRl.mem hS hP hw (allP_mem hok _ hme) (fun p hp => h2 p (hRr p (List.mem_flatMap.2 ⟨_, hme, hp⟩))) hv
      · rw [List.getElem?_append_right (by simpa using hj)] at hx hv
        simp only [List.length_map] at hx hv
        simp only [capsA, List.getElem?_map, Option.map_eq_some_iff] at hx hv
        obtain ⟨y, ⟨r, hr, rfl⟩, rfl⟩ := hx
        obtain ⟨b, hb, rfl⟩ := hv
        obtain ⟨⟨cells, hob⟩, hmu⟩ := hcap _ r hr
        rw [hb] at hmu
        have hs : RepS M (.ptr r 0) (.pointer (some ⟨b, 0, none⟩)) := ⟨cells, b, hob, Nat.zero_le _, hmu, rfl⟩
        have := hS.repS hs
        exact .of this)
  rw [show c.args.map a.eval ++ (bs.map fun b => Value.pointer (some ⟨b, 0, none⟩)).toArray = (c.args.toList.map a.eval ++ bs.map fun b => Value.pointer (some ⟨b, 0, none⟩)).toArray from by apply Array.ext'; simp]
  refine Calls.mono hcalls ?_
  rintro e w' ⟨v, M', rfl, rfl, hobs, hst, hM, hv⟩
  exact hK M' _ (hRl.put hst hM hd hv) (by rw [hobs, backU_obs _ _ _ _ _ hl'])
end

end Go.Sim
