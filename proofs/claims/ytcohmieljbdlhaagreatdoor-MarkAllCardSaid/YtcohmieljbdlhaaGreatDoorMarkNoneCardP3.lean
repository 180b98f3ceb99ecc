/- Own texts for this claim: SvDraw, SvCode, SvFn, SvAdv, SvEnt, SvUnr, SvShelf, SvBytes, SvShort, SvArgs, SvLend, SvRow, Buf, Text, Val, May, Quo. -/
import Derived.Test.YtcohmieljbdlhaaGreatDoorMarkNoneCardP2
import Derived.Scope
import Derived.KernelRfl
import Derived.ChangeSame
import Derived.RowKit3
import Derived.Lib.LaidTab
import GoSem.ClaimJoined
import Derived.OpenShut
import Derived.ChangeArms
import Derived.Test.YtcohmieljbdlhaaGreatDoorProg
set_option linter.all false
section
namespace Go.Sv
open M
theorem clash_symm (a b:Key):clash a b=clash b a:=by
 have nb:∀ x y:Nat,Nat.beq x y=Nat.beq y x:=by
  intro x y
  cases h:Nat.beq x y
  ·exact ((beq_ne _ _).2 (Ne.symm ((beq_ne _ _).1 h))).symm
  ·exact ((beq_eq _ _).2 ((beq_eq _ _).1 h).symm).symm
 cases a<;>cases b<;>simp only [clash,nb]
theorem set_get {st:St} {k k':Key} {v:KV} (hc:clash k k'=false):(st.set k v).get k'=st.get k':=by
 cases k' with
 | tm t =>
  simp only [St.get,set_tm]
  cases k<;>cases v<;>simp only []<;>(try rfl)
  all_goals (simp only [clash] at hc;have hne:=(beq_ne _ _).1 hc;rw [if_neg hne])
 | bk id =>
  simp only [St.get,set_hp]
  cases k<;>cases v<;>simp only []<;>(try rfl)
  all_goals (simp only [clash] at hc;have hne:=(beq_ne _ _).1 hc;rw [if_neg hne])
 | cl id off =>
  simp only [St.get,set_hp]
  cases k<;>cases v<;>simp only []<;>(try rfl)
  all_goals (simp only [clash] at hc)
  case cl.cl i o x =>
   by_cases e:i=id
   ·subst e
    rw [if_pos rfl]
    rcases bAnd_false hc with h | h
    ·exact absurd rfl ((beq_ne _ _).1 h)
    ·have hne:=(beq_ne _ _).1 h
     cases hl:look st.hp i with
     | none=>rfl
     | some b =>
      cases b with
      | box e cs=>simp only [nth_eq,List.getElem?_set,if_neg hne]
      | row e sz n f=>rfl
      | ob o=>rfl
   ·rw [if_neg e]
  all_goals (have hne:=(beq_ne _ _).1 hc;rw [if_neg hne])
def clashA (k:Key):List Key→Bool
 | []=>false
 | x::r=>match clash k x with
  | true=>true
  | false=>clashA k r
def clashL:List (Key×KV)→List Key→Bool
 | [],_=>false
 | (k,_)::r,l=>match clashA k l with
  | true=>true
  | false=>clashL r l
def keysOf:List (Key×KV)→List Key
 | []=>[]
 | (k,_)::r=>k::keysOf r
theorem clashA_no {k:Key}:∀ {l:List Key},clashA k l=false→∀ x∈l,clash k x=false
 | [],_,x,hx=>by simp at hx
 | y::r,h,x,hx=>by
  simp only [clashA] at h
  cases hc:clash k y with
  | true=>simp [hc] at h
  | false =>
   rw [hc] at h
   rcases List.mem_cons.1 hx with rfl | hx
   ·exact hc
   ·exact clashA_no h x hx
theorem clashL_no {l:List Key}:∀ {w:List (Key×KV)},clashL w l=false→∀ p∈w,∀ x∈l,clash p.1 x=false
 | [],_,p,hp=>by simp at hp
 | (k,v)::r,h,p,hp=>by
  simp only [clashL] at h
  cases hc:clashA k l with
  | true=>simp [hc] at h
  | false =>
   rw [hc] at h
   rcases List.mem_cons.1 hp with rfl | hp
   ·exact clashA_no hc
   ·exact clashL_no h p hp
theorem keysOf_mem {w:List (Key×KV)} {p:Key×KV} (h:p∈w):p.1∈keysOf w:=by
 induction w with
 | nil=>simp at h
 | cons q r ih =>
  simp only [keysOf,List.mem_cons]
  rcases List.mem_cons.1 h with rfl | h
  ·exact .inl rfl
  ·exact .inr (ih h)
theorem sets_get {k':Key}:∀ {l:List (Key×KV)} {st:St},(∀ p∈l,clash p.1 k'=false)→(st.sets l).get k'=st.get k'
 | [],st,_=>rfl
 | (k,v)::r,st,h=>by
  simp only [St.sets]
  rw [sets_get (fun p hp=>h p (by simp [hp])),set_get (h (k,v) (by simp))]
theorem sets_set_comm {k:Key} {v:KV}:∀ {l:List (Key×KV)} {st:St},(∀ p∈l,clash k p.1=false)→StEq ((st.set k v).sets l) ((st.sets l).set k v)
 | [],st,_=>StEq.refl _
 | (k',v')::r,st,h=>by
  simp only [St.sets]
  exact ((set_comm (h (k',v') (by simp))).sets r).trans (sets_set_comm (fun p hp=>h p (by simp [hp])))
theorem sets_comm {m:List (Key×KV)}:∀ {l:List (Key×KV)} {st:St},(∀ p∈l,∀ q∈m,clash p.1 q.1=false)→StEq ((st.sets l).sets m) ((st.sets m).sets l)
 | [],st,_=>StEq.refl _
 | (k,v)::r,st,h=>by
  simp only [St.sets]
  refine (sets_comm (l:=r) (fun p hp q hq=>h p (by simp [hp]) q hq)).trans ?_
  exact (sets_set_comm (fun q hq=>h (k,v) (by simp) q hq)).sets r
abbrev Log:=List Key×(Eff×Eqs)
def indep (x y:Log):Bool:=match clashL x.2.1.wr y.1 with
 | true=>false
 | false=>match clashL y.2.1.wr x.1 with
  | true=>false
  | false=>match clashL x.2.1.wr (keysOf y.2.1.wr) with
   | true=>false
   | false=>true
theorem indep_spec {x y:Log} (h:indep x y=true):(∀ p∈x.2.1.wr,∀ k∈y.1,clash p.1 k=false)∧(∀ p∈y.2.1.wr,∀ k∈x.1,clash p.1 k=false)∧∀ p∈x.2.1.wr,∀ q∈y.2.1.wr,clash p.1 q.1=false:=by
 unfold indep at h
 split at h
 ·cases h
 ·rename_i h1
  split at h
  ·cases h
  ·rename_i h2
   split at h
   ·cases h
   ·rename_i h3
    exact ⟨clashL_no h1,clashL_no h2,fun p hp q hq=>clashL_no h3 p hp _ (keysOf_mem hq)⟩
section
variable {E:Env} {cs:List (Nat×CallE E.P E.G)} {base:Nat} {ops:List Oper} {L:Nat→Log}
inductive Exe (E:Env) (cs:List (Nat×CallE E.P E.G)) (base:Nat) (ops:List Oper) (L:Nat→Log):List Nat→St→St→Prop
 | nil (st:St):Exe E cs base ops L [] st st
 | cons (i:Nat) (o:Oper) (l:List Nat) (st st':St):ops[i]?=some o→opM E cs i (base+16*i) o st.get=some ((L i).2,(L i).1)→Exe E cs base ops L l (st.sets (L i).2.1.wr) st'→Exe E cs base ops L (i::l) st st'
theorem Exe.eqv:∀ {l:List Nat} {st st1 st':St},Exe E cs base ops L l st st'→StEq st st1→∃ st1',Exe E cs base ops L l st1 st1'∧StEq st' st1':=by
 intro l
 induction l with
 | nil=>intro st st1 st' h e; cases h; exact ⟨st1,.nil _,e⟩
 | cons i r ih =>
  intro st st1 st' h e
  cases h with
  | cons _ o _ _ _ ho hm hr =>
   obtain ⟨st1',h1,e1⟩:=ih hr (e.sets (L i).2.1.wr)
   exact ⟨st1',.cons i o r st1 st1' ho (by rw [← e.get];exact hm) h1,e1⟩
theorem Exe.swap {i j:Nat} {r:List Nat} {st st':St} (hi:indep (L i) (L j)=true) (h:Exe E cs base ops L (i::j::r) st st'):∃ st1,Exe E cs base ops L (j::i::r) st st1∧StEq st' st1:=by
 obtain ⟨q1,q2,q3⟩:=indep_spec hi
 cases h with
 | cons _ oi _ _ _ hoi hmi hr =>
  cases hr with
  | cons _ oj _ _ _ hoj hmj hr =>
   have hmj':opM E cs j (base+16*j) oj st.get=some ((L j).2,(L j).1) :=
    loc_op oj _ _ _ _ hmj (fun k hk=>(sets_get (fun p hp=>q1 p hp k hk)).symm)
   have hmi':opM E cs i (base+16*i) oi (st.sets (L j).2.1.wr).get=some ((L i).2,(L i).1) :=
    loc_op oi _ _ _ _ hmi (fun k hk=>sets_get (fun p hp=>q2 p hp k hk))
   obtain ⟨st1,h1,e1⟩:=hr.eqv (sets_comm (st:=st) q3)
   exact ⟨st1,.cons j oj _ _ _ hoj hmj' (.cons i oi _ _ _ hoi hmi' h1),e1⟩
theorem Exe.move {i:Nat}:∀ {p q:List Nat} {st st':St},(∀ x∈p,indep (L i) (L x)=true)→Exe E cs base ops L (i::(p++q)) st st'→∃ st1,Exe E cs base ops L (p++i::q) st st1∧StEq st' st1:=by
 intro p
 induction p with
 | nil=>intro q st st' _ h; exact ⟨st',h,StEq.refl _⟩
 | cons x p ih =>
  intro q st st' hx h
  obtain ⟨st1,h1,e1⟩:=Exe.swap (r:=p++q) (hx x (by simp)) h
  cases h1 with
  | cons _ o _ _ _ ho hm hr =>
   obtain ⟨st2,h2,e2⟩:=ih (fun y hy=>hx y (by simp [hy])) hr
   exact ⟨st2,.cons x o _ _ _ ho hm h2,e1.trans e2⟩
theorem Exe.any {prec:Nat→Nat→Prop}:∀ {t l:List Nat} {st st':St},t.Nodup→l.Nodup→(∀ x,x∈l↔x∈t)→t.Pairwise (fun a b=>¬ prec b a)→l.Pairwise (fun a b=>¬ prec b a) →
  (∀ a∈t,∀ b∈t,a≠b→¬ prec a b→¬ prec b a→indep (L a) (L b)=true)→Exe E cs base ops L t st st'→∃ st1,Exe E cs base ops L l st st1∧StEq st' st1:=by
 intro t
 induction t with
 | nil =>
  intro l st st' _ _ hm _ _ _ h
  have:l=[]:=List.eq_nil_iff_forall_not_mem.2 (fun x hx=>by simpa using (hm x).1 hx)
  subst this
  exact ⟨st',h,StEq.refl _⟩
 | cons i t ih =>
  intro l st st' hnt hnl hm hpt hpl hind h
  have hil:i∈l:=(hm i).2 (by simp)
  obtain ⟨p,q,rfl⟩:=List.append_of_mem hil
  have hip:i∉p∧i∉q:=by
   have:=List.nodup_append.1 hnl
   refine ⟨fun hh => ?_,(List.nodup_cons.1 this.2.1).1⟩
   exact this.2.2 i hh i (by simp) rfl
  have hnt':=List.nodup_cons.1 hnt
  have hpt':=List.pairwise_cons.1 hpt
  have hpl':=List.pairwise_append.1 hpl
  cases h with
  | cons _ o _ _ _ ho hmm hr =>
   have hnd:(p++q).Nodup:=by
    have:=List.nodup_append.1 hnl
    exact List.nodup_append.2 ⟨this.1,(List.nodup_cons.1 this.2.1).2,fun a ha b hb=>this.2.2 a ha b (by simp [hb])⟩
   have hmem:∀ x,x∈p++q↔x∈t:=by
    intro x
    constructor
    ·intro hx
     have h1:x∈p++i::q:=by
      rcases List.mem_append.1 hx with h | h
      ·exact List.mem_append.2 (.inl h)
      ·exact List.mem_append.2 (.inr (by simp [h]))
     rcases List.mem_cons.1 ((hm x).1 h1) with rfl | h2
     ·rcases List.mem_append.1 hx with h | h
      ·exact (hip.1 h).elim
      ·exact (hip.2 h).elim
     ·exact h2
    ·intro hx
     have h1:=(hm x).2 (by simp [hx])
     rcases List.mem_append.1 h1 with h | h
     ·exact List.mem_append.2 (.inl h)
     ·rcases List.mem_cons.1 h with rfl | h
      ·exact (hnt'.1 hx).elim
      ·exact List.mem_append.2 (.inr h)
   have hpw:(p++q).Pairwise (fun a b=>¬ prec b a) :=
    List.pairwise_append.2 ⟨hpl'.1,(List.pairwise_cons.1 hpl'.2.1).2,fun a ha b hb=>hpl'.2.2 a ha b (by simp [hb])⟩
   obtain ⟨st1,h1,e1⟩:=ih hnt'.2 hnd hmem hpt'.2 hpw (fun a ha b hb=>hind a (by simp [ha]) b (by simp [hb])) hr
   have h2:Exe E cs base ops L (i::(p++q)) st st1 := .cons i o _ _ _ ho hmm h1
   obtain ⟨st2,h3,e3⟩:=Exe.move (fun x hx=>by
    have hxt:x∈t:=(hmem x).1 (List.mem_append.2 (.inl hx))
    have hne:i≠x:=fun e=>hip.1 (e▸hx)
    refine hind i (by simp) x (by simp [hxt]) hne ?_ (hpt'.1 x hxt)
    exact hpl'.2.2 x hx i (by simp)) h2
   exact ⟨st2,h3,e1.trans e3⟩
theorem Exe.split {p q:List Nat} {st st':St} (h:Exe E cs base ops L (p++q) st st'):∃ s,Exe E cs base ops L p st s∧Exe E cs base ops L q s st':=by
 induction p generalizing st with
 | nil=>exact ⟨st,.nil _,h⟩
 | cons i p ih =>
  cases h with
  | cons _ o _ _ _ ho hm hr =>
   obtain ⟨s,h1,h2⟩:=ih hr
   exact ⟨s,.cons i o _ _ _ ho hm h1,h2⟩
theorem Exe.det {l:List Nat} {st a b:St} (h:Exe E cs base ops L l st a) (k:Exe E cs base ops L l st b):a=b:=by
 induction h with
 | nil=>cases k; rfl
 | cons i o r s s' ho hm hr ih =>
  cases k with
  | cons _ o' _ _ _ ho' hm' hr'=>exact ih hr'
theorem Exe.snoc {l:List Nat} {i:Nat} {o:Oper} {st s:St} (h:Exe E cs base ops L l st s) (ho:ops[i]?=some o) (hm:opM E cs i (base+16*i) o s.get=some ((L i).2,(L i).1)):Exe E cs base ops L (l++[i]) st (s.sets (L i).2.1.wr):=by
 induction h with
 | nil s=>exact .cons i o [] _ _ ho hm (.nil _)
 | cons j oj r s1 s2 hoj hmj hr ih=>exact .cons j oj _ _ _ hoj hmj (ih hm)
end
def nth0 (l:List Nat) (i:Nat):Nat:=match nth l i with
 | some x=>x
 | none=>0
def maskE (acc:List Nat):List Edge→Nat
 | []=>0
 | e::r=>match Region.binds .any e with
  | true=>Nat.lor (Nat.lor (Nat.shiftLeft 1 e.on) (nth0 acc e.on)) (maskE acc r)
  | false=>maskE acc r
def snocL {α:Type}:List α→α→List α
 | [],x=>[x]
 | y::r,x=>y::snocL r x
def befs:List Oper→List Nat→List Nat
 | [],acc=>acc
 | o::r,acc=>befs r (snocL acc (maskE acc o.after.toList))
theorem snocL_eq {α:Type} (l:List α) (x:α):snocL l x=l++[x]:=by
 induction l with
 | nil=>rfl
 | cons y r ih=>simp [snocL,ih]
theorem maskE_bit {acc:List Nat} {a:Nat}:∀ {es:List Edge},(maskE acc es).testBit a=true→∃ e∈es,Region.binds .any e=true∧(a=e.on∨(nth0 acc e.on).testBit a=true)
 | [],h=>by simp [maskE] at h
 | e::r,h=>by
  simp only [maskE] at h
  split at h
  ·rename_i hb
   have h:((1 <<< e.on) ||| (nth0 acc e.on) ||| (maskE acc r)).testBit a=true:=h
   simp only [Nat.testBit_or,Bool.or_eq_true] at h
   rcases h with (h | h) | h
   ·refine ⟨e,by simp,hb,.inl ?_⟩
    rw [Nat.one_shiftLeft,Nat.testBit_two_pow] at h
    have h:e.on=a:=by simpa using h
    exact h.symm
   ·exact ⟨e,by simp,hb,.inr h⟩
   ·obtain ⟨e',h1,h2⟩:=maskE_bit h
    exact ⟨e',by simp [h1],h2⟩
  ·obtain ⟨e',h1,h2⟩:=maskE_bit h
   exact ⟨e',by simp [h1],h2⟩
theorem befs_spec:∀ (r:List Oper) (acc:List Nat),(∀ i,i<acc.length→(befs r acc)[i]?=acc[i]?)∧(befs r acc).length=acc.length+r.length ∧
  ∀ i o,r[i]?=some o→(befs r acc)[acc.length+i]?=some (maskE ((befs r acc).take (acc.length+i)) o.after.toList)
 | [],acc=>⟨fun i _=>rfl,by simp [befs],fun i o h=>by simp at h⟩
 | x::r,acc=>by
  obtain ⟨h1,h2,h3⟩:=befs_spec r (snocL acc (maskE acc x.after.toList))
  rw [snocL_eq] at h1 h2 h3
  have hl:(acc++[maskE acc x.after.toList]).length=acc.length+1:=by simp
  rw [hl] at h1 h2 h3
  have hb:befs (x::r) acc=befs r (acc++[maskE acc x.after.toList]):=by simp only [befs,snocL_eq]
  have hpre:∀ i,i<acc.length→(befs (x::r) acc)[i]?=acc[i]?:=by
   intro i hi
   rw [hb,h1 i oM,List.getElem?_append_left hi]
  refine ⟨hpre,by rw [hb,h2];simp;omega,fun i o ho => ?_⟩
  cases i with
  | zero =>
   simp at ho
   subst ho
   rw [Nat.add_zero]
   have e1:(befs (x::r) acc)[acc.length]?=some (maskE acc x.after.toList):=by
    rw [hb,h1 _ oM];simp
   have e2:(befs (x::r) acc).take acc.length=acc:=by
    apply List.ext_getElem?
    intro j
    rw [List.getElem?_take]
    split
    ·rename_i hj;exact hpre j hj
    ·rename_i hj;rw [List.getElem?_eq_none oM]
   rw [e1,e2]
  | succ i =>
   simp at ho
   rw [hb]
   have:=h3 i o ho
   rw [show acc.length+(i+1)=acc.length+1+i by omega]
   exact this
def pairsOk1 (B:Nat) (y:Log):Nat→List Log→Bool
 | _,[]=>true
 | i,x::r=>bAnd (match Nat.testBit B i with | true=>true | false=>indep x y) (pairsOk1 B y (i+1) r)
def pairsOk (B:List Nat):List Log→Nat→List Log→Bool
 | _,_,[]=>true
 | pre,j,y::r=>bAnd (pairsOk1 (nth0 B j) y 0 pre) (pairsOk B (snocL pre y) (j+1) r)
def edgesOk:Nat→List Oper→Bool
 | _,[]=>true
 | i,o::r=>bAnd (go i o.after.toList) (edgesOk (i+1) r)
where
 go (i:Nat):List Edge→Bool
  | []=>true
  | e::r=>bAnd (match Region.binds .any e with | true=>Nat.blt e.on i | false=>true) (go i r)
def gdEdge:List Oper→Bool
 | []=>true
 | o::r=>bAnd (match o.guard with | none=>true | some (j,_)=>go j o.after.toList) (gdEdge r)
where
 go (j:Nat):List Edge→Bool
  | []=>false
  | e::r=>match Region.binds .any e with
   | true=>(match Nat.beq e.on j with | true=>true | false=>go j r)
   | false=>go j r
def drawOk (ops:List Oper) (lg:List Log):Bool:=bAnd (edgesOk 0 ops) (bAnd (gdEdge ops) (pairsOk (befs ops []) [] 0 lg))
theorem pairsOk1_spec {B:Nat} {y:Log}:∀ {l:List Log} {k:Nat},pairsOk1 B y k l=true→∀ (i:Nat) (x:Log),l[i]?=some x→B.testBit (k+i)=true∨indep x y=true
 | [],k,_,i,x,h=>by simp at h
 | z::r,k,h,0,x,hx=>by
  obtain ⟨h1,_⟩:=bAnd_eq h
  simp at hx
  subst hx
  cases hb:Nat.testBit B k with
  | true=>exact .inl (by first | exact hb | rfl)
  | false=>rw [hb] at h1; exact .inr h1
 | z::r,k,h,i+1,x,hx=>by
  obtain ⟨_,h2⟩:=bAnd_eq h
  simp at hx
  have:=pairsOk1_spec h2 i x hx
  rw [show k+1+i=k+(i+1) by omega] at this
  exact this
theorem pairsOk_spec {B:List Nat}:∀ {r pre:List Log} {j:Nat},pre.length=j→pairsOk B pre j r=true→∀ (b:Nat) (y:Log),r[b]?=some y→∀ (a:Nat) (x:Log),(pre++r)[a]?=some x→a<j+b →
  (nth0 B (j+b)).testBit a=true∨indep x y=true
 | [],pre,j,_,_,b,y,h=>by simp at h
 | z::r,pre,j,hp,h,0,y,hy=>by
  obtain ⟨h1,_⟩:=bAnd_eq h
  simp at hy
  subst hy
  intro a x hx ha
  have:=pairsOk1_spec h1 a x (by rw [List.getElem?_append_left oM] at hx;exact hx)
  simpa using this
 | z::r,pre,j,hp,h,b+1,y,hy=>by
  obtain ⟨_,h2⟩:=bAnd_eq h
  simp at hy
  intro a x hx ha
  rw [snocL_eq] at h2
  have:=pairsOk_spec (j:=j+1) (by simp [hp]) h2 b y hy a x (by simpa using hx) oM
  rw [show j+1+b=j+(b+1) by omega] at this
  exact this
theorem edgesOk_spec:∀ {l:List Oper} {k:Nat},edgesOk k l=true→∀ (i:Nat) (o:Oper),l[i]?=some o→∀ e∈o.after.toList,Region.binds .any e=true→e.on<k+i
 | [],k,_,i,o,h=>by simp at h
 | x::r,k,h,0,o,ho=>by
  obtain ⟨h1,_⟩:=bAnd_eq h
  simp at ho
  subst ho
  have go:∀ {es:List Edge},edgesOk.go k es=true→∀ e∈es,Region.binds .any e=true→e.on<k:=by
   intro es
   induction es with
   | nil=>intro _ e he; simp at he
   | cons y r ih =>
    intro h e he hb
    obtain ⟨h1,h2⟩:=bAnd_eq h
    rcases List.mem_cons.1 he with rfl | he
    ·rw [hb] at h1;exact Nat.le_of_ble_eq_true h1
    ·exact ih h2 e he hb
  exact fun e he hb=>go h1 e he hb
 | x::r,k,h,i+1,o,ho=>by
  obtain ⟨_,h2⟩:=bAnd_eq h
  simp at ho
  intro e he hb
  have:=edgesOk_spec h2 i o ho e he hb
  omega
theorem gdEdge_spec:∀ {l:List Oper},gdEdge l=true→∀ (i:Nat) (o:Oper),l[i]?=some o→∀ j b,o.guard=some (j,b)→∃ e∈o.after.toList,Region.binds .any e=true∧e.on=j
 | [],_,i,o,h=>by simp at h
 | x::r,h,0,o,ho=>by
  obtain ⟨h1,_⟩:=bAnd_eq h
  simp at ho
  subst ho
  intro j b hg
  rw [hg] at h1
  have go:∀ {es:List Edge},gdEdge.go j es=true→∃ e∈es,Region.binds .any e=true∧e.on=j:=by
   intro es
   induction es with
   | nil=>intro h; simp [gdEdge.go] at h
   | cons y r ih =>
    intro h
    simp only [gdEdge.go] at h
    split at h
    ·rename_i hb
     split at h
     ·rename_i he;exact ⟨y,by simp,hb,(beq_eq _ _).1 he⟩
     ·obtain ⟨e,h1,h2⟩:=ih h;exact ⟨e,by simp [h1],h2⟩
    ·obtain ⟨e,h1,h2⟩:=ih h;exact ⟨e,by simp [h1],h2⟩
  exact go h1
 | x::r,h,i+1,o,ho=>by
  obtain ⟨_,h2⟩:=bAnd_eq h
  simp at ho
  exact gdEdge_spec h2 i o ho
def logD:Log:=([],(⟨[],[]⟩,noEqs))
theorem exe_of_run {E:Env} {cs:List (Nat×CallE E.P E.G)} {base:Nat} {ops:List Oper} {L:Nat→Log}:∀ (suf:List Oper) (i:Nat) (st:St) (out:Out),ops.drop i=suf→runOps E cs base i suf st=some out →
  (∀ j,out.lg[j]?=some (L (i+j))∨suf.length≤j)→Exe E cs base ops L (List.range' i suf.length) st out.st∧out.lg.length=suf.length ∧
  (∀ j,j<suf.length→∀ x,out.lg[j]?=some x→(∀ p∈x.2.1.vc,p∈out.vc)∧(out.el=out.er→x.2.2.el=x.2.2.er)∧(out.bl=out.br→x.2.2.bl=x.2.2.br))
 | [],i,st,out,hd,hr,hL=>by
  simp only [runOps,Option.some.injEq] at hr
  subst hr
  exact ⟨.nil _,rfl,by intro j hj;simp at hj⟩
 | o::r,i,st,out,hd,hr,hL=>by
  simp only [runOps] at hr
  cases hm:opM E cs i (base+16*i) o st.get with
  | none=>simp [hm] at hr
  | some p =>
   obtain ⟨e,rd⟩:=p
   simp only [hm] at hr
   cases hr2:runOps E cs base (i+1) r (st.sets e.1.wr) with
   | none=>simp [hr2] at hr
   | some out2 =>
    simp only [hr2,Option.some.injEq] at hr
    subst hr
    have hi:ops[i]?=some o:=by
     have:=congrArg (fun l=>l[0]?) hd
     simpa using this
    have hdr:ops.drop (i+1)=r:=by
     have:=congrArg (fun l=>l.drop 1) hd
     simpa [List.drop_drop] using this
    have h0:L i=(rd,e):=by
     rcases hL 0 with h | h
     ·simpa using h.symm
     ·simp at h
    obtain ⟨h1,h2,h3⟩:=exe_of_run (L:=L) r (i+1) _ out2 hdr hr2 (fun j=>by
     rcases hL (j+1) with h | h
     ·left;simp at h;rw [h];congr 2;omega
     ·right;simp at h;omega)
    refine ⟨?_,by simp [h2],?_⟩
    ·simp only [List.length_cons,List.range'_succ]
     exact .cons i o _ _ _ hi (by rw [h0];exact hm) (by rw [h0];exact h1)
    ·intro j hj x hx
     cases j with
     | zero =>
      simp at hx
      subst hx
      refine ⟨fun p hp=>appL_mem.2 (.inl hp),fun h => ?_,fun h => ?_⟩
      ·simp only [List.cons.injEq] at h;exact h.1
      ·simp only [List.cons.injEq] at h;exact h.1
     | succ j =>
      simp at hx hj
      obtain ⟨k1,k2,k3⟩:=h3 j hj x hx
      refine ⟨fun p hp=>appL_mem.2 (.inr (k1 p hp)),fun h => ?_,fun h => ?_⟩
      ·simp only [List.cons.injEq] at h;exact k2 h.2
      ·simp only [List.cons.injEq] at h;exact k3 h.2
theorem nodup_le:∀ {n:Nat} {l:List Nat},l.Nodup→(∀ x∈l,x<n)→l.length≤n
 | 0,l,_,h=>by
  cases l with
  | nil=>simp
  | cons x r=>have:=h x (by simp); omega
 | n+1,l,hn,h=>by
  by_cases hm:n∈l
  ·have h1:=List.length_erase_of_mem hm
   have h2:=nodup_le (n:=n) (l:=l.erase n) (hn.erase n) (fun x hx=>by
    have h3:=(List.Nodup.mem_erase_iff hn).1 hx
    have:=h x h3.2
    have h4:=h3.1
    omega)
   have:0<l.length:=List.length_pos_of_mem hm
   omega
  ·have:=nodup_le (n:=n) (l:=l) hn (fun x hx=>by
    have h1:=h x hx
    have:x≠n:=fun e=>hm (e▸hx)
    omega)
   omega
section
variable {Γ:Ctx} {E:Env}
theorem run_draw (hP:E.P=Γ.P) (hG:E.G=Γ.G) {cs:List (Nat×CallE E.P E.G)} {ops:Array Oper} (hall:E.all=ops.toList) (hok:opsOk Γ.N ops.toList=true) {base:Nat} {st0:St} {out:Out}
  (hrun:runOps E cs base 0 ops.toList st0=some out) (hdr:drawOk ops.toList out.lg=true) (hvc:∀ p∈out.vc,p) (he:out.el=out.er) (hb:out.bl=out.br)
  {Q:Exit→Act→World→Prop} {a:Act} {w:World} (hs:SatE Γ (sSet base 0) (fun _=>False) st0 a w)
  (hQ:∀ a' w',SatE Γ (sSet base ops.size) (fun t=>∃ (j:Nat) (o:Oper),ops.toList[j]?=some o∧o.dst=some t) out.st a' w'→Q .normal a' w') :
  wpAny Γ.P .any ops Q ops.size (Array.replicate ops.size false) a w:=by
 obtain ⟨ok1,ok23⟩:=bAnd_eq hok
 obtain ⟨ok2,ok3⟩:=bAnd_eq ok23
 have ok1:=nodupB_nodup ok1
 obtain ⟨d1,d23⟩:=bAnd_eq hdr
 obtain ⟨d2,d3⟩:=bAnd_eq d23
 let L:Nat→Log:=fun i=>(out.lg[i]?).getD logD
 obtain ⟨hexe,hlen,hlog⟩:=exe_of_run (L:=L) ops.toList 0 st0 out rfl hrun (fun j=>by
  rcases Nat.lt_or_ge j out.lg.length with h | h
  ·left;show _=some ((out.lg[0+j]?).getD logD);rw [Nat.zero_add];simp [h]
  ·right
   have:∀ (suf:List Oper) (i:Nat) (st:St) (out:Out),runOps E cs base i suf st=some out→out.lg.length=suf.length:=by
    intro suf
    induction suf with
    | nil=>intro i st out h; simp only [runOps,Option.some.injEq] at h; subst h; rfl
    | cons o r ih =>
     intro i st out h
     simp only [runOps] at h
     cases hm:opM E cs i (base+16*i) o st.get with
     | none=>simp [hm] at h
     | some p =>
      obtain ⟨e,rd⟩:=p
      simp only [hm] at h
      cases hr2:runOps E cs base (i+1) r (st.sets e.1.wr) with
      | none=>simp [hr2] at h
      | some out2=>simp only [hr2,Option.some.injEq] at h; subst h; simp [ih _ _ _ hr2]
   rw [this _ _ _ _ hrun] at h;exact h)
 have n_eq:ops.toList.length=ops.size:=Array.length_toList
 let B:=befs ops.toList []
 let prec:Nat→Nat→Prop:=fun x y=>(nth0 B y).testBit x=true
 obtain ⟨_,bl,bs⟩:=befs_spec ops.toList []
 have bsp:∀ i o,ops.toList[i]?=some o→nth0 B i=maskE (B.take i) o.after.toList:=by
  intro i o ho
  have:=bs i o ho
  simp only [List.length_nil,Nat.zero_add] at this
  simp only [nth0,nth_eq]
  show (match B[i]? with | some x=>x | none=>0)=_
  rw [this]
 have prec_step:∀ x y o,ops.toList[y]?=some o→prec x y→∃ e∈o.after.toList,Region.binds .any e=true∧e.on<y∧(x=e.on∨prec x e.on):=by
  intro x y o ho hp
  have hp:(nth0 B y).testBit x=true:=hp
  rw [bsp y o ho] at hp
  obtain ⟨e,h1,h2,h3⟩:=maskE_bit hp
  have hlt:=edgesOk_spec d1 y o ho e h1 h2
  rw [Nat.zero_add] at hlt
  refine ⟨e,h1,h2,hlt,h3.imp id (fun h => ?_)⟩
  show (nth0 B e.on).testBit x=true
  have:nth0 (B.take y) e.on=nth0 B e.on:=by
   simp only [nth0,nth_eq,List.getElem?_take,if_pos hlt]
  rw [← this];exact h
 have prec_lt:∀ y x,y<ops.size→prec x y→x<y:=by
  intro y
  induction y using Nat.strongRecOn with
  | _ y ih =>
   intro x hy hp
   have ho:ops.toList[y]?=some ops.toList[y]:=by simp [hy]
   obtain ⟨e,h1,h2,h3,h4⟩:=prec_step x y _ ho hp
   rcases h4 with rfl | h4
   ·exact h3
   ·have:=ih e.on h3 x oM h4;omega
 have Lget:∀ i,i<ops.size→out.lg[i]?=some (L i):=by
  intro i hi
  have:i<out.lg.length:=by rw [hlen,n_eq];exact hi
  show _=some ((out.lg[i]?).getD logD)
  simp [this]
 have hind:∀ x∈List.range' 0 ops.toList.length,∀ y∈List.range' 0 ops.toList.length,x≠y→¬ prec x y→¬ prec y x→indep (L x) (L y)=true:=by
  have base_:∀ x y,x<y→y<ops.size→¬ prec x y→indep (L x) (L y)=true:=by
   intro x y hxy hy hp
   rcases pairsOk_spec (pre:=[]) (j:=0) rfl d3 y (L y) (Lget y hy) x (L x) (by simpa using Lget x oM) oM with h | h
   ·rw [Nat.zero_add] at h;exact (hp h).elim
   ·exact h
  have symm:∀ x y:Log,indep x y=true→indep y x=true:=by
   intro x y h
   obtain ⟨q1,q2,q3⟩:=indep_spec h
   have mk:∀ {w:List (Key×KV)} {l:List Key},(∀ p∈w,∀ k∈l,clash p.1 k=false)→clashL w l=false:=by
    intro w l hh
    induction w with
    | nil=>rfl
    | cons p r ih =>
     obtain ⟨k,v⟩:=p
     simp only [clashL]
     have:clashA k l=false:=by
      have hk:∀ x∈l,clash k x=false:=fun x hx=>hh (k,v) (by simp) x hx
      clear hh ih
      induction l with
      | nil=>rfl
      | cons y r ih=>simp only [clashA]; rw [hk y (by simp)]; exact ih (fun x hx=>hk x (by simp [hx]))
     rw [this]
     exact ih (fun p hp=>hh p (by simp [hp]))
   have kmem:∀ {w:List (Key×KV)} {k:Key},k∈keysOf w→∃ p∈w,p.1=k:=by
    intro w
    induction w with
    | nil=>intro k h; simp [keysOf] at h
    | cons p r ih =>
     intro k h
     simp only [keysOf,List.mem_cons] at h
     rcases h with rfl | h
     ·exact ⟨p,by simp,rfl⟩
     ·obtain ⟨q,h1,h2⟩:=ih h;exact ⟨q,by simp [h1],h2⟩
   unfold indep
   rw [mk q2,mk q1]
   have:clashL y.2.1.wr (keysOf x.2.1.wr)=false:=mk (fun p hp k hk=>by
    obtain ⟨q,hq,rfl⟩:=kmem hk
    rw [clash_symm];exact q3 q hq p hp)
   rw [this]
  intro x hx y hy hne h1 h2
  have hx:x<ops.size:=by have:=List.mem_range'_1.1 hx;omega
  have hy:y<ops.size:=by have:=List.mem_range'_1.1 hy;omega
  rcases Nat.lt_or_gt_of_ne hne with h | h
  ·exact base_ x y h hy h1
  ·exact symm _ _ (base_ y x h hx h2)
 have hnr:(List.range' 0 ops.toList.length).Nodup:=(List.pairwise_lt_range' (s:=0) (n:=ops.toList.length)).imp (fun h=>Nat.ne_of_lt h)
 have hpt:(List.range' 0 ops.toList.length).Pairwise (fun x y=>¬ prec y x):=by
  refine List.Pairwise.imp_of_mem ?_ (List.pairwise_lt_range' (s:=0) (n:=ops.toList.length))
  intro x y hx hy hlt hp
  have hx:x<ops.size:=by have:=List.mem_range'_1.1 hx;omega
  have:=prec_lt x y hx hp
  omega
 have key:∀ (fuel:Nat) (l:List Nat) (listed:Array Bool) (s:St) (a:Act) (w:World),fuel+l.length=ops.size→listed.size=ops.size→l.Nodup→(∀ x∈l,x<ops.size)→(∀ x,listed.getD x false=true↔x∈l) →
   (∀ x∈l,∀ y,prec y x→y∈l)→l.Pairwise (fun x y=>¬ prec y x)→Exe E cs base ops.toList L l st0 s →
   SatE Γ (fun id=>id<base∨∃ j∈l,base+16*j≤id∧id<base+16*j+16) (fun t=>∃ j∈l,∃ o:Oper,ops.toList[j]?=some o∧o.dst=some t) s a w→wpAny Γ.P .any ops Q fuel listed a w:=by
  intro fuel
  have done:∀ (l:List Nat) (listed:Array Bool) (s:St) (a:Act) (w:World),listed.size=ops.size→l.Nodup→(∀ x∈l,x<ops.size)→(∀ x,listed.getD x false=true↔x∈l)→l.Pairwise (fun x y=>¬ prec y x)→Exe E cs base ops.toList L l st0 s →
    SatE Γ (fun id=>id<base∨∃ j∈l,base+16*j≤id∧id<base+16*j+16) (fun t=>∃ j∈l,∃ o:Oper,ops.toList[j]?=some o∧o.dst=some t) s a w→Region.ready .any ops listed=[]→Q .normal a w:=by
   intro l listed s a w hls hnd hlt hlst hpw hex hsat hready
   have hall:∀ x,x<ops.size→x∈l:=by
    intro x
    induction x using Nat.strongRecOn with
    | _ x ih =>
     intro hx
     by_cases hxl:x∈l
     ·exact hxl
     ·exfalso
      have ho:ops[x]?=some ops[x]:=by simp [hx]
      have:x∈Region.ready .any ops listed:=by
       refine mem_ready.2 ⟨?_,ops[x],ho,fun e he hbd => ?_⟩
       ·have:listed.getD x false=false:=by
         cases h:listed.getD x false with
         | false=>rfl
         | true=>exact (hxl ((hlst x).1 h)).elim
        rw [Array.getD_eq_getD_getElem?] at this ⊢
        rw [Array.getElem?_eq_getElem oM] at this ⊢
        simpa using this
       ·have hlt':=edgesOk_spec d1 x ops[x] (by simpa using ho) e (by simpa using he) hbd
        rw [Nat.zero_add] at hlt'
        exact (hlst _).2 (ih e.on hlt' oM)
      rw [hready] at this
      simp at this
   obtain ⟨st1,h1,e1⟩:=Exe.any (prec:=prec) hnr hnd (fun x=>by
    rw [List.mem_range'_1]
    constructor
    ·intro h;have:=hlt x h;omega
    ·intro h;exact hall x oM) hpt hpw hind hexe
   have hss:=h1.det hex
   subst hss
   refine hQ a w ?_
   obtain ⟨D,ρ,hsat⟩:=hsat
   refine ⟨D,ρ,?_⟩
   have:=hsat.congr (st':=out.st) e1.1 e1.2
   refine this.mono (fun id h => ?_) (fun t h => ?_)
   ·unfold sSet
    rcases h with h | ⟨j,hj,h⟩
    ·omega
    ·have:=hlt j hj;omega
   ·obtain ⟨j,_,o,h⟩:=h;exact ⟨j,o,h⟩
  induction fuel with
  | zero =>
   intro l listed s a w hf hls hnd hlt hlst hcl hpw hex hsat
   have hready:Region.ready .any ops listed=[]:=by
    refine List.eq_nil_iff_forall_not_mem.2 (fun x hx => ?_)
    obtain ⟨h1,o,ho,_⟩:=mem_ready.1 hx
    have hxs:x<ops.size:=by
     rcases Nat.lt_or_ge x ops.size with h | h
     ·exact h
     ·simp [Array.getElem?_eq_none h] at ho
    have:x∈l:=by
     by_cases hxl:x∈l
     ·exact hxl
     ·have:=nodup_le (l:=x::l) (n:=ops.size) (List.nodup_cons.2 ⟨hxl,hnd⟩) (fun y hy=>by
       rcases List.mem_cons.1 hy with rfl | hy
       ·exact hxs
       ·exact hlt y hy)
      simp at this;omega
    have:=(hlst x).2 this
    rw [Array.getD_eq_getD_getElem?] at this h1
    rw [Array.getElem?_eq_getElem oM] at this h1
    simp at this h1
    rw [this] at h1
    cases h1
   exact ⟨hready,done l listed s a w hls hnd hlt hlst hpw hex hsat hready⟩
  | succ fuel ih =>
   intro l listed s a w hf hls hnd hlt hlst hcl hpw hex hsat
   refine ⟨done l listed s a w hls hnd hlt hlst hpw hex hsat,fun i hi => ?_⟩
   obtain ⟨h1,o,ho,hedges⟩:=mem_ready.1 hi
   have his:i<ops.size:=by
    rcases Nat.lt_or_ge i ops.size with h | h
    ·exact h
    ·simp [Array.getElem?_eq_none h] at ho
   have hil:i∉l:=by
    intro hh
    have:=(hlst i).2 hh
    rw [Array.getD_eq_getD_getElem?] at this h1
    rw [Array.getElem?_eq_getElem oM] at this h1
    simp at this h1
    rw [this] at h1
    cases h1
   have hoL:ops.toList[i]?=some o:=by simpa using ho
   have hpred:∀ y,prec y i→y∈l:=by
    intro y hy
    obtain ⟨e,h1,h2,h3,h4⟩:=prec_step y i o hoL hy
    have hel:e.on∈l:=(hlst _).1 (hedges e (by simpa using h1) h2)
    rcases h4 with rfl | h4
    ·exact hel
    ·exact hcl _ hel y h4
   have hnl:∀ x∈l,¬ prec i x:=fun x hx hp=>hil (hcl x hx i hp)
   let rest:=(List.range ops.size).filter (fun j=>decide (j∉l)&&decide (j≠i))
   have hrest:∀ j,j∈rest↔j<ops.size∧j∉l∧j≠i:=by
    intro j
    simp only [rest,List.mem_filter,List.mem_range,Bool.and_eq_true,decide_eq_true_eq]
   have hnd2:(l++i::rest).Nodup:=by
    refine List.nodup_append.2 ⟨hnd,List.nodup_cons.2 ⟨fun hh=>((hrest i).1 hh).2.2 rfl,List.nodup_range.filter _⟩,fun x hx y hy e => ?_⟩
    subst e
    rcases List.mem_cons.1 hy with rfl | hy
    ·exact hil hx
    ·exact ((hrest x).1 hy).2.1 hx
   have hpw2:(l++i::rest).Pairwise (fun x y=>¬ prec y x):=by
    refine List.pairwise_append.2 ⟨hpw,List.pairwise_cons.2 ⟨fun y hy hp=>((hrest y).1 hy).2.1 (hpred y hp),?_⟩,fun x hx y hy hp => ?_⟩
    ·have hr:rest.Pairwise (fun x y=>x<y):=(List.pairwise_lt_range (n:=ops.size)).filter _
     refine List.Pairwise.imp_of_mem ?_ hr
     intro x y hx hy hlt' hp
     have:=prec_lt x y ((hrest x).1 hx).1 hp
     omega
    ·rcases List.mem_cons.1 hy with rfl | hy
     ·exact hnl x hx hp
     ·exact ((hrest y).1 hy).2.1 (hcl x hx y hp)
   obtain ⟨st1,h2,e2⟩:=Exe.any (prec:=prec) hnr hnd2 (fun x=>by
    rw [List.mem_range'_1,List.mem_append,List.mem_cons,hrest]
    constructor
    ·rintro (h | rfl | h)
     ·have:=hlt x h;omega
     ·omega
     ·omega
    ·intro h
     by_cases h1:x∈l
     ·exact .inl h1
     ·by_cases h2:x=i
      ·exact .inr (.inl h2)
      ·exact .inr (.inr ⟨by omega,h1,h2⟩)) hpt hpw2 hind hexe
   obtain ⟨s',h3,h4⟩:=h2.split
   have hss:=hex.det h3
   subst hss
   cases h4 with
   | cons _ o' _ _ _ ho' hm hr =>
    rw [hoL] at ho'
    simp only [Option.some.injEq] at ho'
    subst ho'
    obtain ⟨v1,v2,v3⟩:=hlog i (by rw [n_eq];exact his) (L i) (Lget i his)
    obtain ⟨D,ρ,hsat⟩:=hsat
    refine op_ok hP hG (cs:=cs) (nid:=base+16*i) hall hsat ?_ ho ?_ ?_ (eff:=(L i).2.1) (eqs:=(L i).2.2) ⟨(L i).1,hm⟩ (fun p hp=>hvc p (v1 p hp)) (v2 he) (v3 hb) ?_
    ·intro id g1 g2 g3
     rcases g3 with g3 | ⟨j,hj,g3⟩
     ·omega
     ·have:j≠i:=fun e=>hil (e▸hj)
      omega
    ·intro x hx
     refine ⟨allLt_lt ok2 x (dst_mem hoL hx),?_⟩
     rintro ⟨j,hj,o',ho',hd'⟩
     have:=dst_ne ok1 hoL ho' hx hd'
     exact hil (this▸hj)
    ·intro j b oj t hg hoj ht
     obtain ⟨e,g1,g2,g3⟩:=gdEdge_spec d2 i o hoL j b hg
     have:=(hlst _).1 (hedges e (by simpa using g1) g2)
     rw [g3] at this
     exact ⟨j,this,oj,by simpa using hoj,ht⟩
    ·intro a' w' hs'
     refine ih (l++[i]) _ _ a' w' sO (by simp [hls]) ?_ ?_ ?_ ?_ ?_ (hex.snoc hoL hm) ?_
     ·exact List.nodup_append.2 ⟨hnd,by simp,fun x hx y hy e=>by simp at hy;subst hy;exact hil (e▸hx)⟩
     ·intro x hx
      rcases List.mem_append.1 hx with h | h
      ·exact hlt x h
      ·simp at h;omega
     ·intro x
      rw [List.mem_append,List.mem_singleton]
      by_cases e:i=x
      ·subst e
       simp only [or_true,iff_true]
       rw [Array.getD_eq_getD_getElem?,Array.getElem?_setIfInBounds]
       simp [hls,his]
      ·rw [getD_set_ne false e,hlst x]
       constructor
       ·exact fun h => .inl h
       ·rintro (h | h)
        ·exact h
        ·exact (e h.symm).elim
     ·intro x hx y hy
      rcases List.mem_append.1 hx with h | h
      ·exact List.mem_append.2 (.inl (hcl x h y hy))
      ·simp at h
       subst h
       exact List.mem_append.2 (.inl (hpred y hy))
     ·refine List.pairwise_append.2 ⟨hpw,by simp,fun x hx y hy hp => ?_⟩
      simp at hy
      subst hy
      exact hnl x hx hp
     ·obtain ⟨D',ρ',hs'⟩:=hs'
      refine ⟨D',ρ',hs'.mono (fun id h => ?_) (fun t h => ?_)⟩
      ·rcases h with (h | ⟨j,hj,h⟩) | h
       ·exact .inl h
       ·exact .inr ⟨j,List.mem_append.2 (.inl hj),h⟩
       ·exact .inr ⟨i,by simp,h.1,h.2⟩
      ·rcases h with ⟨j,hj,h⟩ | h
       ·exact ⟨j,List.mem_append.2 (.inl hj),h⟩
       ·exact ⟨i,by simp,o,hoL,h⟩
 refine key ops.size [] _ st0 a w (by simp) (by simp) List.nodup_nil (by simp) ?_ (by simp) List.Pairwise.nil (.nil _) ?_
 ·intro x
  simp only [List.not_mem_nil,iff_false,Bool.not_eq_true]
  rw [Array.getD_eq_getD_getElem?,Array.getElem?_replicate]
  split<;>simp
 ·obtain ⟨D,ρ,hs⟩:=hs
  refine ⟨D,ρ,hs.mono (fun id h => .inl ?_) (fun t h=>h.elim)⟩
  unfold sSet at h;omega
end
end Go.Sv
end
section
namespace Go.Sv
open M
def Tri (Γ:Ctx) (c:Code) (st:St) (Q:Exit→St→Prop):Prop :=
 ∀ a w,Sat0 Γ st a w→c.wp Γ.P (fun e a' w'=>∃ st',Q e st'∧Sat0 Γ st' a' w') a w
inductive KI
 | code (c:Code)
 | blk (id:Nat)
 | lp (R:St→Prop)
def post (Γ:Ctx):List KI→(St→Prop)→Exit→St→Prop
 | [],Q=>fun e st=>match e with
  | .normal=>Q st
  | .ret=>Q st
  | _=>False
 | .code c::k,Q=>fun e st=>match e with
  | .normal=>Tri Γ c st (post Γ k Q)
  | e=>post Γ k Q e st
 | .blk id::k,Q=>fun e st=>match e with
  | .exit id'=>if id'=id then post Γ k Q .normal st else post Γ k Q (.exit id') st
  | e=>post Γ k Q e st
 | .lp R::k,Q=>fun e st=>match e with
  | .normal=>R st
  | e=>post Γ k Q e st
def Wp (P:Program) (G:Nat→Option (List Cell)) (N kn:Nat) (k:List KI) (Q:St→Prop) (st:St):Prop :=
 ∀ Γ:Ctx,Γ.P=P→Γ.G=G→Γ.N=N→Γ.kin=kn→post Γ k Q .normal st
def Ent (kn:Nat) (st st':St):Prop:=∀ (Γ:Ctx) (a:Act) (w:World),Γ.kin=kn→Sat0 Γ st a w→Sat0 Γ st' a w
theorem Tri.mono {Γ:Ctx} {c:Code} {st:St} {Q Q':Exit→St→Prop} (h:Tri Γ c st Q) (hq:∀ e st,Q e st→Q' e st):Tri Γ c st Q' :=
 fun a w hs=>Go.wp_mono (h a w hs) fun e a' w' ⟨st',q,s⟩=>⟨st',hq _ _ q,s⟩
section
variable {P:Program} {G:Nat→Option (List Cell)} {N kn:Nat} {k:List KI} {Q:St→Prop} {st st':St}
theorem Wp.ent {c:Code} (he:Ent kn st st') (h:Wp P G N kn (.code c::k) Q st'):Wp P G N kn (.code c::k) Q st :=
 fun Γ h1 h2 h3 h4 a w hs=>h Γ h1 h2 h3 h4 a w (he Γ a w h4 hs)
theorem Wp.seq {x y:Code} (h:Wp P G N kn (.code x :: .code y::k) Q st):Wp P G N kn (.code (.seq x y)::k) Q st:=by
 intro Γ h1 h2 h3 h4 a w hs
 refine wp_seq (Go.wp_mono (h Γ h1 h2 h3 h4 a w hs) ?_)
 rintro e a' w' ⟨st',q,s⟩
 cases e with
 | normal=>exact q a' w' s
 | exit id=>exact ⟨st',q,s⟩
 | goto l=>exact ⟨st',q,s⟩
 | ret=>exact ⟨st',q,s⟩
 | panic ch=>exact ⟨st',q,s⟩
 | outgrown=>exact ⟨st',q,s⟩
theorem Wp.skip (h:Wp P G N kn k Q st):Wp P G N kn (.code .skip::k) Q st :=
 fun Γ h1 h2 h3 h4 a w hs=>wp_skip ⟨st,h Γ h1 h2 h3 h4,hs⟩
theorem Wp.block {id:Nat} {c:Code} (h:Wp P G N kn (.code c :: .blk id::k) Q st):Wp P G N kn (.code (.block id c)::k) Q st:=by
 intro Γ h1 h2 h3 h4 a w hs
 refine wp_block (Go.wp_mono (h Γ h1 h2 h3 h4 a w hs) ?_)
 rintro e a' w' ⟨st',q,s⟩
 cases e with
 | normal=>exact ⟨st',q,s⟩
 | exit id' =>
  simp only [Exit.inBlock]
  simp only [post] at q
  split
  ·rename_i e;rw [if_pos e] at q;exact ⟨st',q,s⟩
  ·rename_i e;rw [if_neg e] at q;exact ⟨st',q,s⟩
 | goto l=>exact ⟨st',q,s⟩
 | ret=>exact ⟨st',q,s⟩
 | panic ch=>exact ⟨st',q,s⟩
 | outgrown=>exact ⟨st',q,s⟩
theorem goto_post {Γ:Ctx} {l:Nat}:∀ {k:List KI} {st:St},post Γ k Q (.goto l) st→False
 | [],_,h=>h
 | .code _::k,_,h=>goto_post (k:=k) h
 | .lp _::k,_,h=>goto_post (k:=k) h
 | .blk _::k,_,h=>goto_post (k:=k) h
theorem Wp.scope {c:Code} (h:Wp P G N kn (.code c::k) Q st):Wp P G N kn (.code (.scope c)::k) Q st:=by
 intro Γ h1 h2 h3 h4 a w hs
 refine wp_scope_straight (Go.wp_mono (h Γ h1 h2 h3 h4 a w hs) ?_)
 rintro e a' w' ⟨st',q,s⟩
 cases e with
 | goto l=>exact (goto_post q).elim
 | normal=>exact ⟨st',q,s⟩
 | exit id=>exact ⟨st',q,s⟩
 | ret=>exact ⟨st',q,s⟩
 | panic ch=>exact ⟨st',q,s⟩
 | outgrown=>exact ⟨st',q,s⟩
theorem Wp.label {l:Nat} (h:Wp P G N kn k Q st):Wp P G N kn (.code (.label l)::k) Q st :=
 fun Γ h1 h2 h3 h4 a w hs=>wp_label ⟨st,h Γ h1 h2 h3 h4,hs⟩
theorem Wp.blk {id:Nat} (h:Wp P G N kn k Q st):Wp P G N kn (.blk id::k) Q st:=h
theorem Wp.lp {R:St→Prop} (h:R st):Wp P G N kn (.lp R::k) Q st:=fun Γ _ _ _ _=>h
theorem Wp.nil (h:Q st):Wp P G N kn [] Q st:=fun Γ _ _ _ _=>h
def unw (id:Nat):List KI→Option (List KI)
 | []=>none
 | .blk id'::k=>match Nat.beq id id' with
  | true=>some k
  | false=>unw id k
 | _::k=>unw id k
theorem unw_post {Γ:Ctx} {id:Nat}:∀ {k k':List KI},unw id k=some k'→post Γ k' Q .normal st→post Γ k Q (.exit id) st
 | [],k',h,_=>by simp [unw] at h
 | .code c::k,k',h,hp=>unw_post (k:=k) h hp
 | .lp R::k,k',h,hp=>unw_post (k:=k) h hp
 | .blk id'::k,k',h,hp=>by
  simp only [unw] at h
  simp only [post]
  cases hb:Nat.beq id id' with
  | true=>rw [hb] at h; simp only [Option.some.injEq] at h; subst h; rw [if_pos ((beq_eq _ _).1 hb)]; exact hp
  | false=>rw [hb] at h; rw [if_neg ((beq_ne _ _).1 hb)]; exact unw_post h hp
theorem Wp.exit {id:Nat} {k':List KI} (hu:unw id k=some k') (h:Wp P G N kn k' Q st):Wp P G N kn (.code (.exit id)::k) Q st :=
 fun Γ h1 h2 h3 h4 a w hs=>wp_exit ⟨st,unw_post hu (h Γ h1 h2 h3 h4),hs⟩
theorem ret_post {Γ:Ctx}:∀ {k:List KI},Q st→post Γ k Q .ret st
 | [],h=>h
 | .code c::k,h=>ret_post (k:=k) h
 | .lp R::k,h=>ret_post (k:=k) h
 | .blk id::k,h=>ret_post (k:=k) h
theorem Wp.ret (h:Q st):Wp P G N kn (.code .ret::k) Q st :=
 fun Γ h1 h2 h3 h4 a w hs=>wp_ret ⟨st,ret_post h,hs⟩
def condB (st:St):Operand→Option Bool
 | .tmp t=>match look st.tm t with
  | some (.v (.c (.bool b)))=>some b
  | _=>none
 | .const (.bool b)=>some b
 | _=>none
theorem Wp.cond {c:Operand} {x y:Code} {b:Bool} (hc:condB st c=some b) (ht:b=true→Wp P G N kn (.code x::k) Q st) (hf:b=false→Wp P G N kn (.code y::k) Q st) :
  Wp P G N kn (.code (.cond c x y)::k) Q st:=by
 intro Γ h1 h2 h3 h4 a w hs
 have hv:a.eval c = .bool b:=by
  cases c with
  | tmp t =>
   simp only [condB] at hc
   split at hc
   ·rename_i b' hl
    simp only [Option.some.injEq] at hc
    subst hc
    obtain ⟨D,ρ,hs⟩:=hs
    obtain ⟨u,hu,hd⟩:=hs.tm t _ hl
    rw [tmps_getD hu];exact hd
   ·cases hc
  | const v =>
   cases v<;>simp [condB] at hc
   subst hc;rfl
  | global g=>simp [condB] at hc
  | func f=>simp [condB] at hc
 exact wp_cond_split hv (fun hb=>ht hb Γ h1 h2 h3 h4 a w hs) (fun hb=>hf hb Γ h1 h2 h3 h4 a w hs)
structure Ann (P:Program) (G:Nat→Option (List Cell)) where
 grd:List (Nat×Bool):=[]
 fm:List (Nat×V1):=[]
 bs:List (Nat×Blk):=[]
 wrp:List (Nat×Unit):=[]
 cs:List (Nat×CallE P G):=[]
def envOf {G:Nat→Option (List Cell)} (P:Program) (N:Nat) (ops:List Oper) (an:Ann P G):Env:=⟨P,G,N,ops,an.grd,an.fm,an.bs,an.wrp⟩
def regRun (P:Program) (G:Nat→Option (List Cell)) (N:Nat) (ops:Array Oper) (an:Ann P G) (st:St):Option Out :=
 match opsOk N ops.toList with
 | true=>runOps (envOf P N ops.toList an) an.cs st.nx 0 ops.toList st
 | false=>none
def outSt (o:Option Out) (ops:Array Oper) (base:Nat):St:=match o with
 | some o=>o.st.done ops.toList base (len ops.toList)
 | none=>⟨[],[],0⟩
def outE (o:Option Out):List (List V1)×List (List Blk):=match o with
 | some o=>(o.el,o.bl)
 | none=>([],[])
def outF (o:Option Out):List (List V1)×List (List Blk):=match o with
 | some o=>(o.er,o.br)
 | none=>([],[])
def AllP:List Prop→Prop
 | []=>True
 | [p]=>p
 | p::r=>p∧AllP r
theorem AllP.mem:∀ {l:List Prop},AllP l→∀ p∈l,p
 | [],_,p,hp=>by simp at hp
 | [q],h,p,hp=>by rcases List.mem_cons.1 hp with rfl | hp; exact h; exact absurd hp (by simp)
 | q::r::l,h,p,hp=>by
  rcases List.mem_cons.1 hp with rfl | hp
  ·exact h.1
  ·exact AllP.mem h.2 p hp
theorem Wp.loop {X:Type} {c:Code} (inv:X→St) (facts:X→Prop) (μ:X→Nat) (x0:X) (h0:Ent kn st (inv x0)) (f0:facts x0)
  (round:∀ x,facts x→Wp P G N kn (.code c :: .lp (fun s=>∃ x',facts x'∧μ x'<μ x∧Ent kn s (inv x'))::k) Q (inv x)):Wp P G N kn (.code (.loop c)::k) Q st:=by
 intro Γ h1 h2 h3 h4 a w hs b kk cs
 have key:∀ (n:Nat) (x:X) (a:Act) (w:World),μ x=n→facts x→Sat0 Γ (inv x) a w →
   ∃ e a' w',(∃ st',post Γ k Q e st'∧Sat0 Γ st' a' w')∧Arrives Γ.P (lone (b.at a (.code c :: .inLoop c::kk)) cs w) b kk cs e a' w':=by
  intro n
  induction n using Nat.strongRecOn with
  | _ n ih =>
   intro x a w hn hf hI
   obtain ⟨e,a₁,w₁,⟨s1,hq,hs1⟩,harr⟩:=round x hf Γ h1 h2 h3 h4 a w hI b (.inLoop c::kk) cs
   cases e with
   | normal =>
    obtain ⟨x',f',hlt,he⟩:=hq
    obtain ⟨e₂,a₂,w₂,hq₂,harr₂⟩:=ih (μ x') (hn▸hlt) x' a₁ w₁ rfl f' (he Γ a₁ w₁ h4 hs1)
    exact ⟨e₂,a₂,w₂,hq₂,.of_steps (Steps.trans harr (.one step_inLoop)) harr₂⟩
   | exit id=>exact ⟨_,a₁,w₁,⟨s1,hq,hs1⟩,.pass (x := .inLoop c) rfl (fun _ _ => .inl (by simp)) harr⟩
   | goto l=>exact ⟨_,a₁,w₁,⟨s1,hq,hs1⟩,.pass (x := .inLoop c) rfl (fun _ _ => .inl (by simp)) harr⟩
   | ret=>exact ⟨_,a₁,w₁,⟨s1,hq,hs1⟩,.pass (x := .inLoop c) rfl (fun _ _ => .inl (by simp)) harr⟩
   | panic ch=>exact ⟨_,a₁,w₁,⟨s1,hq,hs1⟩,.pass (x := .inLoop c) rfl (fun _ _ => .inl (by simp)) harr⟩
   | outgrown=>exact ⟨_,a₁,w₁,⟨s1,hq,hs1⟩,.pass (x := .inLoop c) rfl (fun _ _ => .inl (by simp)) harr⟩
 obtain ⟨e,a',w',hq,harr⟩:=key _ x0 a w rfl f0 (h0 Γ a w h4 hs)
 exact ⟨e,a',w',hq,.of_steps (.one step_loop) harr⟩
end
end Go.Sv
end
section
namespace Go.Sv
open M
def allB (p:Nat→Bool):Nat→Bool
 | 0=>true
 | i+1=>bAnd (p i) (allB p i)
theorem allB_get {p:Nat→Bool}:∀ {n:Nat},allB p n=true→∀ i,i<n→p i=true
 | n+1,h,i,hi=>by
  obtain ⟨h1,h2⟩:=bAnd_eq h
  rcases Nat.lt_or_ge i n with h | h
  ·exact allB_get h2 i h
  ·rw [show i=n by omega];exact h1
def idLt (nx:Nat):Cell→Bool
 | .ptr id _ | .row _ id _ _ | .rp _ id _ _ | .map id=>Nat.blt id nx
 | .clo _ k sh c=>allB (fun i=>match sh i with | none=>idLt nx (c i 0) | some m=>allB (fun j=>idLt nx (c i j)) m) k
 | x=>x.flat
def idLtL (nx:Nat):List Cell→Bool
 | []=>true
 | x::r=>bAnd (idLt nx x) (idLtL nx r)
def idLtV (nx:Nat):V1→Bool
 | .c (.clo _ k sh c)=>cloOk nx sh c k
 | .c x=>idLt nx x
 | .agg l=>idLtL nx l
where
 cloOk (nx:Nat) (sh:Nat→Option Nat) (c:Nat→Nat→Cell):Nat→Bool
  | 0=>true
  | i+1=>bAnd (match sh i with | none=>idLt nx (c i 0) | some m=>idLtL nx (upL (c i) 0 m)) (cloOk nx sh c i)
def idLtVs (nx:Nat):List V1→Bool
 | []=>true
 | x::r=>bAnd (idLtV nx x) (idLtVs nx r)
def idLtT (nx:Nat):TV→Bool
 | .v x=>idLtV nx x
 | .tup l=>idLtVs nx l
 | .cnd _ _ _=>false
 | .junk=>true
def idLtTs (nx:Nat):List (Nat×TV)→Bool
 | []=>true
 | (_,v)::r=>bAnd (idLtT nx v) (idLtTs nx r)
def idLtO (nx:Nat):Ob→Bool
 | .mi mid _ _=>Nat.blt mid nx
 | _=>true
def idLtB (nx:Nat):List (Nat×Blk)→Bool
 | []=>true
 | (id,.box _ cs)::r=>bAnd (Nat.blt id nx) (bAnd (idLtL nx cs) (idLtB nx r))
 | (id,.row _ _ _ _)::r=>bAnd (Nat.blt id nx) (idLtB nx r)
 | (id,.ob o)::r=>bAnd (Nat.blt id nx) (bAnd (idLtO nx o) (idLtB nx r))
def RowsIn (_:Nat→Prop) (_:List (Nat×Blk)):Prop:=True
theorem idLt_inS {nx:Nat} {x:Cell} (h:idLt nx x=true):x.inS (fun i=>i<nx):=by
 induction x with
 | clo f k sh c ih =>
  simp only [idLt] at h
  intro i hi
  have hg:=allB_get h i hi
  cases hs:sh i with
  | none=>simp only [hs] at hg ⊢; exact ih i 0 hg
  | some m=>simp only [hs] at hg ⊢; exact fun j hj=>ih i j (allB_get hg j hj)
 | _=>simp only [idLt] at h; first | exact Nat.le_of_ble_eq_true h | exact Cell.inS_flat h
theorem idLtL_inS {nx:Nat}:∀ {l:List Cell},idLtL nx l=true→∀ (j:Nat) (x:Cell),l[j]?=some x→x.inS (fun i=>i<nx)
 | [],_,j,x,hj=>by simp at hj
 | y::r,h,0,x,hj=>by obtain ⟨h1,_⟩:=bAnd_eq h; simp at hj; subst hj; exact idLt_inS h1
 | y::r,h,j+1,x,hj=>by obtain ⟨_,h2⟩:=bAnd_eq h; simp at hj; exact idLtL_inS h2 j x hj
theorem idLtV_inS {nx:Nat} {x:V1} (h:idLtV nx x=true):x.inS (fun i=>i<nx):=by
 cases x with
 | agg l=>exact idLtL_inS h
 | c x =>
  cases x with
  | clo f k sh c =>
   have h:idLtV.cloOk nx sh c k=true:=h
   have:∀ k,idLtV.cloOk nx sh c k=true→∀ i,i<k→match sh i with | none=>(c i 0).inS (fun i=>i<nx) | some m=>∀ j,j<m→(c i j).inS (fun i=>i<nx):=by
    intro k
    induction k with
    | zero=>intro _ i hi; omega
    | succ k ih =>
     intro h i hi
     obtain ⟨h1,h2⟩:=bAnd_eq h
     rcases Nat.lt_or_ge i k with hlt | hge
     ·exact ih h2 i hlt
     ·have:i=k:=by omega
      subst this
      cases hsh:sh i with
      | none=>rw [hsh] at h1; exact idLt_inS h1
      | some m =>
       rw [hsh] at h1
       intro j hj
       exact idLtL_inS h1 j _ (by rw [upL_get,if_pos hj];simp)
   exact this k h
  | _=>exact idLt_inS h
theorem idLtVs_inS {nx:Nat}:∀ {l:List V1},idLtVs nx l=true→∀ (j:Nat) (x:V1),l[j]?=some x→x.inS (fun i=>i<nx)
 | [],_,j,x,hj=>by simp at hj
 | y::r,h,0,x,hj=>by obtain ⟨h1,_⟩:=bAnd_eq h; simp at hj; subst hj; exact idLtV_inS h1
 | y::r,h,j+1,x,hj=>by obtain ⟨_,h2⟩:=bAnd_eq h; simp at hj; exact idLtVs_inS h2 j x hj
theorem idLtT_inS {nx:Nat} {v:TV} (h:idLtT nx v=true):v.inS (fun i=>i<nx):=by
 cases v with
 | v x=>exact idLtV_inS h
 | tup l=>exact idLtVs_inS h
 | cnd t w x=>simp [idLtT] at h
 | junk=>trivial
theorem idLtTs_inS {nx:Nat}:∀ {l:List (Nat×TV)},idLtTs nx l=true→∀ t v,look l t=some v→v.inS (fun i=>i<nx)
 | [],_,t,v,h=>by simp [look] at h
 | (k,y)::r,h,t,v,hl=>by
  obtain ⟨h1,h2⟩:=bAnd_eq h
  simp only [look] at hl
  split at hl
  ·simp only [Option.some.injEq] at hl;subst hl;exact idLtT_inS h1
  ·exact idLtTs_inS h2 t v hl
theorem idLtB_inS {nx:Nat}:∀ {l:List (Nat×Blk)},idLtB nx l=true→RowsIn (fun i=>i<nx) l→∀ id b,look l id=some b→id<nx∧b.inS (fun i=>i<nx)
 | [],_,_,t,v,h=>by simp [look] at h
 | (k,.box e cs)::r,h,hr,t,v,hl=>by
  obtain ⟨h1,h2⟩:=bAnd_eq h
  obtain ⟨h2,h3⟩:=bAnd_eq h2
  simp only [look] at hl
  split at hl
  ·rename_i hb
   simp only [Option.some.injEq] at hl;subst hl
   rw [← (beq_eq _ _).1 hb]
   exact ⟨Nat.le_of_ble_eq_true h1,idLtL_inS h2⟩
  ·exact idLtB_inS h3 hr t v hl
 | (k,.ob o)::r,h,hr,t,v,hl=>by
  obtain ⟨h1,h2⟩:=bAnd_eq h
  obtain ⟨h2,h3⟩:=bAnd_eq h2
  simp only [look] at hl
  split at hl
  ·rename_i hb
   simp only [Option.some.injEq] at hl;subst hl
   rw [← (beq_eq _ _).1 hb]
   refine ⟨Nat.le_of_ble_eq_true h1,?_⟩
   cases o with
   | mi mid n seen=>exact Nat.le_of_ble_eq_true h2
   | ms m=>trivial
   | it s p=>trivial
  ·exact idLtB_inS h3 hr t v hl
 | (k,.row e sz n f)::r,h,hr,t,v,hl=>by
  obtain ⟨h1,h2⟩:=bAnd_eq h
  simp only [look] at hl
  split at hl
  ·rename_i hb
   simp only [Option.some.injEq] at hl;subst hl
   rw [← (beq_eq _ _).1 hb]
   exact ⟨Nat.le_of_ble_eq_true h1,trivial⟩
  ·exact idLtB_inS h2 trivial t v hl
def TV.ren (σ:Nat→Nat):TV→TV
 | .v x => .v (x.ren σ)
 | .tup l => .tup (mapL (V1.ren σ) l)
 | .cnd t w x => .cnd t w (x.ren σ)
 | .junk => .junk
def sigA (m:List (Nat×Nat)) (i:Nat):Nat:=match look m i with
 | some j=>j
 | none=>i
def entT (st:St):List (Nat×TV)→Option (List TV)
 | []=>some []
 | (t,_)::r=>match look st.tm t with
  | none=>none
  | some v=>match entT st r with
   | none=>none
   | some l=>some (v::l)
def renT (m:List (Nat×Nat)):List (Nat×TV)→List TV
 | []=>[]
 | (_,v)::r=>v.ren (sigA m)::renT m r
def entB (m:List (Nat×Nat)) (st:St):List (Nat×Blk)→Option (List Blk)
 | []=>some []
 | (id,_)::r=>match look st.hp (sigA m id) with
  | none=>none
  | some v=>match entB m st r with
   | none=>none
   | some l=>some (v::l)
def renB (m:List (Nat×Nat)):List (Nat×Blk)→List Blk
 | []=>[]
 | (_,b)::r=>b.ren (sigA m)::renB m r
def keysGe (kn:Nat):List (Nat×Nat)→Bool
 | []=>true
 | (a,_)::r=>bAnd (Nat.ble kn a) (keysGe kn r)
def sigL (m:List (Nat×Nat)):List (Nat×Blk)→List Nat
 | []=>[]
 | (id,_)::r=>sigA m id::sigL m r
def entOk (kn:Nat) (m:List (Nat×Nat)) (st':St):Bool :=
 bAnd (Nat.ble kn st'.nx) (bAnd (keysGe kn m) (bAnd (nodupB (sigL m st'.hp)) (bAnd (idLtTs st'.nx st'.tm) (idLtB st'.nx st'.hp))))
theorem entT_spec {st:St} {m:List (Nat×Nat)}:∀ {l:List (Nat×TV)},entT st l=some (renT m l)→∀ t v,look l t=some v→look st.tm t=some (v.ren (sigA m))
 | [],_,t,v,h=>by simp [look] at h
 | (k,y)::r,h,t,v,hl=>by
  simp only [entT,renT] at h
  cases h1:look st.tm k with
  | none=>simp [h1] at h
  | some v0 =>
   simp only [h1] at h
   cases h2:entT st r with
   | none=>simp [h2] at h
   | some l0 =>
    simp only [h2,Option.some.injEq,List.cons.injEq] at h
    simp only [look] at hl
    split at hl
    ·rename_i hb
     simp only [Option.some.injEq] at hl;subst hl
     rw [← (beq_eq _ _).1 hb,h1,h.1]
    ·exact entT_spec (l:=r) (by rw [h2,h.2]) t v hl
theorem entB_spec {st:St} {m:List (Nat×Nat)}:∀ {l:List (Nat×Blk)},entB m st l=some (renB m l)→∀ id b,look l id=some b→look st.hp (sigA m id)=some (b.ren (sigA m))
 | [],_,t,v,h=>by simp [look] at h
 | (k,y)::r,h,t,v,hl=>by
  simp only [entB,renB] at h
  cases h1:look st.hp (sigA m k) with
  | none=>simp [h1] at h
  | some v0 =>
   simp only [h1] at h
   cases h2:entB m st r with
   | none=>simp [h2] at h
   | some l0 =>
    simp only [h2,Option.some.injEq,List.cons.injEq] at h
    simp only [look] at hl
    split at hl
    ·rename_i hb
     simp only [Option.some.injEq] at hl;subst hl
     rw [← (beq_eq _ _).1 hb,h1,h.1]
    ·exact entB_spec (l:=r) (by rw [h2,h.2]) t v hl
theorem sigL_inj {m:List (Nat×Nat)}:∀ {l:List (Nat×Blk)},(sigL m l).Nodup→∀ i j bi bj,look l i=some bi→look l j=some bj→sigA m i=sigA m j→i=j:=by
 have mem:∀ {l:List (Nat×Blk)} {i:Nat} {b:Blk},look l i=some b→sigA m i∈sigL m l:=by
  intro l
  induction l with
  | nil=>intro i b h; simp [look] at h
  | cons p r ih =>
   obtain ⟨k,y⟩:=p
   intro i b h
   simp only [look] at h
   simp only [sigL,List.mem_cons]
   split at h
   ·rename_i hb;rw [(beq_eq _ _).1 hb];exact .inl rfl
   ·exact .inr (ih h)
 intro l
 induction l with
 | nil=>intro _ i j bi bj h; simp [look] at h
 | cons p r ih =>
  obtain ⟨k,y⟩:=p
  intro hn i j bi bj hi hj e
  simp only [sigL,List.nodup_cons] at hn
  simp only [look] at hi hj
  cases h1:Nat.beq k i<;>cases h2:Nat.beq k j<;>simp only [h1,h2] at hi hj
  ·exact ih hn.2 i j bi bj hi hj e
  ·rw [← (beq_eq _ _).1 h2] at e
   exact (hn.1 (e▸mem hi)).elim
  ·rw [← (beq_eq _ _).1 h1] at e
   exact (hn.1 (e▸mem hj)).elim
  ·rw [← (beq_eq _ _).1 h1,← (beq_eq _ _).1 h2]
theorem keysGe_sig {kn:Nat}:∀ {m:List (Nat×Nat)},keysGe kn m=true→∀ i,i<kn→sigA m i=i
 | [],_,i,_=>rfl
 | (a,b)::r,h,i,hi=>by
  obtain ⟨h1,h2⟩:=bAnd_eq h
  have h1:=Nat.le_of_ble_eq_true h1
  have hne:a≠i:=by omega
  have:=keysGe_sig h2 i hi
  simp only [sigA,look] at this ⊢
  rw [(beq_ne _ _).2 hne]
  exact this
theorem DenT.ren_no {D:Dat} {σ:Nat→Nat} {ρ:Rho} {tm:Array Value} {v:TV} {u:Value} (h:DenT D ρ (fun _=>False) tm (v.ren σ) u):DenT D (fun i=>ρ (σ i)) (fun _=>False) tm v u:=by
 cases v with
 | v x=>exact DenV.ren.1 h
 | tup l=>obtain ⟨vs,e,hl⟩:=h; rw [mapL_eq] at hl; exact ⟨vs,e,DenL.map_ren.1 hl⟩
 | cnd t w x=>exact h.1.elim
 | junk=>trivial
theorem Ent.of {kn:Nat} {st st':St} (m:List (Nat×Nat)) (hok:entOk kn m st'=true) (hT:entT st st'.tm=some (renT m st'.tm)) (hB:entB m st st'.hp=some (renB m st'.hp)) (hR:RowsIn (fun i=>i<st'.nx) st'.hp):Ent kn st st':=by
 intro Γ a w hk hs
 obtain ⟨k1,hok⟩:=bAnd_eq hok
 obtain ⟨k2,hok⟩:=bAnd_eq hok
 obtain ⟨k3,hok⟩:=bAnd_eq hok
 obtain ⟨k4,k5⟩:=bAnd_eq hok
 have k1:=Nat.le_of_ble_eq_true k1
 have k3:=nodupB_nodup k3
 obtain ⟨D,ρ,h⟩:=hs
 have sT:=entT_spec hT
 have sB:=entB_spec hB
 refine ⟨D,fun i=>ρ (sigA m i),{ h with tm := ?_,hp := ?_,inj := ?_,sep := ?_,own := ?_,kin := ?_,idT:=idLtTs_inS k4,idH:=idLtB_inS k5 hR,kinS:=fun i hi=>by rw [hk] at hi;omega }⟩
 ·intro t v hv
  obtain ⟨u,hu,hd⟩:=h.tm t _ (sT t v hv)
  exact ⟨u,hu,hd.ren_no⟩
 ·intro id b hb
  exact BlkSat.ren.1 (h.hp _ _ (sB id b hb))
 ·intro i j bi bj hi hj li lj e
  exact sigL_inj k3 i j bi bj hi hj (h.inj _ _ _ _ (sB i bi hi) (sB j bj hj) li lj e)
 ·intro id b hb lv o
  exact h.sep _ _ (sB id b hb) lv o
 ·intro id b hb lv
  exact h.own _ _ (sB id b hb) lv
 ·intro i hi
  show ρ (sigA m i)=_
  rw [keysGe_sig k2 i oM]
  exact h.kin i hi
def resM (P:Program):List ResultVar→M (List V1)
 | []=>ret []
 | .tmp t::r=>bind (rd (.tm t)) fun
  | .tv (.v x)=>bind (resM P r) fun l=>ret (x::l)
  | _=>fail
 | .cell t ty::r=>bind (rd (.tm t)) fun
  | .tv (.v (.c (.ptr id off)))=>bind (opt (tSize P ty)) fun sz=>bind (opt (tAgg P ty)) fun ag=>bind (cellsW id off sz) fun l=>bind (mkV ag l) fun x=>bind (resM P r) fun l=>ret (x::l)
  | _=>fail
def resV (P:Program) (rv:List ResultVar) (st:St):Option (List V1):=match resM P rv st.get with
 | some (l,_)=>some l
 | none=>none
theorem res_den {Γ:Ctx} {S W:Nat→Prop} {D:Dat} {ρ:Rho} {st:St} {a:Act} {w:World} (h:Sat Γ S W D ρ st a w):∀ {rv:List ResultVar} {l:List V1},(resM Γ.P rv).Ev st.get l →
  (∀ (j:Nat) (x:V1),l[j]?=some x→x.inS S)∧∃ vs:List Value,(rv.mapM (fun
   | ResultVar.tmp t=>pure (a.tmps.getD t undef)
   | .cell ad t=>do loadVar t (← asAddr (a.tmps.getD ad undef)):ResultVar→Sem Value)).run Γ.P w = .ok vs w∧vs.length=l.length∧∀ (j:Nat) (x:V1),l[j]?=some x→∃ u,vs[j]?=some u∧DenV D ρ x u
 | [],l,hl=>by simp only [resM,ev_ret] at hl; subst hl; exact ⟨by simp,[],rfl,rfl,by simp⟩
 | .tmp t::r,l,hl=>by
  simp only [resM,ev_bind,ev_rd] at hl
  obtain ⟨kv,hk,hl⟩:=hl
  obtain ⟨tv,rfl,hlk⟩:=get_tm hk
  split at hl
  ·rename_i x e
   simp only [KV.tv.injEq] at e
   subst e
   simp only [ev_bind,ev_ret] at hl
   obtain ⟨l',hl',rfl⟩:=hl
   obtain ⟨i1,vs,h1,h2,h3⟩:=res_den h hl'
   obtain ⟨u,hu,hd⟩:=h.tm t _ hlk
   have hin:=h.idT t _ hlk
   refine ⟨fun j y hj => ?_,u::vs,?_,by simp [h2],fun j y hj => ?_⟩
   ·cases j with
    | zero=>simp at hj; subst hj; exact hin
    | succ j=>simp at hj; exact i1 j y hj
   ·simp only [List.mapM_cons,Sem.run_bind,Sem.run_pure,Result.andThen_ok,h1]
    simp [Array.getD_eq_getD_getElem?,hu]
   ·cases j with
    | zero=>simp at hj; subst hj; exact ⟨u,rfl,hd⟩
    | succ j=>simp at hj ⊢; exact h3 j y hj
  ·simp [ev_fail] at hl
 | .cell t ty::r,l,hl=>by
  simp only [resM,ev_bind,ev_rd] at hl
  obtain ⟨kv,hk,hl⟩:=hl
  obtain ⟨tv,rfl,hlk⟩:=get_tm hk
  split at hl
  ·rename_i id off e
   simp only [KV.tv.injEq] at e
   subst e
   simp only [ev_bind,ev_opt,ev_ret] at hl
   obtain ⟨sz,hsz,ag,hag,cl,hcl,x,hx,l',hl',rfl⟩:=hl
   obtain ⟨i1,vs,h1,h2,h3⟩:=res_den h hl'
   obtain ⟨u,hu,hd⟩:=h.tm t _ hlk
   have hd:u = .pointer (some ⟨(ρ id).1,off,none⟩):=hd
   obtain ⟨c1,c2⟩:=cells_den h (cellsW_ev hcl)
   obtain ⟨y,hy,hdy⟩:=loadVar_den (D:=D) (ρ:=ρ) (w:=w) (b:=(ρ id).1) (o:=off) hsz hag c1 (fun j x hj=>(c2 j x hj).2) hx
   have hin:x.inS S:=by
    rcases mkV_ev hx with ⟨_,rfl⟩ | ⟨_,z,rfl,rfl⟩
    ·exact fun j x hj=>(c2 j x hj).1
    ·exact (c2 0 z (by simp)).1
   refine ⟨fun j z hj => ?_,y::vs,?_,by simp [h2],fun j z hj => ?_⟩
   ·cases j with
    | zero=>simp at hj; subst hj; exact hin
    | succ j=>simp at hj; exact i1 j z hj
   ·have hg:a.tmps.getD t undef = .pointer (some ⟨(ρ id).1,off,none⟩):=by simp [Array.getD_eq_getD_getElem?,hu,hd]
    simp only [List.mapM_cons,Sem.run_bind,hg,asAddr,Sem.run_pure,Result.andThen_ok,hy]
    erw [h1]
    rfl
   ·cases j with
    | zero=>simp at hj; subst hj; exact ⟨y,rfl,hdy⟩
    | succ j=>simp at hj ⊢; exact h3 j z hj
  ·simp [ev_fail] at hl
def sigF (kn:Nat) (m:List Nat) (i:Nat):Nat:=match Nat.blt i kn with
 | true=>i
 | false=>match nth m (i-kn) with
  | some j=>j
  | none=>i
def FinQ (P:Program) (rv:List ResultVar) (kn:Nat) (R:List V1→List (Nat×Blk)→Prop) (st:St):Prop :=
 ∃ rs hout m,R rs hout∧(resM P rv).Ev st.get (rs.map (V1.ren (sigF kn m)))∧(∀ id b,look hout id=some b→look st.hp (sigF kn m id)=some (b.ren (sigF kn m))) ∧
  (∀ i j bi bj,look hout i=some bi→look hout j=some bj→sigF kn m i=sigF kn m j→i=j) ∧
  (∀ (j:Nat) (x:V1),rs[j]?=some x→x.inS (fun i=>∃ c,look hout i=some c))∧∀ id b,look hout id=some b→b.inS (fun i=>∃ c,look hout i=some c)
theorem flatV_ren {x:V1} (h:x.flat=true) (σ:Nat→Nat):x.ren σ=x:=by
 have fl:∀ {c:Cell},c.flat=true→c.ren σ=c:=by
  intro c hc
  cases c<;>simp only [Cell.flat,Bool.false_eq_true] at hc<;>rfl
 cases x with
 | c y=>simp only [V1.ren]; rw [fl h]
 | agg l =>
  simp only [V1.ren]
  congr 1
  have:∀ {l:List Cell},flats l=true→l.map (Cell.ren σ)=l:=by
   intro l
   induction l with
   | nil=>intro _; rfl
   | cons y r ih=>intro h; obtain ⟨h1,h2⟩:=bAnd_eq h; simp [fl h1,ih h2]
  exact this h
theorem flatsV_ren {σ:Nat→Nat}:∀ {l:List V1},flatsV l=true→l.map (V1.ren σ)=l
 | [],_=>rfl
 | x::r,h=>by obtain ⟨h1,h2⟩:=bAnd_eq h; simp [flatV_ren h1,flatsV_ren h2]
theorem flatV_inS {x:V1} (h:x.flat=true) (S:Nat→Prop):x.inS S:=by
 cases x with
 | c y=>exact Cell.inS_flat h
 | agg l=>exact fun j y hj=>Cell.inS_flat (flats_get h hj)
theorem flatsV_inS {S:Nat→Prop}:∀ {l:List V1},flatsV l=true→∀ (j:Nat) (x:V1),l[j]?=some x→x.inS S
 | [],_,j,x,hj=>by simp at hj
 | y::r,h,0,x,hj=>by obtain ⟨h1,_⟩:=bAnd_eq h; simp at hj; subst hj; exact flatV_inS h1 S
 | y::r,h,j+1,x,hj=>by obtain ⟨_,h2⟩:=bAnd_eq h; simp at hj; exact flatsV_inS h2 j x hj
theorem FinQ.pure {P:Program} {rv:List ResultVar} {kn:Nat} {st:St} {rs rs':List V1} (h:resV P rv st=some rs') (e:rs'=rs) (hf:flatsV rs'=true):FinQ P rv kn (fun r h=>r=rs∧h=[]) st:=by
 subst e
 refine ⟨rs',[],[],⟨rfl,rfl⟩,?_,by intro id b h;simp [look] at h,by intro i j bi bj h;simp [look] at h,flatsV_inS hf,by intro id b h;simp [look] at h⟩
 rw [flatsV_ren hf]
 unfold resV at h
 cases hh:resM P rv st.get with
 | none=>simp [hh] at h
 | some p=>obtain ⟨l,r⟩:=p; simp only [hh,Option.some.injEq] at h; subst h; exact ⟨r,hh⟩
def argT:Nat→List V1→List (Nat×TV)
 | _,[]=>[]
 | i,x::r=>(i,.v x)::argT (i+1) r
def hinB:Nat→List Blk→List (Nat×Blk)
 | _,[]=>[]
 | i,b::r=>(i,b)::hinB (i+1) r
def st0 (args:List V1) (hin:List Blk):St:=⟨argT 0 args,hinB 0 hin,len hin⟩
theorem argT_look:∀ (l:List V1) (k t:Nat),look (argT k l) t=if k≤t then (l[t-k]?).map TV.v else none
 | [],k,t=>by simp [argT,look]
 | x::r,k,t=>by
  simp only [argT,look]
  cases hb:Nat.beq k t with
  | true=>have:=(beq_eq _ _).1 hb; subst this; simp
  | false =>
   have hne:=(beq_ne _ _).1 hb
   simp only [argT_look r (k+1) t]
   by_cases h:k≤t
   ·rw [if_pos h,if_pos oM]
    have:t-k=(t-(k+1))+1:=by omega
    rw [this];simp
   ·rw [if_neg h,if_neg oM]
theorem hinB_look:∀ (l:List Blk) (k t:Nat),look (hinB k l) t=if k≤t then l[t-k]? else none
 | [],k,t=>by simp [hinB,look]
 | x::r,k,t=>by
  simp only [hinB,look]
  cases hb:Nat.beq k t with
  | true=>have:=(beq_eq _ _).1 hb; subst this; simp
  | false =>
   have hne:=(beq_ne _ _).1 hb
   simp only [hinB_look r (k+1) t]
   by_cases h:k≤t
   ·rw [if_pos h,if_pos oM]
    have:t-k=(t-(k+1))+1:=by omega
    rw [this];simp
   ·rw [if_neg h,if_neg oM]
theorem ResDen.of {D:Dat} {ρ:Rho} {rs:List V1} {vs:Array Value} (h:DenL D ρ rs vs):ResDen D ρ rs (if h:vs.size=1 then vs[0] else .tuple vs):=by
 unfold ResDen
 split
 ·rename_i x
  have hs:vs.size=1:=h.1
  rw [dif_pos hs]
  obtain ⟨u,hu,hd⟩:=h.2 0 x rfl
  have:vs[0]'(by omega)=u:=by
   rw [Array.getElem?_eq_getElem oM] at hu
   simpa using hu
  rw [this];exact hd
 ·rename_i rs' hne
  have hs:vs.size≠1:=by
   rw [h.1]
   intro e
   match rs,hne,e with
   | [x],hne,_=>exact hne x rfl
  rw [dif_neg hs]
  exact ⟨vs,rfl,h⟩
theorem Fn.of {P:Program} {G:Nat→Option (List Cell)} {f:FuncId} {fn:Func} {c:Code} {hin:List Blk} {args:List V1} {R:List V1→List (Nat×Blk)→Prop}
  (hf:P.funcs[f]?=some fn) (hb:fn.body=some c) (hN:args.length≤fn.ntmps) (ha:∀ (j:Nat) (x:V1),args[j]?=some x→x.inS (fun i=>i<hin.length)) (hh:∀ (i:Nat) (b:Blk),hin[i]?=some b→b.inS (fun i=>i<hin.length))
  (h:Wp P G fn.ntmps hin.length [.code c] (FinQ P fn.results.toList hin.length R) (st0 args hin)):Fn P G f hin args R:=by
 intro D ρ w vs h1 h2 hgw h3 h4 h5
 refine calls_of_wp hf hb ?_
 let Γ:Ctx:=⟨P,G,D,ρ,hin.length,w,fn.ntmps⟩
 have hsat:Sat0 Γ (st0 args hin) { tmps:=vs++Array.replicate (fn.ntmps-vs.size) undef,defers:=[] } w:=by
  have lookH:∀ id b,look (st0 args hin).hp id=some b→hin[id]?=some b:=by
   intro id b hb
   have hb:look (hinB 0 hin) id=some b:=hb
   rw [hinB_look] at hb
   simpa using hb
  have lookT:∀ t v,look (st0 args hin).tm t=some v→∃ x,args[t]?=some x∧v = .v x:=by
   intro t v hv
   have hv:look (argT 0 args) t=some v:=hv
   rw [argT_look] at hv
   simp at hv
   obtain ⟨x,h1,h2⟩:=hv
   exact ⟨x,h1,h2.symm⟩
  have nxe:(st0 args hin).nx=hin.length:=len_eq _
  have idlt:∀ id b,hin[id]?=some b→id<hin.length:=by
   intro id b hb
   rcases Nat.lt_or_ge id hin.length with h | h
   ·exact h
   ·simp [List.getElem?_eq_none h] at hb
  have glk:∀ g cs,G g=some cs→cs≠[]→∀ i,i<hin.length→(ρ i).2≠0→(ρ i).1≠g:=by
   intro g cs hg hne i hi li e
   obtain ⟨x,r,rfl⟩:=List.exists_cons_of_ne_nil hne
   obtain ⟨u,hu,_⟩:=h2 g _ hg 0 x rfl
   have:=(h4 i hin[i] (by simp [hi])).2 li 0
   rw [e,hu] at this
   cases this
  refine ⟨D,ρ,{ defers:=rfl,size := ?_,tm := ?_,hp:=fun id b hb=>(h4 id b (lookH id b hb)).1,inj := ?_,agree:=h3,sep:=fun id b hb=>(h4 id b (lookH id b hb)).2,le:=DatLe.refl _,glob:=h2,gl:=⟨hgw,glk⟩,own := ?_,kin:=fun i _=>rfl,newD:=fun b o v h => .inl h,frame:=fun b _ _=>rfl,os:=rfl,tape:=rfl,output:=rfl,grow:=Nat.le_refl _,drawn:=fun _=>Nat.le_refl _,idT := ?_,idH := ?_,kinS:=fun i hi=>by rw [nxe];exact hi }⟩
  ·show (vs++Array.replicate (fn.ntmps-vs.size) undef).size=fn.ntmps
   have:=h1.1
   simp only [Array.size_append,Array.size_replicate]
   omega
  ·intro t v hv
   obtain ⟨x,hx,rfl⟩:=lookT t v hv
   obtain ⟨u,hu,hd⟩:=h1.2 t x hx
   refine ⟨u,?_,hd⟩
   rw [Array.getElem?_append]
   have:t<vs.size:=by
    rcases Nat.lt_or_ge t vs.size with h | h
    ·exact h
    ·simp [Array.getElem?_eq_none h] at hu
   rw [if_pos this];exact hu
  ·intro i j bi bj hi hj li lj e
   exact h5 i j bi bj (lookH i bi hi) (lookH j bj hj) li lj e
  ·intro id b hb lv
   exact .inr ⟨id,idlt id b (lookH id b hb),lv,rfl⟩
  ·intro t v hv
   obtain ⟨x,hx,rfl⟩:=lookT t v hv
   rw [nxe]
   exact ha t x hx
  ·intro id b hb
   have:=lookH id b hb
   rw [nxe]
   exact ⟨idlt id b this,hh id b this⟩
 have hw:=h Γ rfl rfl rfl rfl _ w hsat
 refine Go.wp_mono hw ?_
 have fin:∀ (st':St) (a':Act) (w':World),FinQ P fn.results.toList hin.length R st'→Sat0 Γ st' a' w' →
   a'.defers=[]∧∃ v,(results fn a'.tmps).run P w' = .ok v w'∧∃ rs hout D' ρ' v',Ending.returned v = .returned v'∧R rs hout∧ResDen D' ρ' rs v'∧(∀ (j:Nat) (x:V1),rs[j]?=some x→x.inS (fun i=>∃ c,look hout i=some c))∧After G hin.length D ρ w D' ρ' w' hout:=by
  rintro st' a' w' ⟨rs,hout,m,hR,hres,hblk,hinj,hrs,hho⟩ ⟨D',ρ',hs⟩
  refine ⟨hs.defers,?_⟩
  obtain ⟨i1,vs',r1,r2,r3⟩:=res_den hs hres
  have hden:DenL D' ρ' (rs.map (V1.ren (sigF hin.length m))) vs'.toArray:=⟨by simp [r2],fun j x hj=>by simpa using r3 j x hj⟩
  have hden:=DenL.map_ren.1 hden
  have sk:∀ i,i<hin.length→sigF hin.length m i=i:=by
   intro i hi
   unfold sigF
   rw [show Nat.blt i hin.length=true from Nat.ble_eq_true_of_le hi]
  refine ⟨_,?_,rs,hout,D',fun i=>ρ' (sigF hin.length m i),_,rfl,hR,ResDen.of hden,hrs,?_⟩
  ·simp only [results,Sem.run_bind]
   rw [Array.mapM_eq_mapM_toList]
   have r1':(fn.results.toList.mapM (fun
    | ResultVar.tmp t=>pure (a'.tmps.getD t undef)
    | .cell ad t=>do loadVar t (← asAddr (a'.tmps.getD ad undef)):ResultVar→Sem Value)).run P w' = .ok vs' w':=r1
   simp only [Sem.run_map]
   erw [r1']
   rfl
  ·refine { hp:=fun id b hb=>BlkSat.ren.1 (hs.hp _ _ (hblk id b hb)),inj:=fun i j bi bj hi hj li lj e=>hinj i j bi bj hi hj (hs.inj _ _ _ _ (hblk i bi hi) (hblk j bj hj) li lj e),sep:=fun id b hb lv o=>hs.sep _ _ (hblk id b hb) lv o,agree:=hs.agree,le:=hs.le,kin := ?_,own := ?_,newD:=hs.newD,frame:=hs.frame,os:=hs.os,tape:=hs.tape,output:=hs.output,grow:=hs.grow,drawn:=hs.drawn,ids:=hho }
   ·intro i hi
    show ρ' (sigF hin.length m i)=ρ i
    rw [sk i hi]
    exact hs.kin i hi
   ·intro id b hb lv
    exact hs.own _ _ (hblk id b hb) lv
 rintro e a' w' ⟨st',q,s⟩
 cases e with
 | normal=>exact fin st' a' w' q s
 | ret=>exact fin st' a' w' q s
 | exit id=>exact q.elim
 | goto l=>exact q.elim
 | panic ch=>exact q.elim
 | outgrown=>exact q.elim
end Go.Sv
end
section
namespace Go.Sv
open M
theorem Sat.drew {Γ:Ctx} {S W:Nat→Prop} {D:Dat} {ρ:Rho} {st:St} {a:Act} {w:World} (h:Sat Γ S W D ρ st a w):Sat Γ S W D ρ st a { w with drawn:=w.drawn+1 } :=
 { h with
  hp:=fun id b hb=>(h.hp id b hb).world rfl
  agree:=fun b o v hv=>h.agree b o v hv
  frame:=fun b hb hk=>h.frame b hb hk
  drawn:=fun n=>Nat.le_trans (h.drawn n) (Nat.le_succ _) }
def regDraw (o:Option Out) (ops:Array Oper):Bool→Bool
 | false=>true
 | true=>match o with
  | some o=>drawOk ops.toList o.lg
  | none=>false
section
variable {P:Program} {G:Nat→Option (List Cell)} {N kn:Nat} {k:List KI} {Q:St→Prop} {st st':St}
theorem Wp.reg' {id:Nat} {ops:Array Oper} {draw:Bool} (hm:draw=true→P.follows .mixedOrders=true) (an:Ann P G) {out:Out} (hr:regRun P G N ops an st=some out) (hd:regDraw (some out) ops draw=true) (he:out.el=out.er) (hb:out.bl=out.br)
  (hv:∀ p∈out.vc,p) (hk:Wp P G N kn k Q (out.st.done ops.toList st.nx (len ops.toList))):Wp P G N kn (.code (.region id ops draw)::k) Q st:=by
 intro Γ h1 h2 h3 h4 a w hs
 subst h1 h2 h3
 unfold regRun at hr
 cases hoo:opsOk Γ.N ops.toList with
 | false=>simp [hoo] at hr
 | true =>
  simp only [hoo] at hr
  cases draw with
  | false =>
   refine wp_region ?_
   rw [List.range_eq_range',← Array.length_toList]
   refine run_text (Γ:=Γ) (E:=envOf Γ.P Γ.N ops.toList an) rfl rfl (cs:=an.cs) rfl hoo ops.toList 0 st a w out rfl hr hv he hb ?_ ?_
   ·obtain ⟨D,ρ,hs⟩:=hs
    refine ⟨D,ρ,hs.mono (fun id h => ?_) (fun t h=>h.elim)⟩
    unfold sSet;omega
   ·intro a' w' h
    refine ⟨_,hk Γ rfl rfl rfl h4,SatE.done (fun id h => ?_) h⟩
    unfold sSet at h;rw [len_eq];omega
  | true =>
   refine wp_region_any (hm rfl) ?_
   refine run_draw (Γ:=Γ) (E:=envOf Γ.P Γ.N ops.toList an) rfl rfl (cs:=an.cs) rfl hoo hr hd hv he hb ?_ ?_
   ·obtain ⟨D,ρ,hs⟩:=hs
    refine ⟨D,ρ,(hs.mono (fun id h => ?_) (fun t h=>h)).drew⟩
    unfold sSet;omega
   ·intro a' w' h
    refine ⟨_,hk Γ rfl rfl rfl h4,SatE.done (fun id h => ?_) h⟩
    unfold sSet at h;rw [len_eq,Array.length_toList];omega
structure Adv where
 k:List KI
 st:St
 vc:List Prop
 el:List (List (List V1))
 er:List (List (List V1))
 bl:List (List (List Blk))
 br:List (List (List Blk))
def Adv.here (k:List KI) (st:St):Adv:=⟨k,st,[],[],[],[],[]⟩
def adv (P:Program) (G:Nat→Option (List Cell)) (N:Nat) (mx:Bool) (ans:List (Nat×Ann P G)):Nat→List Bool→List KI→St→Option Adv
 | 0,_,k,st=>some (.here k st)
 | n+1,dec,k,st=>match k with
  | .code (.seq a b)::k=>adv P G N mx ans n dec (.code a :: .code b::k) st
  | .code .skip::k=>adv P G N mx ans n dec k st
  | .code (.scope c)::k=>adv P G N mx ans n dec (.code c::k) st
  | .code (.label _)::k=>adv P G N mx ans n dec k st
  | .code (.block id c)::k=>adv P G N mx ans n dec (.code c :: .blk id::k) st
  | .blk _::k=>adv P G N mx ans n dec k st
  | .code (.exit id)::k=>match unw id k with
   | some k'=>adv P G N mx ans n dec k' st
   | none=>none
  | .code (.cond c x y)::k=>match dec with
   | []=>some (.here (.code (.cond c x y)::k) st)
   | d::dec=>match condB st c with
    | none=>none
    | some b=>match adv P G N mx ans n dec (.code (match d with | true=>x | false=>y)::k) st with
     | none=>none
     | some A=>some { A with vc:=(b=d)::A.vc }
  | .code (.region id ops draw)::k =>
   match bOr (bNot draw) mx with
   | false=>none
   | true=>match regRun P G N ops (match look ans id with | some an=>an | none=>{}) st with
    | none=>none
    | some out=>match regDraw (some out) ops draw with
     | false=>none
     | true=>match adv P G N mx ans n dec k (out.st.done ops.toList st.nx (len ops.toList)) with
      | none=>none
      | some A=>some ⟨A.k,A.st,appL out.vc A.vc,out.el::A.el,out.er::A.er,out.bl::A.bl,out.br::A.br⟩
  | k=>some (.here k st)
where
 bNot:Bool→Bool
  | true=>false
  | false=>true
 bOr:Bool→Bool→Bool
  | true,_=>true
  | false,b=>b
theorem adv_ok {mx:Bool} (hm:mx=true→P.follows .mixedOrders=true) {ans:List (Nat×Ann P G)}:∀ (n:Nat) (dec:List Bool) (k:List KI) (st:St) (A:Adv),adv P G N mx ans n dec k st=some A →
  (∀ p∈A.vc,p)→A.el=A.er→A.bl=A.br→Wp P G N kn A.k Q A.st→Wp P G N kn k Q st:=by
 intro n
 induction n with
 | zero=>intro dec k st A h _ _ _ hw; simp only [adv,Option.some.injEq] at h; subst h; exact hw
 | succ n ih =>
  intro dec k st A h hv he hb hw
  unfold adv at h
  split at h
  ·exact Wp.seq (ih _ _ _ _ h hv he hb hw)
  ·exact Wp.skip (ih _ _ _ _ h hv he hb hw)
  ·exact Wp.scope (ih _ _ _ _ h hv he hb hw)
  ·exact Wp.label (ih _ _ _ _ h hv he hb hw)
  ·exact Wp.block (ih _ _ _ _ h hv he hb hw)
  ·exact Wp.blk (ih _ _ _ _ h hv he hb hw)
  ·split at h
   ·rename_i hu;exact Wp.exit hu (ih _ _ _ _ h hv he hb hw)
   ·cases h
  ·split at h
   ·simp only [Option.some.injEq] at h;subst h;exact hw
   ·split at h
    ·cases h
    ·rename_i b hc
     split at h
     ·cases h
     ·rename_i A' h'
      simp only [Option.some.injEq] at h
      subst h
      have hd:=hv _ (List.mem_cons_self ..)
      have:=ih _ _ _ _ h' (fun p hp=>hv p (by simp [hp])) he hb hw
      subst hd
      cases b with
      | true=>exact Wp.cond hc (fun _=>this) (fun e=>by cases e)
      | false=>exact Wp.cond hc (fun e=>by cases e) (fun _=>this)
  ·split at h
   ·cases h
   ·rename_i hbo
    split at h
    ·cases h
    ·rename_i out hr
     split at h
     ·cases h
     ·rename_i hd
      split at h
      ·cases h
      ·rename_i A' h'
       simp only [Option.some.injEq] at h
       subst h
       simp only [List.cons.injEq] at he hb
       refine Wp.reg' (fun e=>hm ?_) _ hr hd he.1 hb.1 (fun p hp=>hv p (appL_mem.2 (.inl hp))) (ih _ _ _ _ h' (fun p hp=>hv p (appL_mem.2 (.inr hp))) he.2 hb.2 hw)
       subst e
       simpa [adv.bNot,adv.bOr] using hbo
  ·simp only [Option.some.injEq] at h;subst h;exact hw
def aOk (o:Option Adv):Bool:=match o with
 | some _=>true
 | none=>false
def aK (o:Option Adv):List KI:=match o with
 | some A=>A.k
 | none=>[]
def aSt (o:Option Adv):St:=match o with
 | some A=>A.st
 | none=>⟨[],[],0⟩
def aVc (o:Option Adv):List Prop:=match o with
 | some A=>A.vc
 | none=>[]
def aE (o:Option Adv):List (List (List V1))×List (List (List Blk)):=match o with
 | some A=>(A.el,A.bl)
 | none=>([],[])
def aF (o:Option Adv):List (List (List V1))×List (List (List Blk)):=match o with
 | some A=>(A.er,A.br)
 | none=>([],[])
theorem Wp.go {mx:Bool} (hm:mx=true→P.follows .mixedOrders=true) (ans:List (Nat×Ann P G)) (n:Nat) (dec:List Bool) (vc:List Prop) (h:aOk (adv P G N mx ans n dec k st)=true) (he:aE (adv P G N mx ans n dec k st)=aF (adv P G N mx ans n dec k st))
  (hvc:aVc (adv P G N mx ans n dec k st)=vc) (hv:AllP vc) (hw:Wp P G N kn (aK (adv P G N mx ans n dec k st)) Q (aSt (adv P G N mx ans n dec k st))):Wp P G N kn k Q st:=by
 cases hh:adv P G N mx ans n dec k st with
 | none=>rw [hh] at h; simp [aOk] at h
 | some A =>
  rw [hh] at he hvc hw
  simp only [aE,aF,Prod.mk.injEq,aVc,aK,aSt] at he hvc hw
  subst hvc
  exact adv_ok hm n dec k st A hh (AllP.mem hv) he.1 he.2 hw
def isRet:List KI→Bool
 | .code .ret::_=>true
 | []=>true
 | _=>false
theorem Wp.ret' (h:isRet k=true) (hq:Q st):Wp P G N kn k Q st:=by
 match k,h with
 | [],_=>exact Wp.nil hq
 | .code .ret::k,_=>exact Wp.ret hq
def cOp:List KI→Operand
 | .code (.cond c _ _)::_=>c
 | _ => .func 0
def cX:List KI→List KI
 | .code (.cond _ x _)::k => .code x::k
 | _=>[]
def cY:List KI→List KI
 | .code (.cond _ _ y)::k => .code y::k
 | _=>[]
def isCond:List KI→Bool
 | .code (.cond _ _ _)::_=>true
 | _=>false
theorem Wp.cond' (h:isCond k=true) (b:Bool) (hc:condB st (cOp k)=some b) (ht:b=true→Wp P G N kn (cX k) Q st) (hf:b=false→Wp P G N kn (cY k) Q st):Wp P G N kn k Q st:=by
 match k,h with
 | .code (.cond c x y)::k,_=>exact Wp.cond hc ht hf
def isLoop:List KI→Bool
 | .code (.loop _)::_=>true
 | _=>false
def loopB:List KI→Code
 | .code (.loop c)::_=>c
 | _ => .skip
def loopR:List KI→List KI
 | .code (.loop _)::k=>k
 | _=>[]
def LoopR {X:Type} (kn:Nat) (inv:X→St) (facts:X→Prop) (μ:X→Nat) (x:X):St→Prop:=fun s=>∃ x',facts x'∧μ x'<μ x∧Ent kn s (inv x')
theorem Wp.loop' {X:Type} (h:isLoop k=true) (inv:X→St) (facts:X→Prop) (μ:X→Nat) (x0:X) (h0:Ent kn st (inv x0)) (f0:facts x0)
  (round:∀ x,facts x→Wp P G N kn (.code (loopB k) :: .lp (LoopR kn inv facts μ x)::loopR k) Q (inv x)):Wp P G N kn k Q st:=by
 match k,h with
 | .code (.loop c)::k,_=>exact Wp.loop inv facts μ x0 h0 f0 round
def lpR:List KI→St→Prop
 | .lp R::_=>R
 | _=>fun _=>False
def isCode:List KI→Bool
 | .code _::_=>true
 | _=>false
theorem Wp.ent' (h:isCode k=true) (he:Ent kn st st') (hw:Wp P G N kn k Q st'):Wp P G N kn k Q st:=by
 match k,h with
 | .code c::k,_=>exact Wp.ent he hw
def codeOf (fn:Func):Code:=match fn.body with
 | some c=>c
 | none => .skip
theorem Pur.of {P:Program} {G:Nat→Option (List Cell)} {f:FuncId} {fn:Func} {args rs:List V1} (hf:P.funcs[f]?=some fn) (hb:fn.body=some (codeOf fn)) (hN:Nat.ble (len args) fn.ntmps=true) (ha:idLtVs 0 args=true)
  (h:Wp P G fn.ntmps 0 [.code (codeOf fn)] (FinQ P fn.results.toList 0 (fun r h=>r=rs∧h=[])) (st0 args [])):Pur P G f args rs:=by
 refine Fn.of (hin:=[]) hf hb ?_ (fun j x hj=>idLtVs_inS ha j x hj) (by intro i b h;simp at h) h
 have:=Nat.le_of_ble_eq_true hN
 rw [len_eq] at this
 exact this
end
attribute [irreducible] adv aK aSt aOk aE aF aVc cOp cX cY isCond isLoop loopB loopR lpR isRet isCode LoopR codeOf
end Go.Sv
end
section
namespace Go.Sv
open M
section
variable {Γ:Ctx} {S W:Nat→Prop} {D:Dat} {ρ:Rho} {st st':St} {a:Act} {w:World} {kn:Nat}
theorem Ent.trans {s1 s2 s3:St} (h:Ent kn s1 s2) (k:Ent kn s2 s3):Ent kn s1 s3:=fun Γ a w hk hs=>k Γ a w hk (h Γ a w hk hs)
theorem sl_eqv {D:Dat} {ρ:Rho} {sz m m':Nat} {f f':Nat→Nat→Cell} (hm:m=m') (hf:∀ i,i<m→∀ j,j<sz→f i j=f' i j) {u:Value} (h:Den D ρ (.sl sz m f) u):Den D ρ (.sl sz m' f') u:=by
 subst hm
 simp only [Den] at h ⊢
 obtain ⟨ad,cap,e,h1,h2,h3⟩:=h
 refine ⟨ad,cap,e,h1,h2,h3.imp id ?_⟩
 rintro ⟨b,o,e2,h3⟩
 exact ⟨b,o,e2,fun i hi j hj=>let ⟨u,hu,hd⟩:=h3 i hi j hj;⟨u,hu,(hf i hi j hj)▸hd⟩⟩
theorem EqvD.sl {sz m m':Nat} {f f':Nat→Nat→Cell} (hm:m=m') (hf:∀ i,i<m→∀ j,j<sz→f i j=f' i j):EqvD (.c (.sl sz m f)) (.c (.sl sz m' f')) :=
 fun D ρ u h=>sl_eqv (ρ:=ρ) hm hf h
theorem Sat.turnC (h:Sat Γ S W D ρ st a w) {id o:Nat} {e:TypeId} {cs:List Cell} (hb:look st.hp id=some (.box e cs)) {x:Cell} (hx:∀ y u,cs[o]?=some y→Den D ρ y u→Den D ρ x u) (hin:x.inS S) :
  Sat Γ S W D ρ (st.set (.bk id) (.bk (.box e (setNth cs o x)))) a w:=by
 have hl:∀ k,look (st.set (.bk id) (.bk (.box e (setNth cs o x)))).hp k=if id=k then some (.box e (setNth cs o x)) else look st.hp k:=fun k=>look_put _ _ _ _
 have key:∀ i c,look (st.set (.bk id) (.bk (.box e (setNth cs o x)))).hp i=some c→Live ρ i c→∃ c0,look st.hp i=some c0∧Live ρ i c0:=by
  intro i c hc lc
  rw [hl] at hc
  by_cases e':id=i
  ·exact ⟨.box e cs,by rw [← e'];exact hb,lc⟩
  ·rw [if_neg e'] at hc;exact ⟨c,hc,lc⟩
 refine { h with tm:=h.tm,hp := ?_,inj := ?_,sep := ?_,own := ?_,idT:=h.idT,idH := ?_ }
 ·intro k c hc
  rw [hl] at hc
  by_cases e':id=k
  ·subst e'
   rw [if_pos rfl] at hc
   simp only [Option.some.injEq] at hc
   subst hc
   obtain ⟨h0,vs,fz,q1,q2,q3,q4⟩:=h.hp id _ hb
   refine ⟨by rw [setNth_eq,List.length_set];exact h0,vs,fz,q1,by rw [setNth_eq,List.length_set];exact q2,q3,fun j y hj => ?_⟩
   rw [setNth_eq,List.getElem?_set] at hj
   by_cases ho:o=j
   ·subst ho
    rw [if_pos rfl] at hj
    split at hj
    ·simp only [Option.some.injEq] at hj
     subst hj
     rename_i hlt
     obtain ⟨u,hu,hd⟩:=q4 o _ (by simp [hlt]:cs[o]?=some cs[o])
     exact ⟨u,hu,hx _ _ (by simp [hlt]) hd⟩
    ·cases hj
   ·rw [if_neg ho] at hj
    exact q4 j y hj
  ·rw [if_neg e'] at hc;exact h.hp k c hc
 ·intro i j bi bj hi hj li lj hij
  obtain ⟨ci,hi,li⟩:=key i bi hi li
  obtain ⟨cj,hj,lj⟩:=key j bj hj lj
  exact h.inj i j ci cj hi hj li lj hij
 ·intro i c hc lc
  obtain ⟨c0,hc0,l0⟩:=key i c hc lc
  exact h.sep i c0 hc0 l0
 ·intro i c hc lc
  obtain ⟨c0,hc0,l0⟩:=key i c hc lc
  exact h.own i c0 hc0 l0
 ·intro i c hc
  rw [hl] at hc
  by_cases e':id=i
  ·subst e'
   rw [if_pos rfl] at hc
   simp only [Option.some.injEq] at hc
   subst hc
   obtain ⟨i1,i2⟩:=h.idH id _ hb
   refine ⟨i1,fun j y hj => ?_⟩
   rw [setNth_eq,List.getElem?_set] at hj
   split at hj
   ·split at hj
    ·simp only [Option.some.injEq] at hj;subst hj;exact hin
    ·cases hj
   ·exact i2 j y hj
  ·rw [if_neg e'] at hc;exact h.idH i c hc
theorem Ent.pubT {id t off m m' sz n:Nat} {e:TypeId} {f f':Nat→Nat→Cell} (h1:look st.hp id=some (.row e sz n f)) (h2:look st.tm t=some (.v (.c (.row sz id off m)))) (hle:off+m≤n)
  (hm:m=m') (hf:∀ i,i<m→∀ j,j<sz→f (off+i) j=f' i j)
  (he:(st.set (.bk id) .gone).set (.tm t) (.tv (.v (.c (.sl sz m' f'))))=st'):Ent kn st st':=by
 subst he
 intro Γ a w hk ⟨D,ρ,h⟩
 obtain ⟨u,hu,hd⟩:=h.tm t _ h2
 obtain ⟨D',hle',h3,hp⟩:=h.publish h1
 exact ⟨D',ρ,h3.turn (fun u' hu'=>by
  rw [hu] at hu'
  simp only [Option.some.injEq] at hu'
  subst hu'
  exact Den.flat (ρ:=rho0) rfl (sl_eqv hm hf (hp u off m hle hd))) trivial ⟨u,hu⟩⟩
theorem Ent.pubB {id t n:Nat} {e:TypeId} {cs:List Cell} {f:Nat→Cell} (h1:look st.hp id=some (.box e cs)) (hfl:flats cs=true) (h2:look st.tm t=some (.v (.c (.ptr id 0)))) (hn:n=cs.length) (hf:∀ j,j<n→nthD cs j=f j)
  (he:(st.set (.bk id) .gone).set (.tm t) (.tv (.v (.c (.dp n f))))=st'):Ent kn st st':=by
 subst he
 intro Γ a w hk ⟨D,ρ,h⟩
 obtain ⟨u,hu,hd⟩:=h.tm t _ h2
 obtain ⟨D',hle',h3,hp⟩:=h.publishB hfl h1
 exact ⟨D',ρ,h3.turn (fun u' hu'=>by
  rw [hu] at hu'
  simp only [Option.some.injEq] at hu'
  subst hu'
  obtain ⟨b,o,e1,h4⟩:=hp u 0 n oM hd
  exact (Den.flat (ρ:=rho0) rfl (⟨b,o,e1,fun j hj=>by
   obtain ⟨y,hy,hdn⟩:=h4 j hj
   have hdn:Den D' rho0 (nthD cs (0+j)) y:=hdn
   rw [Nat.zero_add,hf j hj] at hdn
   exact ⟨y,by rw [← hy],hdn⟩⟩:Den D' rho0 (.dp n f) u):Den D' ρ (.dp n f) u)) trivial ⟨u,hu⟩⟩
theorem Ent.pubC {id b o off m m' sz n:Nat} {e e':TypeId} {cs:List Cell} {f f':Nat→Nat→Cell} (h1:look st.hp id=some (.row e sz n f)) (h2:look st.hp b=some (.box e' cs)) (h3:cs[o]?=some (.row sz id off m)) (hle:off+m≤n)
  (hm:m=m') (hf:∀ i,i<m→∀ j,j<sz→f (off+i) j=f' i j)
  (he:(st.set (.bk id) .gone).set (.bk b) (.bk (.box e' (setNth cs o (.sl sz m' f'))))=st'):Ent kn st st':=by
 subst he
 intro Γ a w hk ⟨D,ρ,h⟩
 obtain ⟨D',hle',hs,hp⟩:=h.publish h1
 have hne:id≠b:=by rintro rfl;rw [h1] at h2;cases h2
 have hb:look (st.set (.bk id) .gone).hp b=some (.box e' cs):=by
  show look (del st.hp id) b=_
  rw [look_del,if_neg hne];exact h2
 refine ⟨D',ρ,hs.turnC hb (fun y u hy hd => ?_) trivial⟩
 rw [h3] at hy
 simp only [Option.some.injEq] at hy
 subst hy
 have hd0:Den D ρ (.row sz id off m) u:=by simp only [Den] at hd ⊢;exact hd
 exact Den.flat (ρ:=rho0) rfl (sl_eqv hm hf (hp u off m hle hd0))
theorem Ent.empT {t sz:Nat} {e:TypeId} {f:Nat→Nat→Cell} (hsz:0<sz) (h2:look st.tm t=some (.v (.c .nilsl)))
  (he:(({ st with nx:=st.nx+16 }:St).set (.bk st.nx) (.bk (.row e sz 0 f))).set (.tm t) (.tv (.v (.c (.row sz st.nx 0 0))))=st'):Ent kn st st':=by
 subst he
 intro Γ a w hk ⟨D,ρ,h⟩
 obtain ⟨u,hu,hd⟩:=h.tm t _ h2
 have hd:u = .slice none 0 0:=hd
 have hfr:Fresh (fun id=>id<st.nx) st.nx:=fun id h1 h2 h3=>by omega
 have hrn:rhoSet ρ st.nx (0,0) st.nx=(0,0):=by simp [rhoSet]
 have hal:=h.alias (nid:=st.nx) (p:=(0,0)) (b := .row e sz 0 f) hfr (.inl ⟨by rw [hrn],rfl,hsz⟩) trivial (fun hh=>(hh rfl).elim)
 have hal:=hal.turn (t:=t) (v' := .v (.c (.row sz st.nx 0 0))) (fun u' hu'=>by
  rw [hu] at hu'
  simp only [Option.some.injEq] at hu'
  subst hu' hd
  exact .inr ⟨by rw [hrn],rfl,rfl,none,.inl rfl,rfl⟩) (.inr ⟨Nat.le_refl _,by omega⟩) ⟨u,hu⟩
 have hal:=hal.mono (S':=fun i=>i<st.nx+16) (W':=fun _=>False) (fun i hi=>by show i<st.nx+16;rcases hi with hi | hi<;>omega) (fun _ h=>h)
 refine ⟨D,rhoSet ρ st.nx (0,0),Sat.congr (fun k => ?_) (fun k => ?_) hal⟩
 ·rfl
 ·rfl
end
end Go.Sv
end
section
namespace Go.Sv
open M
section
variable {P:Program} {G:Nat→Option (List Cell)} {N kn:Nat} {k:List KI} {Q:St→Prop} {st st':St}
theorem post_lp {Γ:Ctx} {R R':St→Prop} (h:∀ s,R s→R' s):∀ {l k:List KI} {e:Exit} {s:St},post Γ (l ++ .lp R::k) Q e s→post Γ (l ++ .lp R'::k) Q e s
 | [],k,e,s,hp=>by
  cases e with
  | normal=>exact h s hp
  | exit id=>exact hp
  | goto l=>exact hp
  | ret=>exact hp
  | panic c=>exact hp
  | outgrown=>exact hp
 | .code c::l,k,e,s,hp=>by
  cases e with
  | normal=>exact Tri.mono (show Tri Γ c s (post Γ (l ++ .lp R::k) Q) from hp) fun e s q=>post_lp h (l:=l) q
  | exit id=>exact post_lp (l:=l) h (e := .exit id) hp
  | goto i=>exact post_lp (l:=l) h (e := .goto i) hp
  | ret=>exact post_lp (l:=l) h (e := .ret) hp
  | panic c=>exact post_lp (l:=l) h (e := .panic c) hp
  | outgrown=>exact post_lp (l:=l) h (e := .outgrown) hp
 | .blk i::l,k,e,s,hp=>by
  cases e with
  | exit id =>
   have hp:(if id=i then post Γ (l ++ .lp R::k) Q .normal s else post Γ (l ++ .lp R::k) Q (.exit id) s):=hp
   show (if id=i then post Γ (l ++ .lp R'::k) Q .normal s else post Γ (l ++ .lp R'::k) Q (.exit id) s)
   split at hp
   ·rename_i e1;rw [if_pos e1];exact post_lp h (l:=l) hp
   ·rename_i e1;rw [if_neg e1];exact post_lp h (l:=l) hp
  | normal=>exact post_lp (l:=l) h (e := .normal) hp
  | goto i=>exact post_lp (l:=l) h (e := .goto i) hp
  | ret=>exact post_lp (l:=l) h (e := .ret) hp
  | panic c=>exact post_lp (l:=l) h (e := .panic c) hp
  | outgrown=>exact post_lp (l:=l) h (e := .outgrown) hp
 | .lp S::l,k,e,s,hp=>by
  cases e with
  | normal=>exact hp
  | exit id=>exact post_lp (l:=l) h (e := .exit id) hp
  | goto i=>exact post_lp (l:=l) h (e := .goto i) hp
  | ret=>exact post_lp (l:=l) h (e := .ret) hp
  | panic c=>exact post_lp (l:=l) h (e := .panic c) hp
  | outgrown=>exact post_lp (l:=l) h (e := .outgrown) hp
def UnR (P:Program) (G:Nat→Option (List Cell)) (N kn:Nat) (c:Code) (k:List KI) (Q:St→Prop):Nat→St→Prop
 | 0,_=>False
 | n+1,s=>Wp P G N kn (.code c :: .lp (UnR P G N kn c k Q n)::k) Q s
theorem Wp.unr (h:isLoop k=true) (n:Nat) (hw:UnR P G N kn (loopB k) (loopR k) Q n st):Wp P G N kn k Q st:=by
 refine Wp.loop' h (X:=St×Nat) (fun x=>x.1) (fun x=>UnR P G N kn (loopB k) (loopR k) Q x.2 x.1) (fun x=>x.2) (st,n) (fun _ _ _ _ h=>h) hw ?_
 rintro ⟨s,m⟩ hm
 cases m with
 | zero=>exact hm.elim
 | succ m =>
  intro Γ h1 h2 h3 h4
  have:=hm Γ h1 h2 h3 h4
  unfold LoopR
  exact post_lp (Q:=Q) (R:=UnR P G N kn (loopB k) (loopR k) Q m) (fun s q=>⟨(s,m),q,Nat.lt_succ_self m,fun _ _ _ _ h=>h⟩) (l:=[.code (loopB k)]) this
theorem Wp.unrK (h:isLoop k=true) (n:Nat) (hw:∀ L:Nat→St→Prop,(∀ m st,Wp P G N kn (.code (loopB k) :: .lp (L m)::loopR k) Q st→L (m+1) st)→Wp P G N kn (.code (loopB k) :: .lp (L n)::loopR k) Q st):Wp P G N kn k Q st :=
 Wp.unr h (n+1) (hw (UnR P G N kn (loopB k) (loopR k) Q) fun _ _ h=>h)
end
end Go.Sv
end
section
open Go Go.RowKit
namespace Go.Sv
structure BelowD (G:Nat→Option (List Cell)) (B:Nat) (w w':World):Prop extends Below B w w' where
 drawn:NoBack G→w.drawn≤w'.drawn
theorem BelowD.refl {G:Nat→Option (List Cell)} (B:Nat) (w:World):BelowD G B w w:=⟨Below.refl B w,fun _=>Nat.le_refl _⟩
class Back (G:Nat→Option (List Cell)):Prop where
 no:¬ NoBack G
theorem BelowD.of {G:Nat→Option (List Cell)} [hG:Back G] {B:Nat} {w w':World} (h:Below B w w'):BelowD G B w w':=⟨h,fun n=>absurd n hG.no⟩
theorem Pur.of_below {P:Program} {G:Nat→Option (List Cell)} {f:FuncId} {args rs:List V1} (hfl:flatsV rs=true)
  (h:∀ (D:Dat) (ρ:Rho) (w:World) (vs:Array Value),DenL D ρ args vs→GlobOk G D→GlobW G w→Agree D w →
   Calls P f vs w fun e w'=>∃ v,e = .returned v∧ResDen D ρ rs v∧BelowD G w.heap.size w w'):Pur P G f args rs:=by
 intro D ρ w vs h1 h2 hgw h3 _ _
 refine (h D ρ w vs h1 h2 hgw h3).mono ?_
 rintro e w' ⟨v,rfl,hr,hb⟩
 refine ⟨rs,[],D,ρ,v,rfl,⟨rfl,rfl⟩,hr,fun j x hj=>flatsV_inS hfl j x hj,?_⟩
 have ag:Agree D w':=by
  intro b o v hv
  have:=h3 b o v hv
  rw [cell_block (hb.block b (heap_of_cell this))]
  exact this
 exact {
  hp:=fun id b hb=>by simp [look] at hb
  inj:=fun i j bi bj hi=>by simp [look] at hi
  sep:=fun id b hb=>by simp [look] at hb
  agree:=ag
  le:=DatLe.refl D
  kin:=fun i hi=>rfl
  own:=fun id b hb=>by simp [look] at hb
  newD:=fun b o v hv => .inl hv
  frame:=fun b hlt _=>hb.block b hlt
  os:=hb.os
  tape:=hb.tape
  output:=hb.output
  grow:=hb.size
  drawn:=hb.drawn
  ids:=fun id b hb=>by simp [look] at hb }
theorem DenL.one {D:Dat} {ρ:Rho} {x:V1} {vs:Array Value} (h:DenL D ρ [x] vs):∃ u,vs=#[u]∧DenV D ρ x u:=by
 obtain ⟨u,hu,hd⟩:=h.2 0 x rfl
 refine ⟨u,?_,hd⟩
 have hs:=h.1
 apply Array.ext_getElem?
 intro k
 cases k with
 | zero=>simpa using hu
 | succ k=>rw [Array.getElem?_eq_none (by simp at hs ⊢; omega)]; simp
theorem DenL.two {D:Dat} {ρ:Rho} {x y:V1} {vs:Array Value} (h:DenL D ρ [x,y] vs):∃ u v,vs=#[u,v]∧DenV D ρ x u∧DenV D ρ y v:=by
 obtain ⟨u,hu,hd⟩:=h.2 0 x rfl
 obtain ⟨v,hv,hd'⟩:=h.2 1 y rfl
 refine ⟨u,v,?_,hd,hd'⟩
 have hs:=h.1
 apply Array.ext_getElem?
 intro k
 match k with
 | 0=>simpa using hu
 | 1=>simpa using hv
 | k+2=>rw [Array.getElem?_eq_none (by simp at hs ⊢; omega)]; simp
theorem Pur.of_alloc {P:Program} {G:Nat→Option (List Cell)} {f:FuncId} {args:List V1} {n:Nat} {F:Nat→Nat→Cell} (hn:n≤maxLen)
  (h:∀ (D:Dat) (ρ:Rho) (w:World) (vs:Array Value),DenL D ρ args vs→GlobOk G D→GlobW G w→Agree D w →
   Calls P f vs w fun e w'=>∃ (arr:Array Value) (t:TypeId),e = .returned (.slice (some ⟨w.heap.size,0,none⟩) n n)∧w'=w.alloc (.cells arr t)∧arr.size=n ∧
    ∀ i,i<n→∃ u,arr[i]?=some u∧∀ D,Den D rho0 (F i 0) u):Pur P G f args [.c (.sl 1 n F)]:=by
 intro D ρ w vs h1 h2 hgw h3 _ _
 refine (h D ρ w vs h1 h2 hgw h3).mono ?_
 rintro e w' ⟨arr,t,rfl,rfl,hs,hden⟩
 let D':Dat:=fun b o=>if b=w.heap.size then arr[o]? else D b o
 have hDn:∀ b o v,D b o=some v→b<w.heap.size:=fun b o v hv=>heap_of_cell (h3 b o v hv)
 have hle:DatLe D D':=by
  intro b o v hv
  have:=hDn b o v hv
  show (if b=w.heap.size then arr[o]? else D b o)=some v
  rw [if_neg oM];exact hv
 have hblk:∀ b,b<w.heap.size→(w.alloc (.cells arr t)).heap[b]?=w.heap[b]?:=by
  intro b hb
  show (w.heap.push _)[b]?=_
  rw [Array.getElem?_push,if_neg oM]
 have hnew:(w.alloc (.cells arr t)).heap[w.heap.size]?=some (.cells arr t):=by
  show (w.heap.push _)[_]?=_
  simp
 refine ⟨[.c (.sl 1 n F)],[],D',ρ,_,rfl,⟨rfl,rfl⟩,?_,fun j x hj=>flatsV_inS rfl j x hj,?_⟩
 ·show Den D' ρ (.sl 1 n F) _
  refine ⟨_,_,rfl,Nat.le_refl _,hn,.inr ⟨w.heap.size,0,rfl,fun i hi j hj => ?_⟩⟩
  obtain rfl:j=0:=by omega
  obtain ⟨u,hu,hd⟩:=hden i hi
  refine ⟨u,?_,hd D'⟩
  show (if w.heap.size=w.heap.size then arr[0+i*1+0]? else _)=_
  rw [if_pos rfl,← hu]
  congr 1;omega
 have ag:Agree D' (w.alloc (.cells arr t)):=by
  intro b o v hv
  have hv:(if b=w.heap.size then arr[o]? else D b o)=some v:=hv
  by_cases e:b=w.heap.size
  ·rw [if_pos e] at hv
   rw [e]
   simp only [World.cell?,hnew,Option.isSome_none,Bool.false_eq_true,if_false]
   exact hv
  ·rw [if_neg e] at hv
   rw [cell_block (hblk b (hDn b o v hv))]
   exact h3 b o v hv
 exact {
  hp:=fun id b hb=>by simp [look] at hb
  inj:=fun i j bi bj hi=>by simp [look] at hi
  sep:=fun id b hb=>by simp [look] at hb
  agree:=ag
  le:=hle
  kin:=fun i hi=>rfl
  own:=fun id b hb=>by simp [look] at hb
  newD:=fun b o v hv=>by
   have hv:(if b=w.heap.size then arr[o]? else D b o)=some v:=hv
   split at hv
   ·rename_i e;right;left;omega
   ·exact .inl hv
  frame:=fun b hlt _=>hblk b hlt
  os:=rfl
  tape:=rfl
  output:=rfl
  grow:=by show _≤(w.heap.push _).size;simp
  drawn:=fun _=>Nat.le_refl _
  ids:=fun id b hb=>by simp [look] at hb }
end Go.Sv
end
section
namespace Go.Sv
open M
theorem BlkEqv.of_eq {b b':Blk} (h:b=b'):BlkEqv b b':=h▸BlkEqv.refl b
def bytesF (l:List UInt8):Nat→Nat→Cell:=fun i _ => .int .u8 ((l.getD i 0).toNat:Int)
theorem byteL_F (l:List UInt8) {n:Nat} (h:n=l.length):byteL (bytesF l) 0 n=l:=by
 subst h
 apply List.ext_getElem?
 intro i
 simp only [byteL,List.getElem?_map]
 rcases Nat.lt_or_ge i l.length with hi | hi
 ·rw [List.getElem?_range hi]
  simp [bytesF,byteOf,List.getD,hi]
 ·rw [List.getElem?_eq_none (by simpa using hi),List.getElem?_eq_none hi];rfl
theorem areBytes_F (l:List UInt8) (off n:Nat):areBytes (bytesF l) off n:=by
 intro i hi
 simp [bytesF,byteOf]
theorem catF_bytes (l r:List UInt8) {n:Nat} (h:n=l.length) (i j:Nat):catF n (bytesF l) (bytesF r) i j=bytesF (l++r) i j:=by
 subst h
 unfold catF
 split
 ·rename_i hi;simp [bytesF,List.getD,List.getElem?_append,hi]
 ·rename_i hi;simp [bytesF,List.getD,List.getElem?_append,hi]
theorem look_hinB:∀ (l:List Blk) (k i:Nat) (b:Blk),l[i]?=some b→look (hinB k l) (k+i)=some b
 | [],k,i,b,h=>by simp at h
 | c::r,k,0,b,h=>by
  simp only [List.getElem?_cons_zero,Option.some.injEq] at h
  subst h
  simp [hinB,look]
 | c::r,k,i+1,b,h=>by
  simp only [List.getElem?_cons_succ] at h
  have:=look_hinB r (k+1) i b h
  simp only [hinB,look]
  rw [(beq_ne k (k+(i+1))).2 oM]
  rw [show k+(i+1)=k+1+i from by omega]
  exact this
theorem Fn.of' {P:Program} {G:Nat→Option (List Cell)} {f:FuncId} {fn:Func} {hin:List Blk} {args:List V1} {R:List V1→List (Nat×Blk)→Prop}
  (hf:P.funcs[f]?=some fn) (hb:fn.body=some (codeOf fn)) (hN:Nat.ble (len args) fn.ntmps=true) (ha:idLtVs (len hin) args=true) (hh:idLtB (len hin) (hinB 0 hin)=true) (hr:RowsIn (fun i=>i<len hin) (hinB 0 hin))
  (h:Wp P G fn.ntmps (len hin) [.code (codeOf fn)] (FinQ P fn.results.toList (len hin) R) (st0 args hin)):Fn P G f hin args R:=by
 have hl:=len_eq hin
 rw [hl] at h ha hh hr
 refine Fn.of (hin:=hin) hf hb ?_ (fun j x hj=>idLtVs_inS ha j x hj) (fun i b hi => ?_) h
 ·have:=Nat.le_of_ble_eq_true hN
  rw [len_eq] at this
  exact this
 ·have:=look_hinB hin 0 i b hi
  exact (idLtB_inS hh hr _ b this).2
def mem1 (ids:List Nat) (n:Nat):Bool:=match notIn n ids with
 | true=>false
 | false=>true
def mIn (ids:List Nat):Cell→Bool
 | .ptr id _ | .row _ id _ _ | .rp _ id _ _ | .map id=>mem1 ids id
 | .int .. | .bool _ | .str _ | .sl .. | .nilsl | .emp | .nilptr | .dp .. | .nilmap | .nilfn | .nilif=>true
 | .clo .. | .ifc ..=>false
def mInL (ids:List Nat):List Cell→Bool
 | []=>true
 | x::r=>bAnd (mIn ids x) (mInL ids r)
def mInV (ids:List Nat):V1→Bool
 | .c (.ifc _ sh c)=>match sh with
  | none=>mIn ids (c 0)
  | some m=>mInL ids (upL c 0 m)
 | .c (.clo _ k sh c)=>allB (fun i=>match sh i with | none=>mIn ids (c i 0) | some m=>mInL ids (upL (c i) 0 m)) k
 | .c x=>mIn ids x
 | .agg l=>mInL ids l
def mInVs (ids:List Nat):List V1→Bool
 | []=>true
 | x::r=>bAnd (mInV ids x) (mInVs ids r)
def mInC (ids:List Nat):List Cell→Bool
 | []=>true
 | x::r=>bAnd (mInV ids (.c x)) (mInC ids r)
def mInB (ids:List Nat):List (Nat×Blk)→Bool
 | []=>true
 | (_,.box _ cs)::r=>bAnd (mInC ids cs) (mInB ids r)
 | (_,.ob (.mi mid _ _))::r=>bAnd (mem1 ids mid) (mInB ids r)
 | (_,_)::r=>mInB ids r
theorem mem1_ev {ids:List Nat} {n:Nat} (h:mem1 ids n=true):n∈ids:=by
 induction ids with
 | nil=>simp [mem1,notIn] at h
 | cons y r ih =>
  simp only [mem1,notIn] at h
  cases hb:Nat.beq n y with
  | true=>rw [(beq_eq _ _).1 hb]; simp
  | false=>rw [hb] at h; exact List.mem_cons_of_mem _ (ih h)
theorem mIn_inS {ids:List Nat} {x:Cell} (h:mIn ids x=true):x.inS (fun i=>i∈ids):=by
 cases x<;>simp only [mIn,Bool.false_eq_true] at h<;>first | exact mem1_ev h | trivial
theorem mInL_inS {ids:List Nat}:∀ {l:List Cell},mInL ids l=true→∀ (j:Nat) (x:Cell),l[j]?=some x→x.inS (fun i=>i∈ids)
 | [],_,j,x,hj=>by simp at hj
 | y::r,h,0,x,hj=>by obtain ⟨h1,_⟩:=bAnd_eq h; simp at hj; subst hj; exact mIn_inS h1
 | y::r,h,j+1,x,hj=>by obtain ⟨_,h2⟩:=bAnd_eq h; simp at hj; exact mInL_inS h2 j x hj
theorem mInV_inS {ids:List Nat} {x:V1} (h:mInV ids x=true):x.inS (fun i=>i∈ids):=by
 cases x with
 | agg l=>exact mInL_inS h
 | c x =>
  cases x with
  | ifc t sh c =>
   cases sh with
   | none=>exact mIn_inS (x:=c 0) h
   | some m =>
    have h:mInL ids (upL c 0 m)=true:=h
    intro j hj
    exact mInL_inS h j _ (by rw [upL_get,if_pos hj];simp)
  | clo f k sh c =>
   have h:allB (fun i=>match sh i with | none=>mIn ids (c i 0) | some m=>mInL ids (upL (c i) 0 m)) k=true:=h
   intro i hi
   have hg:=allB_get h i hi
   cases hs:sh i with
   | none=>simp only [hs] at hg ⊢; exact mIn_inS hg
   | some m =>
    simp only [hs] at hg ⊢
    intro j hj
    exact mInL_inS hg j _ (by rw [upL_get,if_pos hj];simp)
  | _=>exact mIn_inS h
theorem mInVs_inS {ids:List Nat}:∀ {l:List V1},mInVs ids l=true→∀ (j:Nat) (x:V1),l[j]?=some x→x.inS (fun i=>i∈ids)
 | [],_,j,x,hj=>by simp at hj
 | y::r,h,0,x,hj=>by obtain ⟨h1,_⟩:=bAnd_eq h; simp at hj; subst hj; exact mInV_inS h1
 | y::r,h,j+1,x,hj=>by obtain ⟨_,h2⟩:=bAnd_eq h; simp at hj; exact mInVs_inS h2 j x hj
theorem mInC_inS {ids:List Nat}:∀ {l:List Cell},mInC ids l=true→∀ (j:Nat) (x:Cell),l[j]?=some x→x.inS (fun i=>i∈ids)
 | [],_,j,x,hj=>by simp at hj
 | y::r,h,0,x,hj=>by obtain ⟨h1,_⟩:=bAnd_eq h; simp at hj; subst hj; exact mInV_inS (x := .c y) h1
 | y::r,h,j+1,x,hj=>by obtain ⟨_,h2⟩:=bAnd_eq h; simp at hj; exact mInC_inS h2 j x hj
theorem mInB_inS {ids:List Nat}:∀ {l:List (Nat×Blk)},mInB ids l=true→RowsIn (fun i=>i∈ids) l→∀ id b,look l id=some b→b.inS (fun i=>i∈ids)
 | [],_,_,t,v,h=>by simp [look] at h
 | (k,.box e cs)::r,h,hr,t,v,hl=>by
  obtain ⟨h2,h3⟩:=bAnd_eq h
  simp only [look] at hl
  split at hl
  ·simp only [Option.some.injEq] at hl;subst hl;exact mInC_inS h2
  ·exact mInB_inS h3 hr t v hl
 | (k,.row e sz n f)::r,h,hr,t,v,hl=>by
  simp only [look] at hl
  split at hl
  ·simp only [Option.some.injEq] at hl;subst hl;trivial
  ·exact mInB_inS (l:=r) h trivial t v hl
 | (k,.ob (.mi mid n seen))::r,h,hr,t,v,hl=>by
  obtain ⟨h2,h3⟩:=bAnd_eq h
  simp only [look] at hl
  split at hl
  ·simp only [Option.some.injEq] at hl;subst hl;exact mem1_ev h2
  ·exact mInB_inS h3 hr t v hl
 | (k,.ob (.ms m))::r,h,hr,t,v,hl=>by
  simp only [look] at hl
  split at hl
  ·simp only [Option.some.injEq] at hl;subst hl;trivial
  ·exact mInB_inS (l:=r) h hr t v hl
 | (k,.ob (.it s p))::r,h,hr,t,v,hl=>by
  simp only [look] at hl
  split at hl
  ·simp only [Option.some.injEq] at hl;subst hl;trivial
  ·exact mInB_inS (l:=r) h hr t v hl
theorem fst_look {l:List (Nat×Blk)} {i:Nat} (h:i∈fstL l):∃ b,look l i=some b:=by
 induction l with
 | nil=>simp [fstL] at h
 | cons p r ih =>
  obtain ⟨k,v⟩:=p
  simp only [look]
  cases hb:Nat.beq k i with
  | true=>exact ⟨v,rfl⟩
  | false =>
   simp only [fstL] at h
   rcases List.mem_cons.1 h with h | h
   ·exact absurd h.symm ((beq_ne _ _).1 hb)
   ·exact ih h
theorem look_mem {l:List (Nat×Blk)} {i:Nat} {b:Blk} (h:look l i=some b):(i,b)∈l:=by
 induction l with
 | nil=>simp [look] at h
 | cons p r ih =>
  obtain ⟨k,v⟩:=p
  simp only [look] at h
  split at h
  ·rename_i hb
   simp only [Option.some.injEq] at h
   rw [(beq_eq _ _).1 hb,h];simp
  ·exact List.mem_cons_of_mem _ (ih h)
theorem nodup_inj {σ:Nat→Nat}:∀ {l:List Nat},nodupB (mapL σ l)=true→∀ i j,i∈l→j∈l→σ i=σ j→i=j
 | [],_,i,j,hi,_,_=>by simp at hi
 | x::r,h,i,j,hi,hj,e=>by
  simp only [mapL,nodupB] at h
  obtain ⟨h1,h2⟩:=bAnd_eq h
  have h1:=notIn_mem h1
  rw [mapL_eq] at h1
  rcases List.mem_cons.1 hi with hi | hi<;>rcases List.mem_cons.1 hj with hj | hj
  ·rw [hi,hj]
  ·exact absurd (List.mem_map.2 ⟨j,hj,by rw [← e,hi]⟩) h1
  ·exact absurd (List.mem_map.2 ⟨i,hi,by rw [e,hj]⟩) h1
  ·exact nodup_inj h2 i j hi hj e
theorem fstL_mem {l:List (Nat×Blk)} {i:Nat} {b:Blk} (h:(i,b)∈l):i∈fstL l:=by
 induction l with
 | nil=>simp at h
 | cons p r ih =>
  obtain ⟨k,v⟩:=p
  simp only [fstL]
  rcases List.mem_cons.1 h with h | h
  ·simp only [Prod.mk.injEq] at h;simp [h.1]
  ·exact List.mem_cons_of_mem _ (ih h)
theorem FinQ.blk {P:Program} {rv:List ResultVar} {kn:Nat} {st:St} {rs:List V1} {hout:List (Nat×Blk)} (m:List Nat) (hr:resV P rv st=some (mapL (V1.ren (sigF kn m)) rs))
  (hb:mapL (fun p:Nat×Blk=>look st.hp (sigF kn m p.1)) hout=mapL (fun p:Nat×Blk=>some (p.2.ren (sigF kn m))) hout) (hi:nodupB (mapL (sigF kn m) (fstL hout))=true)
  (h4:mInVs (fstL hout) rs=true) (h5:mInB (fstL hout) hout=true) (h6:RowsIn (fun i=>i∈fstL hout) hout):FinQ P rv kn (fun r h=>r=rs∧h=hout) st:=by
 have up:∀ i,i∈fstL hout→∃ c,look hout i=some c:=fun i=>fst_look
 refine ⟨rs,hout,m,⟨rfl,rfl⟩,?_,fun id b hl => ?_,fun i j bi bj h1 h2 e=>nodup_inj hi i j (fstL_mem (look_mem h1)) (fstL_mem (look_mem h2)) e,fun j x hj=>V1.inS_mono up (mInVs_inS h4 j x hj),fun id b hl=>Blk.inS_mono up (mInB_inS h5 h6 id b hl)⟩
 ·rw [mapL_eq] at hr
  unfold resV at hr
  cases hh:resM P rv st.get with
  | none=>simp [hh] at hr
  | some p=>obtain ⟨l,r⟩:=p; simp only [hh,Option.some.injEq] at hr; subst hr; exact ⟨r,hh⟩
 ·have hm:=look_mem hl
  have gen:∀ l:List (Nat×Blk),mapL (fun p:Nat×Blk=>look st.hp (sigF kn m p.1)) l=mapL (fun p:Nat×Blk=>some (p.2.ren (sigF kn m))) l→(id,b)∈l→look st.hp (sigF kn m id)=some (b.ren (sigF kn m)):=by
   intro l
   induction l with
   | nil=>intro _ h; simp at h
   | cons p r ih =>
    intro e h
    simp only [mapL,List.cons.injEq] at e
    rcases List.mem_cons.1 h with h | h
    ·subst h;exact e.1
    ·exact ih e.2 h
  exact gen hout hb hm
theorem FinQ.blkE {P:Program} {rv:List ResultVar} {kn:Nat} {st:St} {rs rs':List V1} {hout hout':List (Nat×Blk)} (e:rs'=rs∧hout'=hout) (m:List Nat) (hr:resV P rv st=some (mapL (V1.ren (sigF kn m)) rs'))
  (hb:mapL (fun p:Nat×Blk=>look st.hp (sigF kn m p.1)) hout'=mapL (fun p:Nat×Blk=>some (p.2.ren (sigF kn m))) hout') (hi:nodupB (mapL (sigF kn m) (fstL hout'))=true)
  (h4:mInVs (fstL hout') rs'=true) (h5:mInB (fstL hout') hout'=true) (h6:RowsIn (fun i=>i∈fstL hout') hout'):FinQ P rv kn (fun r h=>r=rs∧h=hout) st:=by
 obtain ⟨rfl,rfl⟩:=e
 exact FinQ.blk m hr hb hi h4 h5 h6
section
variable {P:Program} {G:Nat→Option (List Cell)} {N kn:Nat} {k:List KI} {Q:St→Prop} {st:St}
theorem Wp.loopK {X:Type} (h:isLoop k=true) (inv:X→St) (facts:X→Prop) (μ:X→Nat) (x0:X) (h0:Ent kn st (inv x0)) (f0:facts x0)
  (round:∀ (x:X) (L:St→Prop),facts x→(∀ st x',facts x'→μ x'<μ x→Ent kn st (inv x')→L st)→Wp P G N kn (.code (loopB k) :: .lp L::loopR k) Q (inv x)):Wp P G N kn k Q st :=
 Wp.loop' h inv facts μ x0 h0 f0 (fun x fx=>round x (LoopR kn inv facts μ x) fx (fun st x' h1 h2 h3=>by unfold LoopR;exact ⟨x',h1,h2,h3⟩))
theorem Wp.lpK {L:St→Prop} (h:lpR k=L) (hl:L st):Wp P G N kn k Q st:=by
 unfold lpR at h
 split at h
 ·subst h;exact Wp.lp hl
 ·subst h;exact hl.elim
end
theorem Wp.rs {P:Program} {G:Nat→Option (List Cell)} {N kn:Nat} {k:List KI} {rv:List ResultVar} {st:St} {rs rs':List V1} {hout:List (Nat×Blk)} (e:rs'=rs)
  (h:Wp P G N kn k (FinQ P rv kn (fun r h=>r=rs'∧h=hout)) st):Wp P G N kn k (FinQ P rv kn (fun r h=>r=rs∧h=hout)) st:=e▸h
theorem Ent.blkE {kn:Nat} {st st':St} {id:Nat} {b b':Blk} (hb:look st.hp id=some b) (he:BlkEqv b b') (e:st.set (.bk id) (.bk b')=st'):Ent kn st st':=by
 subst e
 intro Γ a w hk ⟨D,ρ,h⟩
 exact ⟨D,ρ,h.turnB hb he⟩
def bl (xs:List UInt8):List Cell:=xs.map fun x => .int .u8 (x.toNat:Int)
theorem bl_get (xs:List UInt8) {i:Nat} (hi:i<xs.length):nthD (bl xs) i = .int .u8 ((xs.getD i 0).toNat:Int):=by
 simp [nthD,nth_eq,bl,List.getD,hi]
theorem bytes_app {e:TypeId} {n:Nat} (l xs:List UInt8) (hn:n=l.length):BlkEqv (.row e 1 (n+xs.length) (catF n (bytesF l) (fun i j=>nthD (bl xs) ((0+i)*1+j)))) (.row e 1 (n+xs.length) (bytesF (l++xs))):=by
 refine BlkEqv.row_ext rfl fun i hi j hj => ?_
 obtain rfl:j=0:=by omega
 rw [← catF_bytes l xs hn]
 unfold catF
 split
 ·rfl
 ·show nthD (bl xs) ((0+(i-n))*1+0)=_
  rw [show (0+(i-n))*1+0=i-n from by omega,bl_get xs oM];rfl
def cloRaw (f:FuncId) (l:List V1):Cell := .clo f (len l) (fun i=>match nth l i with | some v=>shOf v | none=>none) (fun i j=>match nth l i with | some v=>nthD v.cells j | none => .nilif)
abbrev FnB (P:Program) (G:Nat→Option (List Cell)) (f:FuncId) (hin:List Blk) (args rs:List V1) (hout:List (Nat×Blk)):Prop:=Fn P G f hin args (fun r h=>r=rs∧h=hout)
def cb {P:Program} {G:Nat→Option (List Cell)} {f:FuncId} {hin:List Blk} {args rs:List V1} {hout:List (Nat×Blk)} (m:List Nat) (h:FnB P G f hin args rs hout):CallE P G:=⟨f,m,args,hin,rs,hout,h⟩
end Go.Sv
end
section
set_option maxRecDepth 10000
open Go
namespace Go.Sv
section
variable {P:Program} {G:Nat→Option (List Cell)} {N kn:Nat} {k:List KI} {Q:St→Prop} {st st':St} {rv:List ResultVar} {rs rs':List V1} {hout:List (Nat×Blk)} {L:St→Prop}
theorem zg (ans:List (Nat×Ann P G)) (dec:List Bool) (vc:List Prop) (hv:AllP vc) (hw:Wp P G N kn (aK (adv P G N true ans 100 dec k st)) Q (aSt (adv P G N true ans 100 dec k st)))
  (hm:P.follows .mixedOrders=true:=by kernel_rfl) (h:aOk (adv P G N true ans 100 dec k st)=true:=by kernel_rfl) (he:aE (adv P G N true ans 100 dec k st)=aF (adv P G N true ans 100 dec k st):=by kernel_rfl)
  (hvc:aVc (adv P G N true ans 100 dec k st)=vc:=by kernel_rfl):Wp P G N kn k Q st:=Wp.go (fun _=>hm) ans 100 dec vc h he hvc hv hw
theorem zn (ans:List (Nat×Ann P G)) (n:Nat) (dec:List Bool) (vc:List Prop) (hv:AllP vc) (hw:Wp P G N kn (aK (adv P G N true ans n dec k st)) Q (aSt (adv P G N true ans n dec k st)))
  (hm:P.follows .mixedOrders=true:=by kernel_rfl) (h:aOk (adv P G N true ans n dec k st)=true:=by kernel_rfl) (he:aE (adv P G N true ans n dec k st)=aF (adv P G N true ans n dec k st):=by kernel_rfl)
  (hvc:aVc (adv P G N true ans n dec k st)=vc:=by kernel_rfl):Wp P G N kn k Q st:=Wp.go (fun _=>hm) ans n dec vc h he hvc hv hw
theorem z0 (ans:List (Nat×Ann P G)) (dec:List Bool) (hw:Wp P G N kn (aK (adv P G N true ans 100 dec k st)) Q (aSt (adv P G N true ans 100 dec k st)))
  (hm:P.follows .mixedOrders=true:=by kernel_rfl) (h:aOk (adv P G N true ans 100 dec k st)=true:=by kernel_rfl) (he:aE (adv P G N true ans 100 dec k st)=aF (adv P G N true ans 100 dec k st):=by kernel_rfl)
  (hvc:aVc (adv P G N true ans 100 dec k st)=[]:=by kernel_rfl):Wp P G N kn k Q st:=Wp.go (fun _=>hm) ans 100 dec [] h he hvc trivial hw
theorem i6 {n:Int} (h1 : -9223372036854775808≤n:=by omega) (h2:n≤9223372036854775807:=by omega):inR .i64 n:=inR64 h1 h2
theorem oN {p:Prop} (h:p):AllP [p]:=h
theorem zc (b:Bool) (ht:b=true→Wp P G N kn (cX k) Q st) (hf:b=false→Wp P G N kn (cY k) Q st) (h:isCond k=true:=by kernel_rfl) (hc:condB st (cOp k)=some b:=by kernel_rfl):Wp P G N kn k Q st:=Wp.cond' h b hc ht hf
theorem zr (h:isRet k=true:=by kernel_rfl) (hr:resV P rv st=some rs:=by kernel_rfl) (hf:flatsV rs=true:=by kernel_rfl):Wp P G N kn k (FinQ P rv kn (fun r h=>r=rs∧h=[])) st:=Wp.ret' h (FinQ.pure hr rfl hf)
theorem zS (rs':List V1) (e:rs'=rs) (h:isRet k=true:=by kernel_rfl) (hr:resV P rv st=some rs':=by kernel_rfl) (hf:flatsV rs'=true:=by kernel_rfl):Wp P G N kn k (FinQ P rv kn (fun r h=>r=rs∧h=[])) st:=Wp.ret' h (FinQ.pure hr e hf)
theorem zb (m:List Nat) (h:isRet k=true:=by kernel_rfl) (hr:resV P rv st=some (mapL (V1.ren (sigF kn m)) rs):=by kernel_rfl)
  (hb:mapL (fun p:Nat×Blk=>look st.hp (sigF kn m p.1)) hout=mapL (fun p:Nat×Blk=>some (p.2.ren (sigF kn m))) hout:=by kernel_rfl) (hi:nodupB (mapL (sigF kn m) (fstL hout))=true:=by kernel_rfl)
  (h4:mInVs (fstL hout) rs=true:=by kernel_rfl) (h5:mInB (fstL hout) hout=true:=by kernel_rfl) (h6:RowsIn (fun i=>i∈fstL hout) hout:=by exact trivial):Wp P G N kn k (FinQ P rv kn (fun r h=>r=rs∧h=hout)) st:=Wp.ret' h (FinQ.blk m hr hb hi h4 h5 h6)
theorem zl {X:Type} (inv:X→St) (facts:X→Prop) (μ:X→Nat) (x0:X) (f0:facts x0)
  (round:∀ (x:X) (L:St→Prop),facts x→(∀ st x',facts x'→μ x'<μ x→Ent kn st (inv x')→L st)→Wp P G N kn (.code (loopB k) :: .lp L::loopR k) Q (inv x))
  (m:List (Nat×Nat):=[]) (h:isLoop k=true:=by kernel_rfl) (hok:entOk kn m (inv x0)=true:=by kernel_rfl) (hT:entT st (inv x0).tm=some (renT m (inv x0).tm):=by kernel_rfl) (hB:entB m st (inv x0).hp=some (renB m (inv x0).hp):=by kernel_rfl)
  (hR:RowsIn (fun i=>i<(inv x0).nx) (inv x0).hp:=by exact trivial):Wp P G N kn k Q st:=Wp.loopK h inv facts μ x0 (Ent.of m hok hT hB hR) f0 round
theorem za (m:List (Nat×Nat)) (hl:Ent kn st st'→L st) (h:lpR k=L:=by kernel_rfl) (hok:entOk kn m st'=true:=by kernel_rfl) (hT:entT st st'.tm=some (renT m st'.tm):=by kernel_rfl) (hB:entB m st st'.hp=some (renB m st'.hp):=by kernel_rfl)
  (hR:RowsIn (fun i=>i<st'.nx) st'.hp:=by exact trivial):Wp P G N kn k Q st:=Wp.lpK h (hl (Ent.of m hok hT hB hR))
end
theorem zp {P:Program} {G:Nat→Option (List Cell)} {f:FuncId} {fn:Func} {args rs:List V1} (hf:P.funcs[f]?=some fn) (h:Wp P G fn.ntmps 0 [.code (codeOf fn)] (FinQ P fn.results.toList 0 (fun r h=>r=rs∧h=[])) (st0 args []))
  (hb:fn.body=some (codeOf fn):=by kernel_rfl) (hN:Nat.ble (len args) fn.ntmps=true:=by kernel_rfl) (ha:idLtVs 0 args=true:=by kernel_rfl):Pur P G f args rs:=Pur.of hf hb hN ha h
theorem zf {P:Program} {G:Nat→Option (List Cell)} {f:FuncId} {fn:Func} {hin:List Blk} {args:List V1} {R:List V1→List (Nat×Blk)→Prop} (hf:P.funcs[f]?=some fn) (h:Wp P G fn.ntmps (len hin) [.code (codeOf fn)] (FinQ P fn.results.toList (len hin) R) (st0 args hin))
  (hb:fn.body=some (codeOf fn):=by kernel_rfl) (hN:Nat.ble (len args) fn.ntmps=true:=by kernel_rfl) (ha:idLtVs (len hin) args=true:=by kernel_rfl) (hh:idLtB (len hin) (hinB 0 hin)=true:=by kernel_rfl)
  (hr:RowsIn (fun i=>i<len hin) (hinB 0 hin):=by exact trivial):Fn P G f hin args R:=Fn.of' hf hb hN ha hh hr h
end Go.Sv
end
section
namespace Go.Sv
open M
def Dw (w:World):Dat:=fun b o=>w.cell? ⟨b,o,none⟩
theorem Dw.agree (w:World):Agree (Dw w) w:=fun _ _ _ h=>h
def dcFs {H:Type} (P:Program) (rec:TypeId→DataW H→Option (List Cell)):Nat→List Field→List (DataW H)→Option (List Cell)
 | _,[],[]=>some []
 | pos,f::fs,d::ds=>match Nat.beq f.offset pos,rec f.type d with
  | true,some l=>match Nat.beq (len l) (P.cellsOf f.type),dcFs P rec (pos+len l) fs ds with
   | true,some r=>some (l++r)
   | _,_=>none
  | _,_=>none
 | _,_,_=>none
def dcAr {H:Type} (sz:Nat) (rec:DataW H→Option (List Cell)):List (DataW H)→Option (List Cell)
 | []=>some []
 | d::ds=>match rec d,dcAr sz rec ds with
  | some l,some r=>match Nat.beq (len l) sz with
   | true=>some (l++r)
   | false=>none
  | _,_=>none
def dc {H:Type} (P:Program):Nat→TypeId→DataW H→Option (List Cell)
 | 0,_,_=>none
 | n+1,t,d=>match P.underlying t,d with
  | some .bool,.lit (.bool b)=>some [.bool b]
  | some (.int _),.lit (.int k z)=>some [.int k z]
  | some .string,.lit (.string s)=>some [.str s]
  | some (.slice _),.nil=>some [.nilsl]
  | some (.struct fs),.agg parts=>match dcFs P (dc P n) 0 fs.toList parts with
   | some l=>match Nat.beq (len l) (P.cellsOf t) with
    | true=>some l
    | false=>none
   | none=>none
  | some (.array m e),.agg parts=>match dcAr (P.cellsOf e) (dc P n e) parts with
   | some l=>match Nat.beq (len l) (P.cellsOf t) with
    | true=>some l
    | false=>none
   | none=>none
  | _,_=>none
def RelAt (D:Dat) (cs:List Value) (pos:Nat) (l:List Cell):Prop:=∀ (j:Nat) (x:Cell),l[j]?=some x→∃ u,cs[pos+j]?=some u∧Den D rho0 x u
theorem RelAt.one {D:Dat} {v:Value} {x:Cell} (h:Den D rho0 x v):RelAt D [v] 0 [x]:=by
 intro j y hj
 cases j with
 | zero=>simp at hj; subst hj; exact ⟨v,by simp,h⟩
 | succ j=>simp at hj
theorem RelAt.app {D:Dat} {cs:List Value} {pos:Nat} {l r:List Cell} (h:RelAt D cs pos l) (k:RelAt D cs (pos+l.length) r):RelAt D cs pos (l++r):=by
 intro j x hj
 rw [List.getElem?_append] at hj
 split at hj
 ·exact h j x hj
 ·obtain ⟨u,hu,hd⟩:=k _ x hj
  exact ⟨u,by rw [← hu];congr 1;omega,hd⟩
theorem RelAt.part {D:Dat} {cs:List Value} {pos sz:Nat} {l:List Cell} (hl:l.length=sz) (h:RelAt D ((cs.drop pos).take sz) 0 l):RelAt D cs pos l:=by
 intro j x hj
 obtain ⟨u,hu,hd⟩:=h j x hj
 have hjl:j<sz:=by
  rw [← hl]
  rcases Nat.lt_or_ge j l.length with h | h
  ·exact h
  ·simp [List.getElem?_eq_none h] at hj
 refine ⟨u,?_,hd⟩
 rw [Nat.zero_add,List.getElem?_take,if_pos hjl,List.getElem?_drop] at hu
 exact hu
theorem dc_den {H:Type} {enc:TypeId×Value→H} {P:Program} {w:World} {base:Nat} {sp:Nat→Bool} {held:Bool} {D:Dat} :
  ∀ (n fuel:Nat) (t:TypeId) (cs:List Value) (d:DataW H) (p:List MemPlace) (l:List Cell),DataW.trod enc P w base sp held fuel t cs=some (d,p)→dc P n t d=some l→cs.length=l.length∧RelAt D cs 0 l:=by
 intro n
 induction n with
 | zero=>intro fuel t cs d p l _ h; simp [dc] at h
 | succ n ih =>
  intro fuel t cs d p l ht hd
  simp only [dc] at hd
  split at hd
  ·rename_i b hu
   simp only [Option.some.injEq] at hd
   subst hd
   obtain ⟨b',rfl,e⟩:=DataW.trod_bool hu ht
   simp only [Prod.mk.injEq,DataW.lit.injEq,Lit.bool.injEq] at e
   obtain ⟨rfl,_⟩:=e
   exact ⟨rfl,RelAt.one rfl⟩
  ·rename_i k k' z hu
   simp only [Option.some.injEq] at hd
   subst hd
   obtain ⟨z',rfl,e,_⟩:=DataW.trod_int hu ht
   simp only [Prod.mk.injEq,DataW.lit.injEq,Lit.int.injEq] at e
   obtain ⟨⟨rfl,rfl⟩,_⟩:=e
   exact ⟨rfl,RelAt.one rfl⟩
  ·rename_i s hu
   simp only [Option.some.injEq] at hd
   subst hd
   obtain ⟨s',rfl,e,_⟩:=DataW.trod_string hu ht
   simp only [Prod.mk.injEq,DataW.lit.injEq,Lit.string.injEq] at e
   obtain ⟨rfl,_⟩:=e
   exact ⟨rfl,RelAt.one (by simp [Den])⟩
  ·rename_i el hu
   simp only [Option.some.injEq] at hd
   subst hd
   rcases DataW.trod_slice hu ht with ⟨rfl,_⟩ | ⟨_,_,_,_,_,_,_,_,e,_⟩
   ·exact ⟨rfl,RelAt.one rfl⟩
   ·simp at e
  ·rename_i fs parts hu
   obtain ⟨xs,m,rfl,e,hlen,hxl,hx⟩:=DataW.trod_struct hu ht
   simp only [Prod.mk.injEq,DataW.agg.injEq] at e
   obtain ⟨rfl,_⟩:=e
   have gen:∀ (fl:List Field) (ys:List (DataW H×List MemPlace)) (pos:Nat) (r:List Cell),(∀ (i:Nat) (f:Field),fl[i]?=some f→DataW.trod enc P w base sp held m f.type ((cs.drop f.offset).take (P.cellsOf f.type))=ys[i]?) →
     dcFs P (dc P n) pos fl (ys.map (·.1))=some r→RelAt D cs pos r:=by
    intro fl
    induction fl with
    | nil =>
     intro ys pos r hy hr
     cases ys with
     | nil=>simp only [List.map_nil,dcFs,Option.some.injEq] at hr; subst hr; intro j x hj; simp at hj
     | cons y ys=>simp [dcFs] at hr
    | cons f fl ihf =>
     intro ys pos r hy hr
     cases ys with
     | nil=>simp [dcFs] at hr
     | cons y ys =>
      simp only [List.map_cons,dcFs] at hr
      split at hr
      ·rename_i l1 e1 e2
       split at hr
       ·rename_i r1 e3 e4
        simp only [Option.some.injEq] at hr
        subst hr
        have e1:=(beq_eq _ _).1 e1
        have e3:=(beq_eq _ _).1 e3
        rw [len_eq] at e3 e4
        have h0:=hy 0 f (by simp)
        simp only [List.getElem?_cons_zero] at h0
        obtain ⟨q1,q2⟩:=ih m f.type _ y.1 y.2 l1 h0 e2
        subst e1
        exact (RelAt.part e3 q2).app (ihf ys _ r1 (fun i g hg=>by have:=hy (i+1) g (by simpa using hg);simpa using this) e4)
       ·cases hr
      ·cases hr
   split at hd
   ·rename_i l1 e1
    split at hd
    ·rename_i e2
     simp only [Option.some.injEq] at hd
     subst hd
     have e2:=(beq_eq _ _).1 e2
     rw [len_eq] at e2
     exact ⟨by rw [hlen,e2],gen fs.toList xs 0 l1 (fun i f hf=>hx i f (by simpa using hf)) e1⟩
    ·cases hd
   ·cases hd
  ·rename_i m0 e0 parts hu
   obtain ⟨xs,m,rfl,e,hlen,hxl,hx⟩:=DataW.trod_array hu ht
   simp only [Prod.mk.injEq,DataW.agg.injEq] at e
   obtain ⟨rfl,_⟩:=e
   have gen:∀ (ys:List (DataW H×List MemPlace)) (k:Nat) (r:List Cell),(∀ i,i<ys.length→DataW.trod enc P w base sp held m e0 ((cs.drop ((k+i)*P.cellsOf e0)).take (P.cellsOf e0))=ys[i]?) →
     dcAr (P.cellsOf e0) (dc P n e0) (ys.map (·.1))=some r→RelAt D cs (k*P.cellsOf e0) r:=by
    intro ys
    induction ys with
    | nil=>intro k r _ hr; simp only [List.map_nil,dcAr,Option.some.injEq] at hr; subst hr; intro j x hj; simp at hj
    | cons y ys ihy =>
     intro k r hy hr
     simp only [List.map_cons,dcAr] at hr
     split at hr
     ·rename_i l1 r1 e1 e2
      split at hr
      ·rename_i e3
       simp only [Option.some.injEq] at hr
       subst hr
       have e3:=(beq_eq _ _).1 e3
       rw [len_eq] at e3
       have h0:=hy 0 (by simp)
       simp only [List.getElem?_cons_zero,Nat.add_zero] at h0
       obtain ⟨q1,q2⟩:=ih m e0 _ y.1 y.2 l1 h0 e1
       refine (RelAt.part e3 q2).app ?_
       have:=ihy (k+1) r1 (fun i hi=>by have:=hy (i+1) (by simpa using hi);rw [show k+1+i=k+(i+1) from by omega];simpa using this) e2
       rw [Nat.add_mul,Nat.one_mul] at this
       rw [e3];exact this
      ·cases hr
     ·cases hr
   split at hd
   ·rename_i l1 e1
    split at hd
    ·rename_i e2
     simp only [Option.some.injEq] at hd
     subst hd
     have e2:=(beq_eq _ _).1 e2
     rw [len_eq] at e2
     refine ⟨by rw [hlen,e2],?_⟩
     have:=gen xs 0 l1 (fun i hi=>by rw [Nat.zero_add];exact hx i oM) e1
     rw [Nat.zero_mul] at this
     exact this
    ·cases hd
   ·cases hd
  ·cases hd
theorem laid_get {P:Program} {w:World}:∀ {laid:List (String×DataW Unit)} {ps:List MemPlace},DataW.LaidVars P w laid ps→∀ n d,(n,d)∈laid →
  ∃ g t cs fuel p,P.globalNamed n=some g∧(P.globals[g]?).map (·.type)=some t∧w.var? P n=some cs∧DataW.trod (fun _=>()) P w 0 (fun _=>true) false fuel t cs.toList=some (d,p)
 | [],_,_,n,d,h=>by simp at h
 | (n0,d0)::r,ps,⟨g,t,cs,fuel,p,q,h1,h2,h3,h4,h5,_⟩,n,d,h=>by
  rcases List.mem_cons.1 h with h | h
  ·simp only [Prod.mk.injEq] at h
   obtain ⟨rfl,rfl⟩:=h
   exact ⟨g,t,cs,fuel,p,h1,h2,h3,h4⟩
  ·exact laid_get h5 n d h
theorem glob_ok {P:Program} {G:Nat→Option (List Cell)} {W:World} {laid:List (String×DataW Unit)} (h:laidMet P laid W)
  (hG:∀ g cs,G g=some cs→∃ n d t,(n,d)∈laid∧P.globalNamed n=some g∧(P.globals[g]?).map (·.type)=some t∧dc P 9 t d=some cs):GlobOk G (Dw W)∧GlobW G W:=by
 obtain ⟨ps,hl,_⟩:=h
 have key:∀ g cs,G g=some cs→∃ arr e fz,W.heap[g]?=some (.cells arr e fz)∧arr.size=cs.length∧∀ (j:Nat) (x:Cell),cs[j]?=some x→∃ u,arr[j]?=some u∧Den (Dw W) rho0 x u:=by
  intro g cs hg
  obtain ⟨n,d,t,hm,h1,h2,h3⟩:=hG g cs hg
  obtain ⟨g',t',arr,fuel,p,q1,q2,q3,q4⟩:=laid_get hl n d hm
  rw [h1] at q1
  obtain rfl:=Option.some.inj q1
  rw [h2] at q2
  obtain rfl:=Option.some.inj q2
  obtain ⟨r1,r2⟩:=dc_den (D:=Dw W) 9 fuel t arr.toList d p cs q4 h3
  have q3':=q3
  simp only [World.var?,h1,Option.bind_some] at q3
  split at q3
  ·rename_i c e fz hc
   simp only [Option.some.injEq] at q3
   subst q3
   refine ⟨c,e,fz,hc,by simpa using r1,fun j x hj => ?_⟩
   obtain ⟨u,hu,hd⟩:=r2 j x hj
   exact ⟨u,by simpa using hu,hd⟩
  ·cases q3
 refine ⟨fun g cs hg j x hj => ?_,fun g cs hg _ => ?_⟩
 ·obtain ⟨arr,e,fz,h1,_,h3⟩:=key g cs hg
  obtain ⟨u,hu,hd⟩:=h3 j x hj
  exact ⟨u,by simp only [Dw,World.cell?,h1,Option.isSome_none,Bool.false_eq_true,if_false];exact hu,hd⟩
 ·obtain ⟨arr,e,fz,h1,h2,_⟩:=key g cs hg
  exact ⟨arr,e,fz,h1,h2⟩
structure Kept (W W':World):Prop where
 heap:∀ b,b<W.heap.size→W'.heap[b]?=W.heap[b]?
 os:W'.os=W.os
 output:W'.output=W.output
 size:W.heap.size≤W'.heap.size
theorem Kept.but {W W':World} (h:Kept W W') (may:MemPlace→Prop):W.keptBut W' may:=by
 refine ⟨h.os,h.output,fun i hi => ?_⟩
 rw [h.heap i hi]
 cases hh:W.heap[i]? with
 | none=>trivial
 | some o=>cases o<;>first | exact ⟨rfl,rfl,rfl,fun _ _=>rfl⟩ | exact .inr ⟨rfl,rfl⟩ | rfl
theorem Kept.frozen {W W':World} (h:Kept W W') {a:Addr} (ha:a.block<W.heap.size):W'.frozen? a=W.frozen? a:=by
 simp only [World.frozen?,h.heap _ ha]
theorem law_run {P:Program} {G:Nat→Option (List Cell)} {f:FuncId} {args rs:List V1} (h:Pur P G f args rs) {W:World} {ρ:Rho} {vs:Array Value} (hd:DenL (Dw W) ρ args vs) (h1:GlobOk G (Dw W)) (h2:GlobW G W) :
  Calls P f vs W fun e W'=>∃ v D' ρ',e = .returned v∧ResDen D' ρ' rs v∧Kept W W':=by
 refine (h (Dw W) ρ W vs hd h1 h2 (Dw.agree W) (by intro i b hb;simp at hb) (by intro i j bi bj hi;simp at hi)).mono fun e W' => ?_
 rintro ⟨rs',hout,D',ρ',v,rfl,⟨rfl,rfl⟩,hr,_,ha⟩
 exact ⟨v,D',ρ',rfl,hr,⟨fun b hb=>ha.frame b hb (fun i hi=>absurd hi (Nat.not_lt_zero i)),ha.os,ha.output,ha.grow⟩⟩
section
open Go.ChangeShapes
variable {H:Type} {enc:TypeId×Value→H} {P:Program}
theorem post_of_kept {f:Func} {s:ChangeSpec} {apart fresh handsOn again:Bool} {W W':World} {args:Array Value} {v:Value} {ds gs:List (DataW H)} {before pa pv:List MemPlace}
  (hW:DataW.Whole enc P f.params.toList s.vars apart W args.toList ds gs before)
  (hres:∀ (b:Nat) (sp:Nat→Bool) (hd:Bool),DataW.TrodAll enc P W' b sp hd f.resultTypes.toList (v.resultList f.resultTypes.size) (s.fn H (ds++gs)).results [])
  (hargs:∀ sp:Nat→Bool,(∀ p∈before,sp p.block=true)→DataW.TrodAll enc P W' 0 sp true f.params.toList args.toList (s.fn H (ds++gs)).args pa)
  (hvars:∀ sp:Nat→Bool,(∀ p∈before,sp p.block=true)→DataW.TrodVars enc P W' sp s.vars (s.fn H (ds++gs)).vars pv)
  (hps:before=pa++pv) (hk:Kept W W')
  (hok:∀ (j:Nat) (t:TypeId) (r:Value),f.resultTypes[j]?=some t→(v.resultList f.resultTypes.size)[j]?=some r→Value.okWide P W' .any 0 t r) :
  s.post enc P f apart fresh handsOn again W args v W':=by
 have hold:∀ p∈before,(fun b=>decide (b<W.heap.size)) p.block=true:=fun p hp=>by simpa using hW.lt p hp
 have hlt:∀ p∈before,p.block<W.heap.size:=fun p hp=>hW.lt p hp
 refine ⟨ds,gs,before,[],pa,pv,hW,hres _ _ _,hargs _ hold,hvars _ hold,World.keptBut_mono (fun p hp=>⟨hp,?_⟩) (hk.but (·∈before)),fun _ => ?_⟩
 ·rw [hps,List.mem_append] at hp
  exact Or.inr hp
 ·obtain ⟨_,_,_,_,_,hz,hn⟩:=hW
  refine ⟨hok,_,_,([]++pa)++pv,⟨[]++pa,pv,trodAll_append (hargs _ (fun _ _=>rfl)) (hres _ _ _),hvars _ (fun _ _=>rfl),rfl,?_,?_⟩,?_⟩
  ·intro b off hp
   have hb:MemPlace.cell b off∈before:=by rw [hps];simpa using hp
   rw [hk.frozen (a:=⟨b,off,none⟩) (hlt _ hb)]
   exact hz b off hb
  ·intro ha
   have:=hn ha
   rw [hps] at this
   simpa using this
  ·intro p hp _
   rw [hps]
   simpa using hp
end
end Go.Sv
end
section
namespace Go.Sv
open M Classical
def Cell.scal:Cell→Bool
 | .int .. | .bool _ | .str _ | .nilsl | .nilptr | .nilmap | .nilfn | .nilif=>true
 | _=>false
def scals:List Cell→Bool
 | []=>true
 | x::r=>bAnd x.scal (scals r)
def V1.scal:V1→Bool
 | .c x=>x.scal
 | .agg l=>scals l
def scalsV:List V1→Bool
 | []=>true
 | x::r=>bAnd x.scal (scalsV r)
def shiftF (off:Nat) (f:Nat→Nat→Cell):Nat→Nat→Cell:=match off with
 | 0=>f
 | o+1=>fun i j=>f (o+1+i) j
def lendC (hin:List Blk):Cell→Cell
 | .row sz id off n=>match nth hin id with
  | some (.row _ _ _ f) => .sl sz n (shiftF off f)
  | _ => .nilif
 | c=>c
def lendV (hin:List Blk):V1→V1
 | .c x => .c (lendC hin x)
 | .agg l => .agg (mapL (lendC hin) l)
def lokC (hin:List Blk):Cell→Bool
 | .row sz id _ _=>match nth hin id with
  | some (.row _ s _ _)=>Nat.beq s sz
  | _=>false
 | c=>c.flat
def lokL (hin:List Blk):List Cell→Bool
 | []=>true
 | x::r=>bAnd (lokC hin x) (lokL hin r)
def lokV (hin:List Blk):List V1→Bool
 | []=>true
 | .c x::r=>bAnd (lokC hin x) (lokV hin r)
 | .agg l::r=>bAnd (lokL hin l) (lokV hin r)
def lvcC (hin:List Blk):Cell→List Prop
 | .row _ id off n=>match nth hin id with
  | some (.row _ _ m _)=>[off+n≤m]
  | _=>[]
 | _=>[]
def lvcL (hin:List Blk):List Cell→List Prop
 | []=>[]
 | x::r=>lvcC hin x++lvcL hin r
def lvcV (hin:List Blk):List V1→List Prop
 | []=>[]
 | .c x::r=>lvcC hin x++lvcV hin r
 | .agg l::r=>lvcL hin l++lvcV hin r
def allRows:List Blk→Bool
 | []=>true
 | .row ..::r=>allRows r
 | _::_=>false
def idxB (k:Nat):List Blk→List (Nat×Blk)
 | []=>[]
 | b::r=>(k,b)::idxB (k+1) r
theorem scal_den {D D':Dat} {ρ ρ':Rho} {x:Cell} {u:Value} (h:x.scal=true) (hd:Den D ρ x u):Den D' ρ' x u:=by
 cases x<;>simp only [Cell.scal,Bool.false_eq_true] at h<;>exact hd
theorem scal_inS {S:Nat→Prop} {x:Cell} (h:x.scal=true):x.inS S:=by
 cases x<;>simp only [Cell.scal,Bool.false_eq_true] at h<;>trivial
theorem scals_get {l:List Cell} (h:scals l=true):∀ {j:Nat} {x:Cell},l[j]?=some x→x.scal=true:=by
 induction l with
 | nil=>intro j x hj; simp at hj
 | cons y r ih =>
  intro j x hj
  obtain ⟨h1,h2⟩:=bAnd_eq h
  cases j with
  | zero=>simp at hj; subst hj; exact h1
  | succ j=>simp at hj; exact ih h2 hj
theorem scalsV_get {l:List V1} (h:scalsV l=true):∀ {j:Nat} {x:V1},l[j]?=some x→x.scal=true:=by
 induction l with
 | nil=>intro j x hj; simp at hj
 | cons y r ih =>
  intro j x hj
  obtain ⟨h1,h2⟩:=bAnd_eq h
  cases j with
  | zero=>simp at hj; subst hj; exact h1
  | succ j=>simp at hj; exact ih h2 hj
theorem scalV_den {D D':Dat} {ρ ρ':Rho} {x:V1} {u:Value} (h:x.scal=true) (hd:DenV D ρ x u):DenV D' ρ' x u:=by
 cases x with
 | c x=>exact scal_den h hd
 | agg l=>obtain ⟨us,e,hs,hx⟩:=hd; exact ⟨us,e,hs,fun j x hj=>let ⟨u,hu,hd⟩:=hx j x hj; ⟨u,hu,scal_den (scals_get h hj) hd⟩⟩
theorem scalV_inS {S:Nat→Prop} {x:V1} (h:x.scal=true):x.inS S:=by
 cases x with
 | c x=>exact scal_inS h
 | agg l=>exact fun j x hj=>scal_inS (scals_get h hj)
theorem scal_res {D D':Dat} {ρ ρ':Rho} {rs:List V1} {v:Value} (h:scalsV rs=true) (hd:ResDen D ρ rs v):ResDen D' ρ' rs v:=by
 unfold ResDen at hd ⊢
 split at hd
 ·exact scalV_den (scalsV_get h (j:=0) (by simp)) hd
 ·obtain ⟨vs,e,h1,h2⟩:=hd
  exact ⟨vs,e,h1,fun j x hj=>let ⟨u,hu,hd⟩:=h2 j x hj;⟨u,hu,scalV_den (scalsV_get h hj) hd⟩⟩
def Lent (ρ:Rho) (k b:Nat):Prop:=∃ i,i<k∧(ρ i).2≠0∧(ρ i).1=b
noncomputable def lentD (D:Dat) (ρ:Rho) (w:World) (k:Nat):Dat:=fun b o=>if Lent ρ k b then w.cell? ⟨b,o,none⟩ else D b o
noncomputable def backD (D:Dat) (ρ:Rho) (k:Nat):Dat:=fun b o=>if Lent ρ k b then none else D b o
theorem allRows_get {l:List Blk} (h:allRows l=true):∀ {i:Nat} {b:Blk},l[i]?=some b→∃ e sz m f,b = .row e sz m f:=by
 induction l with
 | nil=>intro i b hi; simp at hi
 | cons x r ih =>
  intro i b hi
  cases x with
  | row e sz m f =>
   cases i with
   | zero=>simp at hi; exact ⟨e,sz,m,f,hi.symm⟩
   | succ i=>simp at hi; exact ih h hi
  | box e cs=>simp [allRows] at h
  | ob o=>simp [allRows] at h
theorem look_idxB:∀ (l:List Blk) (k id:Nat) (b:Blk),look (idxB k l) id=some b→k≤id∧l[id-k]?=some b
 | [],k,id,b,h=>by simp [idxB,look] at h
 | x::r,k,id,b,h=>by
  simp only [idxB,look] at h
  split at h
  ·rename_i e
   have e:=(beq_eq _ _).1 e
   subst e
   simp only [Option.some.injEq] at h
   subst h
   exact ⟨Nat.le_refl _,by simp⟩
  ·rename_i e
   have e:=(beq_ne _ _).1 e
   obtain ⟨h1,h2⟩:=look_idxB r (k+1) id b h
   refine ⟨by omega,?_⟩
   have:id-k=(id-(k+1))+1:=by omega
   rw [this];simpa using h2
section
variable {D:Dat} {ρ:Rho} {w:World} {hin:List Blk}
theorem lend_le (hsep:∀ (i:Nat) (b:Blk),hin[i]?=some b→Live ρ i b→∀ o,D (ρ i).1 o=none):DatLe D (lentD D ρ w hin.length):=by
 intro b o v hv
 unfold lentD
 rw [if_neg]
 ·exact hv
 ·rintro ⟨i,hi,h1,rfl⟩
  have:=hsep i hin[i] (by simp [hi]) h1 o
  rw [this] at hv;cases hv
theorem lend_den (hrow:∀ (i:Nat) (b:Blk),hin[i]?=some b→BlkSat D ρ i w b) (hle:DatLe D (lentD D ρ w hin.length)) {c:Cell} {u:Value} (hok:lokC hin c=true) (hvc:∀ p∈lvcC hin c,p) (hd:Den D ρ c u):Den (lentD D ρ w hin.length) rho0 (lendC hin c) u:=by
 have flat:∀ c:Cell,c.flat=true→Den D ρ c u→Den (lentD D ρ w hin.length) rho0 c u:=fun c hc hd=>Den.flat hc (Den.mono hle _ _ _ hd)
 cases c with
 | row sz id off n =>
  simp only [lokC,nth_eq] at hok
  split at hok
  ·rename_i e s m f hid
   have hs:=(beq_eq _ _).1 hok
   subst hs
   have hm:off+n≤m:=hvc _ (by simp [lvcC,nth_eq,hid])
   have hlt:id<hin.length:=by
    rcases Nat.lt_or_ge id hin.length with h | h
    ·exact h
    ·rw [List.getElem?_eq_none h] at hid;cases hid
   have sh:∀ i j,shiftF off f i j=f (off+i) j:=by
    intro i j;cases off<;>simp [shiftF]
   simp only [lendC,nth_eq,hid,Den]
   simp only [Den] at hd
   rcases hd with ⟨o,rfl,h1,h2⟩ | ⟨h0,_,rfl,ad,hsp,rfl⟩
   ·by_cases hz:(ρ id).2=0
    ·exact ⟨_,_,rfl,by omega,by omega,.inr ⟨_,_,rfl,fun i hi=>by omega⟩⟩
    ·rcases hrow id _ hid with hbk | ⟨vs,fz,q1,q2,q3,q4,q5,q6,q7,q8⟩
     ·exact (hz hbk.1).elim
     refine ⟨_,_,rfl,by omega,by omega,.inr ⟨_,_,rfl,fun i hi j hj => ?_⟩⟩
     have ho:o=off*s:=h2.resolve_right oM
     subst ho
     obtain ⟨u,hu,hdn⟩:=q8 (off+i) oM j hj
     refine ⟨u,?_,?_⟩
     ·unfold lentD
      rw [if_pos ⟨id,hlt,hz,rfl⟩]
      simp only [World.cell?,q1,Option.isSome_none,Bool.false_eq_true,if_false]
      rw [← hu,Nat.add_mul]
     ·rw [sh];exact Den.mono hle _ _ _ hdn
   ·refine ⟨ad,0,rfl,Nat.le_refl _,by omega,?_⟩
    rcases hsp with rfl | ⟨b,o,rfl⟩
    ·exact .inl rfl
    ·exact .inr ⟨b,o,rfl,fun i hi=>by omega⟩
  ·cases hok
 | _=>first | exact flat _ rfl hd | (simp [lokC,Cell.flat] at hok)
theorem lend_denL (hrow:∀ (i:Nat) (b:Blk),hin[i]?=some b→BlkSat D ρ i w b) (hle:DatLe D (lentD D ρ w hin.length)):∀ {l:List Cell},lokL hin l=true→(∀ p∈lvcL hin l,p)→∀ (j:Nat) (x:Cell),l[j]?=some x→lokC hin x=true∧∀ p∈lvcC hin x,p
 | [],_,_,j,x,hj=>by simp at hj
 | y::r,hok,hvc,0,x,hj=>by
  simp at hj;subst hj
  exact ⟨(bAnd_eq hok).1,fun p hp=>hvc p (by simp [lvcL,hp])⟩
 | y::r,hok,hvc,j+1,x,hj=>by
  simp at hj
  exact lend_denL hrow hle (bAnd_eq hok).2 (fun p hp=>hvc p (by simp [lvcL,hp])) j x hj
theorem lend_denV (hrow:∀ (i:Nat) (b:Blk),hin[i]?=some b→BlkSat D ρ i w b) (hle:DatLe D (lentD D ρ w hin.length)):∀ {l:List V1},lokV hin l=true→(∀ p∈lvcV hin l,p)→∀ (j:Nat) (x:V1),l[j]?=some x→∀ u,DenV D ρ x u→DenV (lentD D ρ w hin.length) rho0 (lendV hin x) u
 | [],_,_,j,x,hj=>by simp at hj
 | y::r,hok,hvc,0,x,hj=>by
  simp at hj;subst hj
  intro u hd
  cases y with
  | c y=>exact lend_den hrow hle (bAnd_eq hok).1 (fun p hp=>hvc p (by simp [lvcV,hp])) hd
  | agg l =>
   obtain ⟨us,e,hs,hx⟩:=hd
   refine ⟨us,e,by simp [mapL_eq,hs],fun j x hj => ?_⟩
   rw [mapL_eq,List.getElem?_map,Option.map_eq_some_iff] at hj
   obtain ⟨z,hz,rfl⟩:=hj
   obtain ⟨u,hu,hd⟩:=hx j z hz
   obtain ⟨k1,k2⟩:=lend_denL hrow hle (bAnd_eq hok).1 (fun p hp=>hvc p (by simp [lvcV,hp])) j z hz
   exact ⟨u,hu,lend_den hrow hle k1 k2 hd⟩
 | y::r,hok,hvc,j+1,x,hj=>by
  simp at hj
  intro u hd
  cases y with
  | c y=>exact lend_denV hrow hle (bAnd_eq hok).2 (fun p hp=>hvc p (by simp [lvcV,hp])) j x hj u hd
  | agg l=>exact lend_denV hrow hle (bAnd_eq hok).2 (fun p hp=>hvc p (by simp [lvcV,hp])) j x hj u hd
end
theorem Pur.lend {P:Program} {G:Nat→Option (List Cell)} {f:FuncId} (hin:List Blk) (args:List V1) {rs:List V1} (h:Pur P G f (mapL (lendV hin) args) rs) (hr:allRows hin=true) (hok:lokV hin args=true) (hs:scalsV rs=true) (hvc:AllP (lvcV hin args)) :
  Fn P G f hin args (fun r o=>r=rs∧o=idxB 0 hin):=by
 intro D ρ w vs h1 h2 hgw h3 h4 h5
 have hvc:=fun p hp=>AllP.mem hvc p hp
 have hrow:∀ (i:Nat) (b:Blk),hin[i]?=some b→BlkSat D ρ i w b:=fun i b hi=>(h4 i b hi).1
 have hle:=lend_le (w:=w) (fun i b hi=>(h4 i b hi).2)
 have key:=lend_denV hrow hle hok hvc
 have hag:Agree (lentD D ρ w hin.length) w:=by
  intro b o v hv
  unfold lentD at hv
  split at hv
  ·exact hv
  ·exact h3 b o v hv
 have hsz:∀ b,Lent ρ hin.length b→b<w.heap.size:=by
  rintro b ⟨i,hi,h0,rfl⟩
  obtain ⟨e,sz,m,g,hb⟩:=allRows_get hr (i:=i) (b:=hin[i]) (by simp [hi])
  have:=hrow i _ (by simp [hi];exact hb)
  rcases this with hbk | ⟨vs,fz,q1,_⟩
  ·exact (h0 hbk.1).elim
  ·rcases Nat.lt_or_ge (ρ i).1 w.heap.size with hh | hh
   ·exact hh
   ·rw [Array.getElem?_eq_none hh] at q1;cases q1
 refine (h (lentD D ρ w hin.length) rho0 w vs ⟨by simp [mapL_eq,h1.1],fun j x hj => ?_⟩ (fun g cs hg j x hx=>let ⟨u,hu,hd⟩:=h2 g cs hg j x hx;⟨u,hle _ _ _ hu,Den.mono hle _ _ _ hd⟩) hgw hag (fun i b hi=>by simp at hi) (fun i j bi bj hi=>by simp at hi)).mono ?_
 ·rw [mapL_eq,List.getElem?_map,Option.map_eq_some_iff] at hj
  obtain ⟨y,hy,rfl⟩:=hj
  obtain ⟨u,hu,hd⟩:=h1.2 j y hy
  exact ⟨u,hu,key j y hy u hd⟩
 ·rintro e w' ⟨rs',ho,D',ρ',v,rfl,⟨rfl,rfl⟩,hres,_,hA⟩
  have hD:∀ b o v,lentD D ρ w hin.length b o=some v→D' b o=some v:=hA.le
  have hDD:DatLe D (backD D' ρ hin.length):=by
   intro b o v hv
   have hv':=hle b o v hv
   unfold backD
   rw [if_neg]
   ·exact hD b o v hv'
   ·rintro ⟨i,hi,h0,rfl⟩
    have:=(h4 i hin[i] (by simp [hi])).2 h0 o
    rw [this] at hv;cases hv
  have hfr:∀ b,b<w.heap.size→w'.heap[b]?=w.heap[b]?:=fun b hb=>hA.frame b hb (fun i hi=>by simp at hi)
  have hget:∀ id b,look (idxB 0 hin) id=some b→id<hin.length∧hin[id]?=some b:=by
   intro id b hb
   obtain ⟨_,hb⟩:=look_idxB hin 0 id b hb
   rw [Nat.sub_zero] at hb
   refine ⟨?_,hb⟩
   rcases Nat.lt_or_ge id hin.length with hh | hh
   ·exact hh
   ·rw [List.getElem?_eq_none hh] at hb;cases hb
  refine ⟨rs',idxB 0 hin,backD D' ρ hin.length,ρ,v,rfl,⟨rfl,rfl⟩,scal_res hs hres,fun j x hj=>scalV_inS (scalsV_get hs hj),?_⟩
  exact {
   hp:=by
    intro id b hb
    obtain ⟨hi,hb⟩:=hget id b hb
    obtain ⟨e,sz,m,g,rfl⟩:=allRows_get hr hb
    rcases hrow id _ hb with hbk | ⟨vs,fz,q1,q2,q3,q4,q5,q6,q7,q8⟩
    ·exact .inl hbk
    ·have hlt:(ρ id).1<w.heap.size:=by
      rcases Nat.lt_or_ge (ρ id).1 w.heap.size with hh | hh
      ·exact hh
      ·rw [Array.getElem?_eq_none hh] at q1;cases q1
     exact .inr ⟨vs,fz,(hfr _ hlt).trans q1,q2,q3,q4,q5,q6,q7,fun i hi j hj=>let ⟨u,hu,hd⟩:=q8 i hi j hj;⟨u,hu,Den.mono hDD _ _ _ hd⟩⟩
   inj:=fun i j bi bj hi hj li lj e=>h5 i j bi bj (hget i bi hi).2 (hget j bj hj).2 li lj e
   sep:=by
    intro id b hb hl o
    unfold backD
    rw [if_pos ⟨id,(hget id b hb).1,hl,rfl⟩]
   agree:=by
    intro b o v hv
    unfold backD at hv
    split at hv
    ·cases hv
    ·exact hA.agree b o v hv
   le:=hDD
   kin:=fun i hi=>rfl
   own:=fun id b hb hl => .inr ⟨id,(hget id b hb).1,hl,rfl⟩
   newD:=by
    intro b o v hv
    unfold backD at hv
    split at hv
    ·cases hv
    ·rename_i hnl
     rcases hA.newD b o v hv with hh | hh | ⟨i,hi,_⟩
     ·unfold lentD at hh
      rw [if_neg hnl] at hh
      exact .inl hh
     ·exact .inr (.inl hh)
     ·simp at hi
   frame:=fun b hb _=>hfr b hb
   os:=hA.os
   tape:=hA.tape
   output:=hA.output
   grow:=hA.grow
   drawn:=hA.drawn
   ids:=by
    intro id b hb
    obtain ⟨e,sz,m,g,rfl⟩:=allRows_get hr (hget id b hb).2
    trivial }
def lc {P:Program} {G:Nat→Option (List Cell)} {f:FuncId} {rs:List V1} (m:List Nat) (hin:List Blk) (args:List V1) (h:Pur P G f (mapL (lendV hin) args) rs) (hr:allRows hin=true) (hok:lokV hin args=true) (hs:scalsV rs=true) (hvc:AllP (lvcV hin args)):CallE P G :=
 ⟨f,m,args,hin,rs,idxB 0 hin,Pur.lend hin args h hr hok hs hvc⟩
end Go.Sv
end
section
namespace Go.Sv
def rowF {α:Type} (enc:α→List Cell) (d:α) (l:List α):Nat→Nat→Cell:=fun i j=>nthD (enc (l.getD i d)) j
theorem nthD_app_lt {a b:List Cell} {j:Nat} (h:j<a.length):nthD (a++b) j=nthD a j:=by
 simp only [nthD,nth_eq,List.getElem?_append,h,if_true]
theorem nthD_app_ge {a b:List Cell} {j:Nat} (h:a.length≤j):nthD (a++b) j=nthD b (j-a.length):=by
 simp only [nthD,nth_eq,List.getElem?_append]
 rw [if_neg oM]
section
variable {α:Type} {enc:α→List Cell} {d:α} {sz:Nat}
theorem enc_app {e:TypeId} {k:Nat} (l:List α) (x:α) (hk:k=l.length):BlkEqv (.row e sz (k+1) (catF k (rowF enc d l) (fun i j=>nthD (enc x) ((0+i)*sz+j)))) (.row e sz (k+1) (rowF enc d (l++[x]))):=by
 refine BlkEqv.row_ext rfl fun i hi j hj => ?_
 subst hk
 unfold catF rowF
 split
 ·rename_i h;simp only [List.getD,List.getElem?_append,h,if_true]
 ·have h1:i=l.length:=by omega
  subst h1
  simp [List.getD]
theorem enc_cat {e:TypeId} {k m:Nat} (l r:List α) (hk:k=l.length) (hm:m=r.length):BlkEqv (.row e sz (k+m) (catF k (rowF enc d l) (rowF enc d r))) (.row e sz (k+m) (rowF enc d (l++r))):=by
 refine BlkEqv.row_ext rfl fun i hi j hj => ?_
 subst hk hm
 unfold catF rowF
 split
 ·rename_i h;simp only [List.getD,List.getElem?_append,h,if_true]
 ·rename_i h
  simp only [List.getD,List.getElem?_append,h,if_false]
end
theorem eqvI_flat (v v':V1) (h:flats v'.cells=true):EqvI v v':=by
 intro S _
 cases v' with
 | c x=>exact Cell.inS_flat (flats_get (l:=[x]) h (j:=0) (by simp))
 | agg l=>exact fun j x hj=>Cell.inS_flat (flats_get h hj)
theorem eqvD_of {v v':V1} (h:v=v'):EqvD v v':=fun _ _ _ hd=>h▸hd
end Go.Sv
end
section
open Go Go.Sv
namespace Go.Proofs.Tw
attribute [local irreducible] Wp FinQ resV Ent Pur Go.Sv.Fn Sat0
set_option maxRecDepth 100000
variable {G:Nat→Option (List Cell)}
theorem cc_a:FnB Tryz.prog G 187 [.box 165 [.nilptr,.nilsl]] [.c (.ptr 0 0)] [] [(0,.box 165 [.ptr 0 0,.nilsl])]:=by
 refine zf Tryz.func187 ?_
 refine zg [] [true] [true=true] rfl ?_
 exact zb []
theorem cc_b (n:Nat) (l:List UInt8):FnB Tryz.prog G 187 [.box 165 [.ptr 0 0,.row 1 1 0 n],.row 5 1 n (bytesF l)] [.c (.ptr 0 0)] [] [(0,.box 165 [.ptr 0 0,.row 1 1 0 n]),(1,.row 5 1 n (bytesF l))]:=by
 refine zf Tryz.func187 ?_
 refine zg [] [false,false] [false=false,false=false] ⟨rfl,rfl⟩ ?_
 exact zb []
theorem wb_a (c:UInt8):FnB Tryz.prog G 143 [.box 165 [.nilptr,.nilsl]] [.c (.ptr 0 0),.c (.int .u8 (c.toNat:Int))] [.c .nilif] [(0,.box 165 [.ptr 0 0,.row 1 1 0 1]),(1,.row 5 1 1 (bytesF [c]))]:=by
 refine zf Tryz.func143 ?_
 refine zg [(1,{cs:=[(1,cb [0] cc_a)]}),(2,{bs:=[(7,.row 5 1 1 (bytesF [c]))]})] [] [1*1≤140737488355328,BlkEqv (.row 5 1 1 (catF 0 (fun _ _ => .nilif) (fun i j=>nthD [.int .u8 (c.toNat:Int)] ((0+i)*1+j)))) (.row 5 1 1 (bytesF [c])),1≤1] ⟨by decide,?_,Nat.le_refl _⟩ ?_
 ·refine BlkEqv.row_ext rfl fun i hi j hj => ?_
  obtain ⟨rfl,rfl⟩:i=0∧j=0:=by omega
  rfl
 exact zb [161]
theorem wb_b (n:Nat) (l:List UInt8) (hn:n=l.length) (hm:n+1≤140737488355328) (c:UInt8):FnB Tryz.prog G 143 [.box 165 [.ptr 0 0,.row 1 1 0 n],.row 5 1 n (bytesF l)] [.c (.ptr 0 0),.c (.int .u8 (c.toNat:Int))] [.c .nilif]
  [(0,.box 165 [.ptr 0 0,.row 1 2 0 (n+1)]),(2,.row 5 1 (n+1) (bytesF (l++[c])))]:=by
 refine zf Tryz.func143 ?_
 refine zg [(1,{cs:=[(1,cb [0,1] (cc_b n l))]}),(2,{bs:=[(7,.row 5 1 (n+1) (bytesF (l++[c])))]})] [] [(n+1)*1≤140737488355328,BlkEqv (.row 5 1 (n+1) (catF n (bytesF l) (fun i j=>nthD [.int .u8 (c.toNat:Int)] ((0+i)*1+j)))) (.row 5 1 (n+1) (bytesF (l++[c]))),n≤n,1≤1] ⟨by omega,?_,Nat.le_refl _,Nat.le_refl _⟩ ?_
 ·refine BlkEqv.row_ext rfl fun i hi j hj => ?_
  rw [← catF_bytes l [c] hn]
  unfold catF
  split
  ·rfl
  ·obtain ⟨h1,rfl⟩:i=n∧j=0:=by omega
   subst h1
   rw [Nat.sub_self];rfl
 exact zb [162]
theorem str_b (n:Nat) (l:List UInt8) (hn:n=l.length) (h0:0<n) (hm:n≤140737488355328):FnB Tryz.prog G 144 [.box 165 [.ptr 0 0,.row 1 1 0 n],.row 5 1 n (bytesF l)] [.c (.ptr 0 0)] [.c (.str l)]
  []:=by
 refine zf Tryz.func144 ?_
 refine zg [(1,{fm:=[(10,.c (.str l))]})] [] [0<n,(0:Int)<(n:Int),n≤n,(n:Int)≤9223372036854775807,areBytes (bytesF l) 0 n,EqvI (.c (.str (byteL (bytesF l) 0 n))) (.c (.str l)),EqvD (.c (.str (byteL (bytesF l) 0 n))) (.c (.str l))] ⟨h0,by omega,Nat.le_refl _,by omega,areBytes_F _ _ _,by rw [byteL_F l hn];exact fun _ h=>h,by rw [byteL_F l hn];exact fun _ _ _ h=>h⟩ ?_
 exact zb []
end Go.Proofs.Tw
end
section
open Go Go.Sv
namespace Go.Proofs.Tw
attribute [local irreducible] Wp FinQ resV Ent Pur Go.Sv.Fn Sat0
set_option maxRecDepth 100000
variable {G:Nat→Option (List Cell)}
end Go.Proofs.Tw
end
section
open Go Go.Sv
namespace Go.Proofs.Tw
attribute [local irreducible] Wp FinQ resV Ent Pur Go.Sv.Fn Sat0
set_option maxRecDepth 100000
variable {G:Nat→Option (List Cell)}
end Go.Proofs.Tw
end
section
open Go Go.Sv
namespace Go.Proofs.Tw
attribute [local irreducible] Wp FinQ resV Ent Pur Go.Sv.Fn Sat0
set_option maxRecDepth 100000
variable {G:Nat→Option (List Cell)}
end Go.Proofs.Tw
end
section
open Go Go.Sv
namespace Go.Proofs.Tw
attribute [local irreducible] Wp FinQ resV Ent Pur Go.Sv.Fn Sat0
set_option maxRecDepth 100000
variable {G:Nat→Option (List Cell)}
end Go.Proofs.Tw
end
