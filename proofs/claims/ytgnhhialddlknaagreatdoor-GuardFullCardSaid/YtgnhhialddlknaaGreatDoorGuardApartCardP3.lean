/- Own texts for this claim: SvComm, SvDraw, SvCode, SvFn, SvAdv, SvEnt, SvShelf, SvBytes, SvArgs, SvUnr, SvShort, SvDefer, SvDefX, SvKeep, SvLend, SvRow, SvRead, SvErr, SvLit. -/
import Derived.Test.YtgnhhialddlknaaGreatDoorGuardApartCardP2
import Derived.Scope
import Derived.KernelRfl
import Derived.ChangeSame
import Derived.RowKit3
import Derived.Lib.LaidTab
import GoSem.ClaimJoined
import Derived.OpenShut
import Derived.ChangeArms
import Derived.Defers
import Derived.ChangeSlices
set_option linter.all false
section
namespace Go.Sv
open M
def clash:Key→Key→Bool
 | .tm a,.tm b=>Nat.beq a b
 | .cl i o,.cl j p=>bAnd (Nat.beq i j) (Nat.beq o p)
 | .cl i _,.bk j=>Nat.beq i j
 | .bk i,.cl j _=>Nat.beq i j
 | .bk i,.bk j=>Nat.beq i j
 | _,_=>false
def StEq (st st':St):Prop:=(∀ t,look st.tm t=look st'.tm t)∧(∀ id,look st.hp id=look st'.hp id)
theorem StEq.refl (st:St):StEq st st:=⟨fun _=>rfl,fun _=>rfl⟩
theorem StEq.trans {a b c:St} (h:StEq a b) (k:StEq b c):StEq a c:=⟨fun t=>(h.1 t).trans (k.1 t),fun t=>(h.2 t).trans (k.2 t)⟩
theorem StEq.get {a b:St} (h:StEq a b):a.get=b.get:=by
 funext k
 cases k with
 | tm t=>simp only [St.get,h.1]
 | cl id off=>simp only [St.get,h.2]
 | bk id=>simp only [St.get,h.2]
theorem set_tm {st:St} {k:Key} {v:KV} (t:Nat):look (st.set k v).tm t=(match k,v with
  | .tm a,.tv x=>if a=t then some x else look st.tm t
  | .tm a,.gone=>if a=t then none else look st.tm t
  | _,_=>look st.tm t):=by
 cases k<;>cases v<;>simp only [St.set]<;>first | rfl | exact look_put _ _ _ _ | exact look_del _ _ _ | (split<;>rfl)
theorem set_hp {st:St} {k:Key} {v:KV} (id:Nat):look (st.set k v).hp id=(match k,v with
  | .cl i o,.cl x=>if i=id then (match look st.hp i with | some (.box e cs)=>some (.box e (cs.set o x)) | b=>b) else look st.hp id
  | .bk i,.bk b=>if i=id then some b else look st.hp id
  | .bk i,.gone=>if i=id then none else look st.hp id
  | _,_=>look st.hp id):=by
 cases k<;>cases v<;>simp only [St.set]<;>first | rfl | exact look_put _ _ _ _ | exact look_del _ _ _ | skip
 rename_i i o x
 cases hl:look st.hp i with
 | none=>simp only; split<;>simp_all
 | some b =>
  cases b with
  | box e cs =>
   simp only [look_put,setNth_eq]
  | row e sz n f=>simp only; split<;>simp_all
  | ob o=>simp only; split<;>simp_all
theorem StEq.set {a b:St} (h:StEq a b) (k:Key) (v:KV):StEq (a.set k v) (b.set k v):=by
 constructor
 ·intro t;rw [set_tm,set_tm];cases k<;>cases v<;>simp only [h.1]
 ·intro id;rw [set_hp,set_hp];cases k<;>cases v<;>simp only [h.2]
theorem StEq.sets {a b:St} (h:StEq a b) (l:List (Key×KV)):StEq (a.sets l) (b.sets l):=by
 induction l generalizing a b with
 | nil=>exact h
 | cons p r ih=>obtain ⟨k,v⟩:=p; exact ih (h.set k v)
theorem bAnd_false {a b:Bool} (h:bAnd a b=false):a=false∨b=false:=by cases a<;>cases b<;>simp_all [bAnd]
theorem set_comm {st:St} {k k':Key} {v v':KV} (hc:clash k k'=false):StEq ((st.set k v).set k' v') ((st.set k' v').set k v):=by
 constructor
 ·intro t
  rw [set_tm,set_tm,set_tm,set_tm]
  cases k<;>cases k'<;>cases v<;>cases v'<;>simp only []<;>(try rfl)
  all_goals (simp only [clash] at hc;have hne:=(beq_ne _ _).1 hc;split<;>split<;>first | rfl | (subst_vars;exact absurd rfl hne))
 ·intro id
  rw [set_hp,set_hp]
  cases k<;>cases k'<;>cases v<;>cases v'<;>simp only [set_hp]<;>(try rfl)
  all_goals (simp only [clash] at hc)
  case cl.cl.cl.cl i o j p x y =>
   rcases bAnd_false hc with hne | hne
   ·have hne:=(beq_ne _ _).1 hne
    by_cases e1:j=id
    ·subst e1;rw [if_pos rfl,if_neg hne,if_neg hne,if_pos rfl]
    ·rw [if_neg e1]
     by_cases e2:i=id
     ·subst e2;rw [if_pos rfl,if_pos rfl,if_neg (Ne.symm hne)]
     ·rw [if_neg e2,if_neg e2,if_neg e1]
   ·have hne:=(beq_ne _ _).1 hne
    by_cases e:i=j
    ·subst e
     by_cases e1:i=id
     ·subst e1
      simp only [if_true]
      cases hl:look st.hp i with
      | none=>rfl
      | some b =>
       cases b with
       | box e cs=>simp only; rw [List.set_comm _ _ hne]
       | row e sz n f=>rfl
       | ob o=>rfl
     ·simp only [if_neg e1]
    ·by_cases e1:j=id
     ·subst e1;rw [if_pos rfl,if_neg e,if_neg e,if_pos rfl]
     ·rw [if_neg e1]
      by_cases e2:i=id
      ·subst e2;rw [if_pos rfl,if_pos rfl,if_neg (Ne.symm e)]
      ·rw [if_neg e2,if_neg e2,if_neg e1]
  all_goals
   have hne:=(beq_ne _ _).1 hc
   clear hc
   (repeat' split)<;>simp_all
end Go.Sv
end
section
namespace Go.Sv
open M
theorem clash_symm (a b:Key):clash a b=clash b a:=by
 have nb:∀ x y:Nat,Nat.beq x y=Nat.beq y x:=by
  intro x y
  cases h:Nat.beq x y
  ·exact ((beq_ne _ _).2 (Ne.symm ((beq_ne _ _).1 h))).symm
  ·exact ((beq_eq _ _).2 ((beq_eq _ _).1 h).symm).symm
 cases a<;>cases b<;>simp only [clash,nb]
theorem set_get {st:St} {k k':Key} {v:KV} (hc:clash k k'=false):(st.set k v).get k'=st.get k':=by
 cases k' with
 | tm t =>
  simp only [St.get,set_tm]
  cases k<;>cases v<;>simp only []<;>(try rfl)
  all_goals (simp only [clash] at hc;have hne:=(beq_ne _ _).1 hc;rw [if_neg hne])
 | bk id =>
  simp only [St.get,set_hp]
  cases k<;>cases v<;>simp only []<;>(try rfl)
  all_goals (simp only [clash] at hc;have hne:=(beq_ne _ _).1 hc;rw [if_neg hne])
 | cl id off =>
  simp only [St.get,set_hp]
  cases k<;>cases v<;>simp only []<;>(try rfl)
  all_goals (simp only [clash] at hc)
  case cl.cl i o x =>
   by_cases e:i=id
   ·subst e
    rw [if_pos rfl]
    rcases bAnd_false hc with h | h
    ·exact absurd rfl ((beq_ne _ _).1 h)
    ·have hne:=(beq_ne _ _).1 h
     cases hl:look st.hp i with
     | none=>rfl
     | some b =>
      cases b with
      | box e cs=>simp only [nth_eq,List.getElem?_set,if_neg hne]
      | row e sz n f=>rfl
      | ob o=>rfl
   ·rw [if_neg e]
  all_goals (have hne:=(beq_ne _ _).1 hc;rw [if_neg hne])
def clashA (k:Key):List Key→Bool
 | []=>false
 | x::r=>match clash k x with
  | true=>true
  | false=>clashA k r
def clashL:List (Key×KV)→List Key→Bool
 | [],_=>false
 | (k,_)::r,l=>match clashA k l with
  | true=>true
  | false=>clashL r l
def keysOf:List (Key×KV)→List Key
 | []=>[]
 | (k,_)::r=>k::keysOf r
theorem clashA_no {k:Key}:∀ {l:List Key},clashA k l=false→∀ x∈l,clash k x=false
 | [],_,x,hx=>by simp at hx
 | y::r,h,x,hx=>by
  simp only [clashA] at h
  cases hc:clash k y with
  | true=>simp [hc] at h
  | false =>
   rw [hc] at h
   rcases List.mem_cons.1 hx with rfl | hx
   ·exact hc
   ·exact clashA_no h x hx
theorem clashL_no {l:List Key}:∀ {w:List (Key×KV)},clashL w l=false→∀ p∈w,∀ x∈l,clash p.1 x=false
 | [],_,p,hp=>by simp at hp
 | (k,v)::r,h,p,hp=>by
  simp only [clashL] at h
  cases hc:clashA k l with
  | true=>simp [hc] at h
  | false =>
   rw [hc] at h
   rcases List.mem_cons.1 hp with rfl | hp
   ·exact clashA_no hc
   ·exact clashL_no h p hp
theorem keysOf_mem {w:List (Key×KV)} {p:Key×KV} (h:p∈w):p.1∈keysOf w:=by
 induction w with
 | nil=>simp at h
 | cons q r ih =>
  simp only [keysOf,List.mem_cons]
  rcases List.mem_cons.1 h with rfl | h
  ·exact .inl rfl
  ·exact .inr (ih h)
theorem sets_get {k':Key}:∀ {l:List (Key×KV)} {st:St},(∀ p∈l,clash p.1 k'=false)→(st.sets l).get k'=st.get k'
 | [],st,_=>rfl
 | (k,v)::r,st,h=>by
  simp only [St.sets]
  rw [sets_get (fun p hp=>h p (by simp [hp])),set_get (h (k,v) (by simp))]
theorem sets_set_comm {k:Key} {v:KV}:∀ {l:List (Key×KV)} {st:St},(∀ p∈l,clash k p.1=false)→StEq ((st.set k v).sets l) ((st.sets l).set k v)
 | [],st,_=>StEq.refl _
 | (k',v')::r,st,h=>by
  simp only [St.sets]
  exact ((set_comm (h (k',v') (by simp))).sets r).trans (sets_set_comm (fun p hp=>h p (by simp [hp])))
theorem sets_comm {m:List (Key×KV)}:∀ {l:List (Key×KV)} {st:St},(∀ p∈l,∀ q∈m,clash p.1 q.1=false)→StEq ((st.sets l).sets m) ((st.sets m).sets l)
 | [],st,_=>StEq.refl _
 | (k,v)::r,st,h=>by
  simp only [St.sets]
  refine (sets_comm (l:=r) (fun p hp q hq=>h p (by simp [hp]) q hq)).trans ?_
  exact (sets_set_comm (fun q hq=>h (k,v) (by simp) q hq)).sets r
abbrev Log:=List Key×(Eff×Eqs)
def indep (x y:Log):Bool:=match clashL x.2.1.wr y.1 with
 | true=>false
 | false=>match clashL y.2.1.wr x.1 with
  | true=>false
  | false=>match clashL x.2.1.wr (keysOf y.2.1.wr) with
   | true=>false
   | false=>true
theorem indep_spec {x y:Log} (h:indep x y=true):(∀ p∈x.2.1.wr,∀ k∈y.1,clash p.1 k=false)∧(∀ p∈y.2.1.wr,∀ k∈x.1,clash p.1 k=false)∧∀ p∈x.2.1.wr,∀ q∈y.2.1.wr,clash p.1 q.1=false:=by
 unfold indep at h
 split at h
 ·cases h
 ·rename_i h1
  split at h
  ·cases h
  ·rename_i h2
   split at h
   ·cases h
   ·rename_i h3
    exact ⟨clashL_no h1,clashL_no h2,fun p hp q hq=>clashL_no h3 p hp _ (keysOf_mem hq)⟩
section
variable {E:Env} {cs:List (Nat×CallE E.P E.G)} {base:Nat} {ops:List Oper} {L:Nat→Log}
inductive Exe (E:Env) (cs:List (Nat×CallE E.P E.G)) (base:Nat) (ops:List Oper) (L:Nat→Log):List Nat→St→St→Prop
 | nil (st:St):Exe E cs base ops L [] st st
 | cons (i:Nat) (o:Oper) (l:List Nat) (st st':St):ops[i]?=some o→opM E cs i (base+16*i) o st.get=some ((L i).2,(L i).1)→Exe E cs base ops L l (st.sets (L i).2.1.wr) st'→Exe E cs base ops L (i::l) st st'
theorem Exe.eqv:∀ {l:List Nat} {st st1 st':St},Exe E cs base ops L l st st'→StEq st st1→∃ st1',Exe E cs base ops L l st1 st1'∧StEq st' st1':=by
 intro l
 induction l with
 | nil=>intro st st1 st' h e; cases h; exact ⟨st1,.nil _,e⟩
 | cons i r ih =>
  intro st st1 st' h e
  cases h with
  | cons _ o _ _ _ ho hm hr =>
   obtain ⟨st1',h1,e1⟩:=ih hr (e.sets (L i).2.1.wr)
   exact ⟨st1',.cons i o r st1 st1' ho (by rw [← e.get];exact hm) h1,e1⟩
theorem Exe.swap {i j:Nat} {r:List Nat} {st st':St} (hi:indep (L i) (L j)=true) (h:Exe E cs base ops L (i::j::r) st st'):∃ st1,Exe E cs base ops L (j::i::r) st st1∧StEq st' st1:=by
 obtain ⟨q1,q2,q3⟩:=indep_spec hi
 cases h with
 | cons _ oi _ _ _ hoi hmi hr =>
  cases hr with
  | cons _ oj _ _ _ hoj hmj hr =>
   have hmj':opM E cs j (base+16*j) oj st.get=some ((L j).2,(L j).1) :=
    loc_op oj _ _ _ _ hmj (fun k hk=>(sets_get (fun p hp=>q1 p hp k hk)).symm)
   have hmi':opM E cs i (base+16*i) oi (st.sets (L j).2.1.wr).get=some ((L i).2,(L i).1) :=
    loc_op oi _ _ _ _ hmi (fun k hk=>sets_get (fun p hp=>q2 p hp k hk))
   obtain ⟨st1,h1,e1⟩:=hr.eqv (sets_comm (st:=st) q3)
   exact ⟨st1,.cons j oj _ _ _ hoj hmj' (.cons i oi _ _ _ hoi hmi' h1),e1⟩
theorem Exe.move {i:Nat}:∀ {p q:List Nat} {st st':St},(∀ x∈p,indep (L i) (L x)=true)→Exe E cs base ops L (i::(p++q)) st st'→∃ st1,Exe E cs base ops L (p++i::q) st st1∧StEq st' st1:=by
 intro p
 induction p with
 | nil=>intro q st st' _ h; exact ⟨st',h,StEq.refl _⟩
 | cons x p ih =>
  intro q st st' hx h
  obtain ⟨st1,h1,e1⟩:=Exe.swap (r:=p++q) (hx x (by simp)) h
  cases h1 with
  | cons _ o _ _ _ ho hm hr =>
   obtain ⟨st2,h2,e2⟩:=ih (fun y hy=>hx y (by simp [hy])) hr
   exact ⟨st2,.cons x o _ _ _ ho hm h2,e1.trans e2⟩
theorem Exe.any {prec:Nat→Nat→Prop}:∀ {t l:List Nat} {st st':St},t.Nodup→l.Nodup→(∀ x,x∈l↔x∈t)→t.Pairwise (fun a b=>¬ prec b a)→l.Pairwise (fun a b=>¬ prec b a) →
  (∀ a∈t,∀ b∈t,a≠b→¬ prec a b→¬ prec b a→indep (L a) (L b)=true)→Exe E cs base ops L t st st'→∃ st1,Exe E cs base ops L l st st1∧StEq st' st1:=by
 intro t
 induction t with
 | nil =>
  intro l st st' _ _ hm _ _ _ h
  have:l=[]:=List.eq_nil_iff_forall_not_mem.2 (fun x hx=>by simpa using (hm x).1 hx)
  subst this
  exact ⟨st',h,StEq.refl _⟩
 | cons i t ih =>
  intro l st st' hnt hnl hm hpt hpl hind h
  have hil:i∈l:=(hm i).2 (by simp)
  obtain ⟨p,q,rfl⟩:=List.append_of_mem hil
  have hip:i∉p∧i∉q:=by
   have:=List.nodup_append.1 hnl
   refine ⟨fun hh => ?_,(List.nodup_cons.1 this.2.1).1⟩
   exact this.2.2 i hh i (by simp) rfl
  have hnt':=List.nodup_cons.1 hnt
  have hpt':=List.pairwise_cons.1 hpt
  have hpl':=List.pairwise_append.1 hpl
  cases h with
  | cons _ o _ _ _ ho hmm hr =>
   have hnd:(p++q).Nodup:=by
    have:=List.nodup_append.1 hnl
    exact List.nodup_append.2 ⟨this.1,(List.nodup_cons.1 this.2.1).2,fun a ha b hb=>this.2.2 a ha b (by simp [hb])⟩
   have hmem:∀ x,x∈p++q↔x∈t:=by
    intro x
    constructor
    ·intro hx
     have h1:x∈p++i::q:=by
      rcases List.mem_append.1 hx with h | h
      ·exact List.mem_append.2 (.inl h)
      ·exact List.mem_append.2 (.inr (by simp [h]))
     rcases List.mem_cons.1 ((hm x).1 h1) with rfl | h2
     ·rcases List.mem_append.1 hx with h | h
      ·exact (hip.1 h).elim
      ·exact (hip.2 h).elim
     ·exact h2
    ·intro hx
     have h1:=(hm x).2 (by simp [hx])
     rcases List.mem_append.1 h1 with h | h
     ·exact List.mem_append.2 (.inl h)
     ·rcases List.mem_cons.1 h with rfl | h
      ·exact (hnt'.1 hx).elim
      ·exact List.mem_append.2 (.inr h)
   have hpw:(p++q).Pairwise (fun a b=>¬ prec b a) :=
    List.pairwise_append.2 ⟨hpl'.1,(List.pairwise_cons.1 hpl'.2.1).2,fun a ha b hb=>hpl'.2.2 a ha b (by simp [hb])⟩
   obtain ⟨st1,h1,e1⟩:=ih hnt'.2 hnd hmem hpt'.2 hpw (fun a ha b hb=>hind a (by simp [ha]) b (by simp [hb])) hr
   have h2:Exe E cs base ops L (i::(p++q)) st st1 := .cons i o _ _ _ ho hmm h1
   obtain ⟨st2,h3,e3⟩:=Exe.move (fun x hx=>by
    have hxt:x∈t:=(hmem x).1 (List.mem_append.2 (.inl hx))
    have hne:i≠x:=fun e=>hip.1 (e▸hx)
    refine hind i (by simp) x (by simp [hxt]) hne ?_ (hpt'.1 x hxt)
    exact hpl'.2.2 x hx i (by simp)) h2
   exact ⟨st2,h3,e1.trans e3⟩
theorem Exe.split {p q:List Nat} {st st':St} (h:Exe E cs base ops L (p++q) st st'):∃ s,Exe E cs base ops L p st s∧Exe E cs base ops L q s st':=by
 induction p generalizing st with
 | nil=>exact ⟨st,.nil _,h⟩
 | cons i p ih =>
  cases h with
  | cons _ o _ _ _ ho hm hr =>
   obtain ⟨s,h1,h2⟩:=ih hr
   exact ⟨s,.cons i o _ _ _ ho hm h1,h2⟩
theorem Exe.det {l:List Nat} {st a b:St} (h:Exe E cs base ops L l st a) (k:Exe E cs base ops L l st b):a=b:=by
 induction h with
 | nil=>cases k; rfl
 | cons i o r s s' ho hm hr ih =>
  cases k with
  | cons _ o' _ _ _ ho' hm' hr'=>exact ih hr'
theorem Exe.snoc {l:List Nat} {i:Nat} {o:Oper} {st s:St} (h:Exe E cs base ops L l st s) (ho:ops[i]?=some o) (hm:opM E cs i (base+16*i) o s.get=some ((L i).2,(L i).1)):Exe E cs base ops L (l++[i]) st (s.sets (L i).2.1.wr):=by
 induction h with
 | nil s=>exact .cons i o [] _ _ ho hm (.nil _)
 | cons j oj r s1 s2 hoj hmj hr ih=>exact .cons j oj _ _ _ hoj hmj (ih hm)
end
def nth0 (l:List Nat) (i:Nat):Nat:=match nth l i with
 | some x=>x
 | none=>0
def maskE (acc:List Nat):List Edge→Nat
 | []=>0
 | e::r=>match Region.binds .any e with
  | true=>Nat.lor (Nat.lor (Nat.shiftLeft 1 e.on) (nth0 acc e.on)) (maskE acc r)
  | false=>maskE acc r
def snocL {α:Type}:List α→α→List α
 | [],x=>[x]
 | y::r,x=>y::snocL r x
def befs:List Oper→List Nat→List Nat
 | [],acc=>acc
 | o::r,acc=>befs r (snocL acc (maskE acc o.after.toList))
theorem snocL_eq {α:Type} (l:List α) (x:α):snocL l x=l++[x]:=by
 induction l with
 | nil=>rfl
 | cons y r ih=>simp [snocL,ih]
theorem maskE_bit {acc:List Nat} {a:Nat}:∀ {es:List Edge},(maskE acc es).testBit a=true→∃ e∈es,Region.binds .any e=true∧(a=e.on∨(nth0 acc e.on).testBit a=true)
 | [],h=>by simp [maskE] at h
 | e::r,h=>by
  simp only [maskE] at h
  split at h
  ·rename_i hb
   have h:((1 <<< e.on) ||| (nth0 acc e.on) ||| (maskE acc r)).testBit a=true:=h
   simp only [Nat.testBit_or,Bool.or_eq_true] at h
   rcases h with (h | h) | h
   ·refine ⟨e,by simp,hb,.inl ?_⟩
    rw [Nat.one_shiftLeft,Nat.testBit_two_pow] at h
    have h:e.on=a:=by simpa using h
    exact h.symm
   ·exact ⟨e,by simp,hb,.inr h⟩
   ·obtain ⟨e',h1,h2⟩:=maskE_bit h
    exact ⟨e',by simp [h1],h2⟩
  ·obtain ⟨e',h1,h2⟩:=maskE_bit h
   exact ⟨e',by simp [h1],h2⟩
theorem befs_spec:∀ (r:List Oper) (acc:List Nat),(∀ i,i<acc.length→(befs r acc)[i]?=acc[i]?)∧(befs r acc).length=acc.length+r.length ∧
  ∀ i o,r[i]?=some o→(befs r acc)[acc.length+i]?=some (maskE ((befs r acc).take (acc.length+i)) o.after.toList)
 | [],acc=>⟨fun i _=>rfl,by simp [befs],fun i o h=>by simp at h⟩
 | x::r,acc=>by
  obtain ⟨h1,h2,h3⟩:=befs_spec r (snocL acc (maskE acc x.after.toList))
  rw [snocL_eq] at h1 h2 h3
  have hl:(acc++[maskE acc x.after.toList]).length=acc.length+1:=by simp
  rw [hl] at h1 h2 h3
  have hb:befs (x::r) acc=befs r (acc++[maskE acc x.after.toList]):=by simp only [befs,snocL_eq]
  have hpre:∀ i,i<acc.length→(befs (x::r) acc)[i]?=acc[i]?:=by
   intro i hi
   rw [hb,h1 i oM,List.getElem?_append_left hi]
  refine ⟨hpre,by rw [hb,h2];simp;omega,fun i o ho => ?_⟩
  cases i with
  | zero =>
   simp at ho
   subst ho
   rw [Nat.add_zero]
   have e1:(befs (x::r) acc)[acc.length]?=some (maskE acc x.after.toList):=by
    rw [hb,h1 _ oM];simp
   have e2:(befs (x::r) acc).take acc.length=acc:=by
    apply List.ext_getElem?
    intro j
    rw [List.getElem?_take]
    split
    ·rename_i hj;exact hpre j hj
    ·rename_i hj;rw [List.getElem?_eq_none oM]
   rw [e1,e2]
  | succ i =>
   simp at ho
   rw [hb]
   have:=h3 i o ho
   rw [show acc.length+(i+1)=acc.length+1+i by omega]
   exact this
def pairsOk1 (B:Nat) (y:Log):Nat→List Log→Bool
 | _,[]=>true
 | i,x::r=>bAnd (match Nat.testBit B i with | true=>true | false=>indep x y) (pairsOk1 B y (i+1) r)
def pairsOk (B:List Nat):List Log→Nat→List Log→Bool
 | _,_,[]=>true
 | pre,j,y::r=>bAnd (pairsOk1 (nth0 B j) y 0 pre) (pairsOk B (snocL pre y) (j+1) r)
def edgesOk:Nat→List Oper→Bool
 | _,[]=>true
 | i,o::r=>bAnd (go i o.after.toList) (edgesOk (i+1) r)
where
 go (i:Nat):List Edge→Bool
  | []=>true
  | e::r=>bAnd (match Region.binds .any e with | true=>Nat.blt e.on i | false=>true) (go i r)
def gdEdge:List Oper→Bool
 | []=>true
 | o::r=>bAnd (match o.guard with | none=>true | some (j,_)=>go j o.after.toList) (gdEdge r)
where
 go (j:Nat):List Edge→Bool
  | []=>false
  | e::r=>match Region.binds .any e with
   | true=>(match Nat.beq e.on j with | true=>true | false=>go j r)
   | false=>go j r
def drawOk (ops:List Oper) (lg:List Log):Bool:=bAnd (edgesOk 0 ops) (bAnd (gdEdge ops) (pairsOk (befs ops []) [] 0 lg))
theorem pairsOk1_spec {B:Nat} {y:Log}:∀ {l:List Log} {k:Nat},pairsOk1 B y k l=true→∀ (i:Nat) (x:Log),l[i]?=some x→B.testBit (k+i)=true∨indep x y=true
 | [],k,_,i,x,h=>by simp at h
 | z::r,k,h,0,x,hx=>by
  obtain ⟨h1,_⟩:=bAnd_eq h
  simp at hx
  subst hx
  cases hb:Nat.testBit B k with
  | true=>exact .inl (by first | exact hb | rfl)
  | false=>rw [hb] at h1; exact .inr h1
 | z::r,k,h,i+1,x,hx=>by
  obtain ⟨_,h2⟩:=bAnd_eq h
  simp at hx
  have:=pairsOk1_spec h2 i x hx
  rw [show k+1+i=k+(i+1) by omega] at this
  exact this
theorem pairsOk_spec {B:List Nat}:∀ {r pre:List Log} {j:Nat},pre.length=j→pairsOk B pre j r=true→∀ (b:Nat) (y:Log),r[b]?=some y→∀ (a:Nat) (x:Log),(pre++r)[a]?=some x→a<j+b →
  (nth0 B (j+b)).testBit a=true∨indep x y=true
 | [],pre,j,_,_,b,y,h=>by simp at h
 | z::r,pre,j,hp,h,0,y,hy=>by
  obtain ⟨h1,_⟩:=bAnd_eq h
  simp at hy
  subst hy
  intro a x hx ha
  have:=pairsOk1_spec h1 a x (by rw [List.getElem?_append_left oM] at hx;exact hx)
  simpa using this
 | z::r,pre,j,hp,h,b+1,y,hy=>by
  obtain ⟨_,h2⟩:=bAnd_eq h
  simp at hy
  intro a x hx ha
  rw [snocL_eq] at h2
  have:=pairsOk_spec (j:=j+1) (by simp [hp]) h2 b y hy a x (by simpa using hx) oM
  rw [show j+1+b=j+(b+1) by omega] at this
  exact this
theorem edgesOk_spec:∀ {l:List Oper} {k:Nat},edgesOk k l=true→∀ (i:Nat) (o:Oper),l[i]?=some o→∀ e∈o.after.toList,Region.binds .any e=true→e.on<k+i
 | [],k,_,i,o,h=>by simp at h
 | x::r,k,h,0,o,ho=>by
  obtain ⟨h1,_⟩:=bAnd_eq h
  simp at ho
  subst ho
  have go:∀ {es:List Edge},edgesOk.go k es=true→∀ e∈es,Region.binds .any e=true→e.on<k:=by
   intro es
   induction es with
   | nil=>intro _ e he; simp at he
   | cons y r ih =>
    intro h e he hb
    obtain ⟨h1,h2⟩:=bAnd_eq h
    rcases List.mem_cons.1 he with rfl | he
    ·rw [hb] at h1;exact Nat.le_of_ble_eq_true h1
    ·exact ih h2 e he hb
  exact fun e he hb=>go h1 e he hb
 | x::r,k,h,i+1,o,ho=>by
  obtain ⟨_,h2⟩:=bAnd_eq h
  simp at ho
  intro e he hb
  have:=edgesOk_spec h2 i o ho e he hb
  omega
theorem gdEdge_spec:∀ {l:List Oper},gdEdge l=true→∀ (i:Nat) (o:Oper),l[i]?=some o→∀ j b,o.guard=some (j,b)→∃ e∈o.after.toList,Region.binds .any e=true∧e.on=j
 | [],_,i,o,h=>by simp at h
 | x::r,h,0,o,ho=>by
  obtain ⟨h1,_⟩:=bAnd_eq h
  simp at ho
  subst ho
  intro j b hg
  rw [hg] at h1
  have go:∀ {es:List Edge},gdEdge.go j es=true→∃ e∈es,Region.binds .any e=true∧e.on=j:=by
   intro es
   induction es with
   | nil=>intro h; simp [gdEdge.go] at h
   | cons y r ih =>
    intro h
    simp only [gdEdge.go] at h
    split at h
    ·rename_i hb
     split at h
     ·rename_i he;exact ⟨y,by simp,hb,(beq_eq _ _).1 he⟩
     ·obtain ⟨e,h1,h2⟩:=ih h;exact ⟨e,by simp [h1],h2⟩
    ·obtain ⟨e,h1,h2⟩:=ih h;exact ⟨e,by simp [h1],h2⟩
  exact go h1
 | x::r,h,i+1,o,ho=>by
  obtain ⟨_,h2⟩:=bAnd_eq h
  simp at ho
  exact gdEdge_spec h2 i o ho
def logD:Log:=([],(⟨[],[]⟩,noEqs))
theorem exe_of_run {E:Env} {cs:List (Nat×CallE E.P E.G)} {base:Nat} {ops:List Oper} {L:Nat→Log}:∀ (suf:List Oper) (i:Nat) (st:St) (out:Out),ops.drop i=suf→runOps E cs base i suf st=some out →
  (∀ j,out.lg[j]?=some (L (i+j))∨suf.length≤j)→Exe E cs base ops L (List.range' i suf.length) st out.st∧out.lg.length=suf.length ∧
  (∀ j,j<suf.length→∀ x,out.lg[j]?=some x→(∀ p∈x.2.1.vc,p∈out.vc)∧(out.el=out.er→x.2.2.el=x.2.2.er)∧(out.bl=out.br→x.2.2.bl=x.2.2.br))
 | [],i,st,out,hd,hr,hL=>by
  simp only [runOps,Option.some.injEq] at hr
  subst hr
  exact ⟨.nil _,rfl,by intro j hj;simp at hj⟩
 | o::r,i,st,out,hd,hr,hL=>by
  simp only [runOps] at hr
  cases hm:opM E cs i (base+16*i) o st.get with
  | none=>simp [hm] at hr
  | some p =>
   obtain ⟨e,rd⟩:=p
   simp only [hm] at hr
   cases hr2:runOps E cs base (i+1) r (st.sets e.1.wr) with
   | none=>simp [hr2] at hr
   | some out2 =>
    simp only [hr2,Option.some.injEq] at hr
    subst hr
    have hi:ops[i]?=some o:=by
     have:=congrArg (fun l=>l[0]?) hd
     simpa using this
    have hdr:ops.drop (i+1)=r:=by
     have:=congrArg (fun l=>l.drop 1) hd
     simpa [List.drop_drop] using this
    have h0:L i=(rd,e):=by
     rcases hL 0 with h | h
     ·simpa using h.symm
     ·simp at h
    obtain ⟨h1,h2,h3⟩:=exe_of_run (L:=L) r (i+1) _ out2 hdr hr2 (fun j=>by
     rcases hL (j+1) with h | h
     ·left;simp at h;rw [h];congr 2;omega
     ·right;simp at h;omega)
    refine ⟨?_,by simp [h2],?_⟩
    ·simp only [List.length_cons,List.range'_succ]
     exact .cons i o _ _ _ hi (by rw [h0];exact hm) (by rw [h0];exact h1)
    ·intro j hj x hx
     cases j with
     | zero =>
      simp at hx
      subst hx
      refine ⟨fun p hp=>appL_mem.2 (.inl hp),fun h => ?_,fun h => ?_⟩
      ·simp only [List.cons.injEq] at h;exact h.1
      ·simp only [List.cons.injEq] at h;exact h.1
     | succ j =>
      simp at hx hj
      obtain ⟨k1,k2,k3⟩:=h3 j hj x hx
      refine ⟨fun p hp=>appL_mem.2 (.inr (k1 p hp)),fun h => ?_,fun h => ?_⟩
      ·simp only [List.cons.injEq] at h;exact k2 h.2
      ·simp only [List.cons.injEq] at h;exact k3 h.2
theorem nodup_le:∀ {n:Nat} {l:List Nat},l.Nodup→(∀ x∈l,x<n)→l.length≤n
 | 0,l,_,h=>by
  cases l with
  | nil=>simp
  | cons x r=>have:=h x (by simp); omega
 | n+1,l,hn,h=>by
  by_cases hm:n∈l
  ·have h1:=List.length_erase_of_mem hm
   have h2:=nodup_le (n:=n) (l:=l.erase n) (hn.erase n) (fun x hx=>by
    have h3:=(List.Nodup.mem_erase_iff hn).1 hx
    have:=h x h3.2
    have h4:=h3.1
    omega)
   have:0<l.length:=List.length_pos_of_mem hm
   omega
  ·have:=nodup_le (n:=n) (l:=l) hn (fun x hx=>by
    have h1:=h x hx
    have:x≠n:=fun e=>hm (e▸hx)
    omega)
   omega
section
variable {Γ:Ctx} {E:Env}
theorem run_draw (hP:E.P=Γ.P) (hG:E.G=Γ.G) {cs:List (Nat×CallE E.P E.G)} {ops:Array Oper} (hall:E.all=ops.toList) (hok:opsOk Γ.N ops.toList=true) {base:Nat} {st0:St} {out:Out}
  (hrun:runOps E cs base 0 ops.toList st0=some out) (hdr:drawOk ops.toList out.lg=true) (hvc:∀ p∈out.vc,p) (he:out.el=out.er) (hb:out.bl=out.br)
  {Q:Exit→Act→World→Prop} {a:Act} {w:World} (hs:SatE Γ (sSet base 0) (fun _=>False) st0 a w)
  (hQ:∀ a' w',SatE Γ (sSet base ops.size) (fun t=>∃ (j:Nat) (o:Oper),ops.toList[j]?=some o∧o.dst=some t) out.st a' w'→Q .normal a' w') :
  wpAny Γ.P .any ops Q ops.size (Array.replicate ops.size false) a w:=by
 obtain ⟨ok1,ok23⟩:=bAnd_eq hok
 obtain ⟨ok2,ok3⟩:=bAnd_eq ok23
 have ok1:=nodupB_nodup ok1
 obtain ⟨d1,d23⟩:=bAnd_eq hdr
 obtain ⟨d2,d3⟩:=bAnd_eq d23
 let L:Nat→Log:=fun i=>(out.lg[i]?).getD logD
 obtain ⟨hexe,hlen,hlog⟩:=exe_of_run (L:=L) ops.toList 0 st0 out rfl hrun (fun j=>by
  rcases Nat.lt_or_ge j out.lg.length with h | h
  ·left;show _=some ((out.lg[0+j]?).getD logD);rw [Nat.zero_add];simp [h]
  ·right
   have:∀ (suf:List Oper) (i:Nat) (st:St) (out:Out),runOps E cs base i suf st=some out→out.lg.length=suf.length:=by
    intro suf
    induction suf with
    | nil=>intro i st out h; simp only [runOps,Option.some.injEq] at h; subst h; rfl
    | cons o r ih =>
     intro i st out h
     simp only [runOps] at h
     cases hm:opM E cs i (base+16*i) o st.get with
     | none=>simp [hm] at h
     | some p =>
      obtain ⟨e,rd⟩:=p
      simp only [hm] at h
      cases hr2:runOps E cs base (i+1) r (st.sets e.1.wr) with
      | none=>simp [hr2] at h
      | some out2=>simp only [hr2,Option.some.injEq] at h; subst h; simp [ih _ _ _ hr2]
   rw [this _ _ _ _ hrun] at h;exact h)
 have n_eq:ops.toList.length=ops.size:=Array.length_toList
 let B:=befs ops.toList []
 let prec:Nat→Nat→Prop:=fun x y=>(nth0 B y).testBit x=true
 obtain ⟨_,bl,bs⟩:=befs_spec ops.toList []
 have bsp:∀ i o,ops.toList[i]?=some o→nth0 B i=maskE (B.take i) o.after.toList:=by
  intro i o ho
  have:=bs i o ho
  simp only [List.length_nil,Nat.zero_add] at this
  simp only [nth0,nth_eq]
  show (match B[i]? with | some x=>x | none=>0)=_
  rw [this]
 have prec_step:∀ x y o,ops.toList[y]?=some o→prec x y→∃ e∈o.after.toList,Region.binds .any e=true∧e.on<y∧(x=e.on∨prec x e.on):=by
  intro x y o ho hp
  have hp:(nth0 B y).testBit x=true:=hp
  rw [bsp y o ho] at hp
  obtain ⟨e,h1,h2,h3⟩:=maskE_bit hp
  have hlt:=edgesOk_spec d1 y o ho e h1 h2
  rw [Nat.zero_add] at hlt
  refine ⟨e,h1,h2,hlt,h3.imp id (fun h => ?_)⟩
  show (nth0 B e.on).testBit x=true
  have:nth0 (B.take y) e.on=nth0 B e.on:=by
   simp only [nth0,nth_eq,List.getElem?_take,if_pos hlt]
  rw [← this];exact h
 have prec_lt:∀ y x,y<ops.size→prec x y→x<y:=by
  intro y
  induction y using Nat.strongRecOn with
  | _ y ih =>
   intro x hy hp
   have ho:ops.toList[y]?=some ops.toList[y]:=by simp [hy]
   obtain ⟨e,h1,h2,h3,h4⟩:=prec_step x y _ ho hp
   rcases h4 with rfl | h4
   ·exact h3
   ·have:=ih e.on h3 x oM h4;omega
 have Lget:∀ i,i<ops.size→out.lg[i]?=some (L i):=by
  intro i hi
  have:i<out.lg.length:=by rw [hlen,n_eq];exact hi
  show _=some ((out.lg[i]?).getD logD)
  simp [this]
 have hind:∀ x∈List.range' 0 ops.toList.length,∀ y∈List.range' 0 ops.toList.length,x≠y→¬ prec x y→¬ prec y x→indep (L x) (L y)=true:=by
  have base_:∀ x y,x<y→y<ops.size→¬ prec x y→indep (L x) (L y)=true:=by
   intro x y hxy hy hp
   rcases pairsOk_spec (pre:=[]) (j:=0) rfl d3 y (L y) (Lget y hy) x (L x) (by simpa using Lget x oM) oM with h | h
   ·rw [Nat.zero_add] at h;exact (hp h).elim
   ·exact h
  have symm:∀ x y:Log,indep x y=true→indep y x=true:=by
   intro x y h
   obtain ⟨q1,q2,q3⟩:=indep_spec h
   have mk:∀ {w:List (Key×KV)} {l:List Key},(∀ p∈w,∀ k∈l,clash p.1 k=false)→clashL w l=false:=by
    intro w l hh
    induction w with
    | nil=>rfl
    | cons p r ih =>
     obtain ⟨k,v⟩:=p
     simp only [clashL]
     have:clashA k l=false:=by
      have hk:∀ x∈l,clash k x=false:=fun x hx=>hh (k,v) (by simp) x hx
      clear hh ih
      induction l with
      | nil=>rfl
      | cons y r ih=>simp only [clashA]; rw [hk y (by simp)]; exact ih (fun x hx=>hk x (by simp [hx]))
     rw [this]
     exact ih (fun p hp=>hh p (by simp [hp]))
   have kmem:∀ {w:List (Key×KV)} {k:Key},k∈keysOf w→∃ p∈w,p.1=k:=by
    intro w
    induction w with
    | nil=>intro k h; simp [keysOf] at h
    | cons p r ih =>
     intro k h
     simp only [keysOf,List.mem_cons] at h
     rcases h with rfl | h
     ·exact ⟨p,by simp,rfl⟩
     ·obtain ⟨q,h1,h2⟩:=ih h;exact ⟨q,by simp [h1],h2⟩
   unfold indep
   rw [mk q2,mk q1]
   have:clashL y.2.1.wr (keysOf x.2.1.wr)=false:=mk (fun p hp k hk=>by
    obtain ⟨q,hq,rfl⟩:=kmem hk
    rw [clash_symm];exact q3 q hq p hp)
   rw [this]
  intro x hx y hy hne h1 h2
  have hx:x<ops.size:=by have:=List.mem_range'_1.1 hx;omega
  have hy:y<ops.size:=by have:=List.mem_range'_1.1 hy;omega
  rcases Nat.lt_or_gt_of_ne hne with h | h
  ·exact base_ x y h hy h1
  ·exact symm _ _ (base_ y x h hx h2)
 have hnr:(List.range' 0 ops.toList.length).Nodup:=(List.pairwise_lt_range' (s:=0) (n:=ops.toList.length)).imp (fun h=>Nat.ne_of_lt h)
 have hpt:(List.range' 0 ops.toList.length).Pairwise (fun x y=>¬ prec y x):=by
  refine List.Pairwise.imp_of_mem ?_ (List.pairwise_lt_range' (s:=0) (n:=ops.toList.length))
  intro x y hx hy hlt hp
  have hx:x<ops.size:=by have:=List.mem_range'_1.1 hx;omega
  have:=prec_lt x y hx hp
  omega
 have key:∀ (fuel:Nat) (l:List Nat) (listed:Array Bool) (s:St) (a:Act) (w:World),fuel+l.length=ops.size→listed.size=ops.size→l.Nodup→(∀ x∈l,x<ops.size)→(∀ x,listed.getD x false=true↔x∈l) →
   (∀ x∈l,∀ y,prec y x→y∈l)→l.Pairwise (fun x y=>¬ prec y x)→Exe E cs base ops.toList L l st0 s →
   SatE Γ (fun id=>id<base∨∃ j∈l,base+16*j≤id∧id<base+16*j+16) (fun t=>∃ j∈l,∃ o:Oper,ops.toList[j]?=some o∧o.dst=some t) s a w→wpAny Γ.P .any ops Q fuel listed a w:=by
  intro fuel
  have done:∀ (l:List Nat) (listed:Array Bool) (s:St) (a:Act) (w:World),listed.size=ops.size→l.Nodup→(∀ x∈l,x<ops.size)→(∀ x,listed.getD x false=true↔x∈l)→l.Pairwise (fun x y=>¬ prec y x)→Exe E cs base ops.toList L l st0 s →
    SatE Γ (fun id=>id<base∨∃ j∈l,base+16*j≤id∧id<base+16*j+16) (fun t=>∃ j∈l,∃ o:Oper,ops.toList[j]?=some o∧o.dst=some t) s a w→Region.ready .any ops listed=[]→Q .normal a w:=by
   intro l listed s a w hls hnd hlt hlst hpw hex hsat hready
   have hall:∀ x,x<ops.size→x∈l:=by
    intro x
    induction x using Nat.strongRecOn with
    | _ x ih =>
     intro hx
     by_cases hxl:x∈l
     ·exact hxl
     ·exfalso
      have ho:ops[x]?=some ops[x]:=by simp [hx]
      have:x∈Region.ready .any ops listed:=by
       refine mem_ready.2 ⟨?_,ops[x],ho,fun e he hbd => ?_⟩
       ·have:listed.getD x false=false:=by
         cases h:listed.getD x false with
         | false=>rfl
         | true=>exact (hxl ((hlst x).1 h)).elim
        rw [Array.getD_eq_getD_getElem?] at this ⊢
        rw [Array.getElem?_eq_getElem oM] at this ⊢
        simpa using this
       ·have hlt':=edgesOk_spec d1 x ops[x] (by simpa using ho) e (by simpa using he) hbd
        rw [Nat.zero_add] at hlt'
        exact (hlst _).2 (ih e.on hlt' oM)
      rw [hready] at this
      simp at this
   obtain ⟨st1,h1,e1⟩:=Exe.any (prec:=prec) hnr hnd (fun x=>by
    rw [List.mem_range'_1]
    constructor
    ·intro h;have:=hlt x h;omega
    ·intro h;exact hall x oM) hpt hpw hind hexe
   have hss:=h1.det hex
   subst hss
   refine hQ a w ?_
   obtain ⟨D,ρ,hsat⟩:=hsat
   refine ⟨D,ρ,?_⟩
   have:=hsat.congr (st':=out.st) e1.1 e1.2
   refine this.mono (fun id h => ?_) (fun t h => ?_)
   ·unfold sSet
    rcases h with h | ⟨j,hj,h⟩
    ·omega
    ·have:=hlt j hj;omega
   ·obtain ⟨j,_,o,h⟩:=h;exact ⟨j,o,h⟩
  induction fuel with
  | zero =>
   intro l listed s a w hf hls hnd hlt hlst hcl hpw hex hsat
   have hready:Region.ready .any ops listed=[]:=by
    refine List.eq_nil_iff_forall_not_mem.2 (fun x hx => ?_)
    obtain ⟨h1,o,ho,_⟩:=mem_ready.1 hx
    have hxs:x<ops.size:=by
     rcases Nat.lt_or_ge x ops.size with h | h
     ·exact h
     ·simp [Array.getElem?_eq_none h] at ho
    have:x∈l:=by
     by_cases hxl:x∈l
     ·exact hxl
     ·have:=nodup_le (l:=x::l) (n:=ops.size) (List.nodup_cons.2 ⟨hxl,hnd⟩) (fun y hy=>by
       rcases List.mem_cons.1 hy with rfl | hy
       ·exact hxs
       ·exact hlt y hy)
      simp at this;omega
    have:=(hlst x).2 this
    rw [Array.getD_eq_getD_getElem?] at this h1
    rw [Array.getElem?_eq_getElem oM] at this h1
    simp at this h1
    rw [this] at h1
    cases h1
   exact ⟨hready,done l listed s a w hls hnd hlt hlst hpw hex hsat hready⟩
  | succ fuel ih =>
   intro l listed s a w hf hls hnd hlt hlst hcl hpw hex hsat
   refine ⟨done l listed s a w hls hnd hlt hlst hpw hex hsat,fun i hi => ?_⟩
   obtain ⟨h1,o,ho,hedges⟩:=mem_ready.1 hi
   have his:i<ops.size:=by
    rcases Nat.lt_or_ge i ops.size with h | h
    ·exact h
    ·simp [Array.getElem?_eq_none h] at ho
   have hil:i∉l:=by
    intro hh
    have:=(hlst i).2 hh
    rw [Array.getD_eq_getD_getElem?] at this h1
    rw [Array.getElem?_eq_getElem oM] at this h1
    simp at this h1
    rw [this] at h1
    cases h1
   have hoL:ops.toList[i]?=some o:=by simpa using ho
   have hpred:∀ y,prec y i→y∈l:=by
    intro y hy
    obtain ⟨e,h1,h2,h3,h4⟩:=prec_step y i o hoL hy
    have hel:e.on∈l:=(hlst _).1 (hedges e (by simpa using h1) h2)
    rcases h4 with rfl | h4
    ·exact hel
    ·exact hcl _ hel y h4
   have hnl:∀ x∈l,¬ prec i x:=fun x hx hp=>hil (hcl x hx i hp)
   let rest:=(List.range ops.size).filter (fun j=>decide (j∉l)&&decide (j≠i))
   have hrest:∀ j,j∈rest↔j<ops.size∧j∉l∧j≠i:=by
    intro j
    simp only [rest,List.mem_filter,List.mem_range,Bool.and_eq_true,decide_eq_true_eq]
   have hnd2:(l++i::rest).Nodup:=by
    refine List.nodup_append.2 ⟨hnd,List.nodup_cons.2 ⟨fun hh=>((hrest i).1 hh).2.2 rfl,List.nodup_range.filter _⟩,fun x hx y hy e => ?_⟩
    subst e
    rcases List.mem_cons.1 hy with rfl | hy
    ·exact hil hx
    ·exact ((hrest x).1 hy).2.1 hx
   have hpw2:(l++i::rest).Pairwise (fun x y=>¬ prec y x):=by
    refine List.pairwise_append.2 ⟨hpw,List.pairwise_cons.2 ⟨fun y hy hp=>((hrest y).1 hy).2.1 (hpred y hp),?_⟩,fun x hx y hy hp => ?_⟩
    ·have hr:rest.Pairwise (fun x y=>x<y):=(List.pairwise_lt_range (n:=ops.size)).filter _
     refine List.Pairwise.imp_of_mem ?_ hr
     intro x y hx hy hlt' hp
     have:=prec_lt x y ((hrest x).1 hx).1 hp
     omega
    ·rcases List.mem_cons.1 hy with rfl | hy
     ·exact hnl x hx hp
     ·exact ((hrest y).1 hy).2.1 (hcl x hx y hp)
   obtain ⟨st1,h2,e2⟩:=Exe.any (prec:=prec) hnr hnd2 (fun x=>by
    rw [List.mem_range'_1,List.mem_append,List.mem_cons,hrest]
    constructor
    ·rintro (h | rfl | h)
     ·have:=hlt x h;omega
     ·omega
     ·omega
    ·intro h
     by_cases h1:x∈l
     ·exact .inl h1
     ·by_cases h2:x=i
      ·exact .inr (.inl h2)
      ·exact .inr (.inr ⟨by omega,h1,h2⟩)) hpt hpw2 hind hexe
   obtain ⟨s',h3,h4⟩:=h2.split
   have hss:=hex.det h3
   subst hss
   cases h4 with
   | cons _ o' _ _ _ ho' hm hr =>
    rw [hoL] at ho'
    simp only [Option.some.injEq] at ho'
    subst ho'
    obtain ⟨v1,v2,v3⟩:=hlog i (by rw [n_eq];exact his) (L i) (Lget i his)
    obtain ⟨D,ρ,hsat⟩:=hsat
    refine op_ok hP hG (cs:=cs) (nid:=base+16*i) hall hsat ?_ ho ?_ ?_ (eff:=(L i).2.1) (eqs:=(L i).2.2) ⟨(L i).1,hm⟩ (fun p hp=>hvc p (v1 p hp)) (v2 he) (v3 hb) ?_
    ·intro id g1 g2 g3
     rcases g3 with g3 | ⟨j,hj,g3⟩
     ·omega
     ·have:j≠i:=fun e=>hil (e▸hj)
      omega
    ·intro x hx
     refine ⟨allLt_lt ok2 x (dst_mem hoL hx),?_⟩
     rintro ⟨j,hj,o',ho',hd'⟩
     have:=dst_ne ok1 hoL ho' hx hd'
     exact hil (this▸hj)
    ·intro j b oj t hg hoj ht
     obtain ⟨e,g1,g2,g3⟩:=gdEdge_spec d2 i o hoL j b hg
     have:=(hlst _).1 (hedges e (by simpa using g1) g2)
     rw [g3] at this
     exact ⟨j,this,oj,by simpa using hoj,ht⟩
    ·intro a' w' hs'
     refine ih (l++[i]) _ _ a' w' sO (by simp [hls]) ?_ ?_ ?_ ?_ ?_ (hex.snoc hoL hm) ?_
     ·exact List.nodup_append.2 ⟨hnd,by simp,fun x hx y hy e=>by simp at hy;subst hy;exact hil (e▸hx)⟩
     ·intro x hx
      rcases List.mem_append.1 hx with h | h
      ·exact hlt x h
      ·simp at h;omega
     ·intro x
      rw [List.mem_append,List.mem_singleton]
      by_cases e:i=x
      ·subst e
       simp only [or_true,iff_true]
       rw [Array.getD_eq_getD_getElem?,Array.getElem?_setIfInBounds]
       simp [hls,his]
      ·rw [getD_set_ne false e,hlst x]
       constructor
       ·exact fun h => .inl h
       ·rintro (h | h)
        ·exact h
        ·exact (e h.symm).elim
     ·intro x hx y hy
      rcases List.mem_append.1 hx with h | h
      ·exact List.mem_append.2 (.inl (hcl x h y hy))
      ·simp at h
       subst h
       exact List.mem_append.2 (.inl (hpred y hy))
     ·refine List.pairwise_append.2 ⟨hpw,by simp,fun x hx y hy hp => ?_⟩
      simp at hy
      subst hy
      exact hnl x hx hp
     ·obtain ⟨D',ρ',hs'⟩:=hs'
      refine ⟨D',ρ',hs'.mono (fun id h => ?_) (fun t h => ?_)⟩
      ·rcases h with (h | ⟨j,hj,h⟩) | h
       ·exact .inl h
       ·exact .inr ⟨j,List.mem_append.2 (.inl hj),h⟩
       ·exact .inr ⟨i,by simp,h.1,h.2⟩
      ·rcases h with ⟨j,hj,h⟩ | h
       ·exact ⟨j,List.mem_append.2 (.inl hj),h⟩
       ·exact ⟨i,by simp,o,hoL,h⟩
 refine key ops.size [] _ st0 a w (by simp) (by simp) List.nodup_nil (by simp) ?_ (by simp) List.Pairwise.nil (.nil _) ?_
 ·intro x
  simp only [List.not_mem_nil,iff_false,Bool.not_eq_true]
  rw [Array.getD_eq_getD_getElem?,Array.getElem?_replicate]
  split<;>simp
 ·obtain ⟨D,ρ,hs⟩:=hs
  refine ⟨D,ρ,hs.mono (fun id h => .inl ?_) (fun t h=>h.elim)⟩
  unfold sSet at h;omega
end
end Go.Sv
end
section
namespace Go.Sv
open M
def Tri (Γ:Ctx) (c:Code) (st:St) (Q:Exit→St→Prop):Prop :=
 ∀ a w,Sat0 Γ st a w→c.wp Γ.P (fun e a' w'=>∃ st',Q e st'∧Sat0 Γ st' a' w') a w
inductive KI
 | code (c:Code)
 | blk (id:Nat)
 | lp (R:St→Prop)
 | scp (c:Code)
 | nog
def post (Γ:Ctx):List KI→(St→Prop)→Exit→St→Prop
 | [],Q=>fun e st=>match e with
  | .normal=>Q st
  | .ret=>Q st
  | _=>False
 | .code c::k,Q=>fun e st=>match e with
  | .normal=>Tri Γ c st (post Γ k Q)
  | e=>post Γ k Q e st
 | .blk id::k,Q=>fun e st=>match e with
  | .exit id'=>if id'=id then post Γ k Q .normal st else post Γ k Q (.exit id') st
  | e=>post Γ k Q e st
 | .lp R::k,Q=>fun e st=>match e with
  | .normal=>R st
  | e=>post Γ k Q e st
 | .scp c::k,Q=>fun e st=>match e with
  | .goto l=>match findLabel c l with
   | some rest=>Tri Γ rest st (fun e st=>match e with
    | .goto _=>False
    | e=>post Γ k Q e st)
   | none=>False
  | e=>post Γ k Q e st
 | .nog::k,Q=>fun e st=>match e with
  | .goto _=>False
  | e=>post Γ k Q e st
def Wp (P:Program) (G:Nat→Option (List Cell)) (N kn:Nat) (k:List KI) (Q:St→Prop) (st:St):Prop :=
 ∀ Γ:Ctx,Γ.P=P→Γ.G=G→Γ.N=N→Γ.kin=kn→post Γ k Q .normal st
def Ent (kn:Nat) (st st':St):Prop:=∀ (Γ:Ctx) (a:Act) (w:World),Γ.kin=kn→Sat0 Γ st a w→Sat0 Γ st' a w
theorem Tri.mono {Γ:Ctx} {c:Code} {st:St} {Q Q':Exit→St→Prop} (h:Tri Γ c st Q) (hq:∀ e st,Q e st→Q' e st):Tri Γ c st Q' :=
 fun a w hs=>Go.wp_mono (h a w hs) fun e a' w' ⟨st',q,s⟩=>⟨st',hq _ _ q,s⟩
section
variable {P:Program} {G:Nat→Option (List Cell)} {N kn:Nat} {k:List KI} {Q:St→Prop} {st st':St}
theorem Wp.ent {c:Code} (he:Ent kn st st') (h:Wp P G N kn (.code c::k) Q st'):Wp P G N kn (.code c::k) Q st :=
 fun Γ h1 h2 h3 h4 a w hs=>h Γ h1 h2 h3 h4 a w (he Γ a w h4 hs)
theorem Wp.seq {x y:Code} (h:Wp P G N kn (.code x :: .code y::k) Q st):Wp P G N kn (.code (.seq x y)::k) Q st:=by
 intro Γ h1 h2 h3 h4 a w hs
 refine wp_seq (Go.wp_mono (h Γ h1 h2 h3 h4 a w hs) ?_)
 rintro e a' w' ⟨st',q,s⟩
 cases e with
 | normal=>exact q a' w' s
 | exit id=>exact ⟨st',q,s⟩
 | goto l=>exact ⟨st',q,s⟩
 | ret=>exact ⟨st',q,s⟩
 | panic ch=>exact ⟨st',q,s⟩
 | outgrown=>exact ⟨st',q,s⟩
theorem Wp.skip (h:Wp P G N kn k Q st):Wp P G N kn (.code .skip::k) Q st :=
 fun Γ h1 h2 h3 h4 a w hs=>wp_skip ⟨st,h Γ h1 h2 h3 h4,hs⟩
theorem Wp.block {id:Nat} {c:Code} (h:Wp P G N kn (.code c :: .blk id::k) Q st):Wp P G N kn (.code (.block id c)::k) Q st:=by
 intro Γ h1 h2 h3 h4 a w hs
 refine wp_block (Go.wp_mono (h Γ h1 h2 h3 h4 a w hs) ?_)
 rintro e a' w' ⟨st',q,s⟩
 cases e with
 | normal=>exact ⟨st',q,s⟩
 | exit id' =>
  simp only [Exit.inBlock]
  simp only [post] at q
  split
  ·rename_i e;rw [if_pos e] at q;exact ⟨st',q,s⟩
  ·rename_i e;rw [if_neg e] at q;exact ⟨st',q,s⟩
 | goto l=>exact ⟨st',q,s⟩
 | ret=>exact ⟨st',q,s⟩
 | panic ch=>exact ⟨st',q,s⟩
 | outgrown=>exact ⟨st',q,s⟩
theorem wp_scope_once {P:Program} {a:Act} {w:World} {Q:Exit→Act→World→Prop} {c:Code} (h:c.wp P (fun e a w=>match e with
  | .goto l=>match findLabel c l with
   | some rest=>rest.wp P (Exit.noGoto Q) a w
   | none=>False
  | e=>Q e a w) a w):(Code.scope c).wp P Q a w:=by
 intro b k cs
 obtain ⟨e,a₁,w₁,hq,harr⟩:=h b (.inScope c::k) cs
 cases e with
 | normal=>exact ⟨.normal,a₁,w₁,hq,.head step_scope (Steps.trans harr (.one step_inScope))⟩
 | exit id=>exact ⟨.exit id,a₁,w₁,hq,fun k' hk => .head step_scope (harr k' (by simp [exitTo,hk]))⟩
 | goto l =>
  simp only at hq
  split at hq
  ·rename_i rest hf
   have hg:gotoIn l (.inScope c::k)=some (.code rest :: .inScope c::k):=by simp [gotoIn,hf]
   obtain ⟨e₂,a₂,w₂,hq₂,harr₂⟩:=hq b (.inScope c::k) cs
   cases e₂ with
   | normal=>exact ⟨.normal,a₂,w₂,hq₂,.head step_scope (Steps.trans (harr _ hg) (Steps.trans harr₂ (.one step_inScope)))⟩
   | exit id=>exact ⟨.exit id,a₂,w₂,hq₂,fun k' hk => .head step_scope (Steps.trans (harr _ hg) (harr₂ k' (by simp [exitTo,hk])))⟩
   | goto l=>exact hq₂.elim
   | ret=>exact ⟨_,a₂,w₂,hq₂,.of_steps (.head step_scope (harr _ hg)) harr₂⟩
   | panic ch=>exact ⟨_,a₂,w₂,hq₂,.of_steps (.head step_scope (harr _ hg)) harr₂⟩
   | outgrown=>exact ⟨_,a₂,w₂,hq₂,.of_steps (.head step_scope (harr _ hg)) harr₂⟩
  ·exact hq.elim
 | ret=>exact ⟨_,a₁,w₁,hq,.of_steps (.one step_scope) harr⟩
 | panic ch=>exact ⟨_,a₁,w₁,hq,.of_steps (.one step_scope) harr⟩
 | outgrown=>exact ⟨_,a₁,w₁,hq,.of_steps (.one step_scope) harr⟩
theorem Wp.scope {c:Code} (h:Wp P G N kn (.code c :: .scp c::k) Q st):Wp P G N kn (.code (.scope c)::k) Q st:=by
 intro Γ h1 h2 h3 h4 a w hs
 refine wp_scope_once (Go.wp_mono (h Γ h1 h2 h3 h4 a w hs) ?_)
 rintro e a' w' ⟨st',q,s⟩
 cases e with
 | goto l =>
  simp only [post] at q
  simp only
  split
  ·rename_i rest hf
   rw [hf] at q
   refine Go.wp_mono (q a' w' s) ?_
   rintro e a2 w2 ⟨st2,q2,s2⟩
   cases e with
   | goto l=>exact q2.elim
   | normal=>exact ⟨st2,q2,s2⟩
   | exit id=>exact ⟨st2,q2,s2⟩
   | ret=>exact ⟨st2,q2,s2⟩
   | panic ch=>exact ⟨st2,q2,s2⟩
   | outgrown=>exact ⟨st2,q2,s2⟩
  ·rename_i hf
   rw [hf] at q
   exact q
 | normal=>exact ⟨st',q,s⟩
 | exit id=>exact ⟨st',q,s⟩
 | ret=>exact ⟨st',q,s⟩
 | panic ch=>exact ⟨st',q,s⟩
 | outgrown=>exact ⟨st',q,s⟩
theorem Wp.scp {c:Code} (h:Wp P G N kn k Q st):Wp P G N kn (.scp c::k) Q st:=h
theorem Wp.nog (h:Wp P G N kn k Q st):Wp P G N kn (.nog::k) Q st:=h
def gotoK (l:Nat):List KI→Option (List KI)
 | []=>none
 | .scp c::k=>match findLabel c l with
  | some rest=>some (.code rest :: .nog::k)
  | none=>none
 | .nog::_=>none
 | _::k=>gotoK l k
theorem goto_post {Γ:Ctx} {l:Nat}:∀ {k k':List KI} {st:St},gotoK l k=some k'→post Γ k' Q .normal st→post Γ k Q (.goto l) st
 | [],k',st,h,_=>by simp [gotoK] at h
 | .code c::k,k',st,h,hp=>goto_post (k:=k) h hp
 | .lp R::k,k',st,h,hp=>goto_post (k:=k) h hp
 | .blk i::k,k',st,h,hp=>goto_post (k:=k) h hp
 | .nog::k,k',st,h,hp=>by simp [gotoK] at h
 | .scp c::k,k',st,h,hp=>by
  simp only [gotoK] at h
  simp only [post]
  split at h
  ·rename_i rest hf
   simp only [Option.some.injEq] at h
   subst h
   first | exact hp | (rw [hf];exact hp)
  ·cases h
theorem Wp.goto {l:Nat} {k':List KI} (hu:gotoK l k=some k') (h:Wp P G N kn k' Q st):Wp P G N kn (.code (.goto l)::k) Q st :=
 fun Γ h1 h2 h3 h4 a w hs=>wp_goto ⟨st,goto_post hu (h Γ h1 h2 h3 h4),hs⟩
theorem Wp.label {l:Nat} (h:Wp P G N kn k Q st):Wp P G N kn (.code (.label l)::k) Q st :=
 fun Γ h1 h2 h3 h4 a w hs=>wp_label ⟨st,h Γ h1 h2 h3 h4,hs⟩
theorem Wp.blk {id:Nat} (h:Wp P G N kn k Q st):Wp P G N kn (.blk id::k) Q st:=h
theorem Wp.lp {R:St→Prop} (h:R st):Wp P G N kn (.lp R::k) Q st:=fun Γ _ _ _ _=>h
theorem Wp.nil (h:Q st):Wp P G N kn [] Q st:=fun Γ _ _ _ _=>h
def unw (id:Nat):List KI→Option (List KI)
 | []=>none
 | .blk id'::k=>match Nat.beq id id' with
  | true=>some k
  | false=>unw id k
 | _::k=>unw id k
theorem unw_post {Γ:Ctx} {id:Nat}:∀ {k k':List KI},unw id k=some k'→post Γ k' Q .normal st→post Γ k Q (.exit id) st
 | [],k',h,_=>by simp [unw] at h
 | .code c::k,k',h,hp=>unw_post (k:=k) h hp
 | .lp R::k,k',h,hp=>unw_post (k:=k) h hp
 | .scp c::k,k',h,hp=>unw_post (k:=k) h hp
 | .nog::k,k',h,hp=>unw_post (k:=k) h hp
 | .blk id'::k,k',h,hp=>by
  simp only [unw] at h
  simp only [post]
  cases hb:Nat.beq id id' with
  | true=>rw [hb] at h; simp only [Option.some.injEq] at h; subst h; rw [if_pos ((beq_eq _ _).1 hb)]; exact hp
  | false=>rw [hb] at h; rw [if_neg ((beq_ne _ _).1 hb)]; exact unw_post h hp
theorem Wp.exit {id:Nat} {k':List KI} (hu:unw id k=some k') (h:Wp P G N kn k' Q st):Wp P G N kn (.code (.exit id)::k) Q st :=
 fun Γ h1 h2 h3 h4 a w hs=>wp_exit ⟨st,unw_post hu (h Γ h1 h2 h3 h4),hs⟩
theorem ret_post {Γ:Ctx}:∀ {k:List KI},Q st→post Γ k Q .ret st
 | [],h=>h
 | .code c::k,h=>ret_post (k:=k) h
 | .lp R::k,h=>ret_post (k:=k) h
 | .blk id::k,h=>ret_post (k:=k) h
 | .scp c::k,h=>ret_post (k:=k) h
 | .nog::k,h=>ret_post (k:=k) h
theorem Wp.ret (h:Q st):Wp P G N kn (.code .ret::k) Q st :=
 fun Γ h1 h2 h3 h4 a w hs=>wp_ret ⟨st,ret_post h,hs⟩
def condB (st:St):Operand→Option Bool
 | .tmp t=>match look st.tm t with
  | some (.v (.c (.bool b)))=>some b
  | _=>none
 | .const (.bool b)=>some b
 | _=>none
theorem Wp.cond {c:Operand} {x y:Code} {b:Bool} (hc:condB st c=some b) (ht:b=true→Wp P G N kn (.code x::k) Q st) (hf:b=false→Wp P G N kn (.code y::k) Q st) :
  Wp P G N kn (.code (.cond c x y)::k) Q st:=by
 intro Γ h1 h2 h3 h4 a w hs
 have hv:a.eval c = .bool b:=by
  cases c with
  | tmp t =>
   simp only [condB] at hc
   split at hc
   ·rename_i b' hl
    simp only [Option.some.injEq] at hc
    subst hc
    obtain ⟨D,ρ,hs⟩:=hs
    obtain ⟨u,hu,hd⟩:=hs.tm t _ hl
    rw [tmps_getD hu];exact hd
   ·cases hc
  | const v =>
   cases v<;>simp [condB] at hc
   subst hc;rfl
  | global g=>simp [condB] at hc
  | func f=>simp [condB] at hc
 exact wp_cond_split hv (fun hb=>ht hb Γ h1 h2 h3 h4 a w hs) (fun hb=>hf hb Γ h1 h2 h3 h4 a w hs)
structure Ann (P:Program) (G:Nat→Option (List Cell)) where
 grd:List (Nat×Bool):=[]
 fm:List (Nat×V1):=[]
 bs:List (Nat×Blk):=[]
 wrp:List (Nat×Unit):=[]
 cs:List (Nat×CallE P G):=[]
def envOf {G:Nat→Option (List Cell)} (P:Program) (N:Nat) (ops:List Oper) (an:Ann P G):Env:=⟨P,G,N,ops,an.grd,an.fm,an.bs,an.wrp⟩
def regRun (P:Program) (G:Nat→Option (List Cell)) (N:Nat) (ops:Array Oper) (an:Ann P G) (st:St):Option Out :=
 match opsOk N ops.toList with
 | true=>runOps (envOf P N ops.toList an) an.cs st.nx 0 ops.toList st
 | false=>none
def outSt (o:Option Out) (ops:Array Oper) (base:Nat):St:=match o with
 | some o=>o.st.done ops.toList base (len ops.toList)
 | none=>⟨[],[],0⟩
def outE (o:Option Out):List (List V1)×List (List Blk):=match o with
 | some o=>(o.el,o.bl)
 | none=>([],[])
def outF (o:Option Out):List (List V1)×List (List Blk):=match o with
 | some o=>(o.er,o.br)
 | none=>([],[])
def AllP:List Prop→Prop
 | []=>True
 | [p]=>p
 | p::r=>p∧AllP r
theorem AllP.mem:∀ {l:List Prop},AllP l→∀ p∈l,p
 | [],_,p,hp=>by simp at hp
 | [q],h,p,hp=>by rcases List.mem_cons.1 hp with rfl | hp; exact h; exact absurd hp (by simp)
 | q::r::l,h,p,hp=>by
  rcases List.mem_cons.1 hp with rfl | hp
  ·exact h.1
  ·exact AllP.mem h.2 p hp
theorem Wp.loop {X:Type} {c:Code} (inv:X→St) (facts:X→Prop) (μ:X→Nat) (x0:X) (h0:Ent kn st (inv x0)) (f0:facts x0)
  (round:∀ x,facts x→Wp P G N kn (.code c :: .lp (fun s=>∃ x',facts x'∧μ x'<μ x∧Ent kn s (inv x'))::k) Q (inv x)):Wp P G N kn (.code (.loop c)::k) Q st:=by
 intro Γ h1 h2 h3 h4 a w hs b kk cs
 have key:∀ (n:Nat) (x:X) (a:Act) (w:World),μ x=n→facts x→Sat0 Γ (inv x) a w →
   ∃ e a' w',(∃ st',post Γ k Q e st'∧Sat0 Γ st' a' w')∧Arrives Γ.P (lone (b.at a (.code c :: .inLoop c::kk)) cs w) b kk cs e a' w':=by
  intro n
  induction n using Nat.strongRecOn with
  | _ n ih =>
   intro x a w hn hf hI
   obtain ⟨e,a₁,w₁,⟨s1,hq,hs1⟩,harr⟩:=round x hf Γ h1 h2 h3 h4 a w hI b (.inLoop c::kk) cs
   cases e with
   | normal =>
    obtain ⟨x',f',hlt,he⟩:=hq
    obtain ⟨e₂,a₂,w₂,hq₂,harr₂⟩:=ih (μ x') (hn▸hlt) x' a₁ w₁ rfl f' (he Γ a₁ w₁ h4 hs1)
    exact ⟨e₂,a₂,w₂,hq₂,.of_steps (Steps.trans harr (.one step_inLoop)) harr₂⟩
   | exit id=>exact ⟨_,a₁,w₁,⟨s1,hq,hs1⟩,.pass (x := .inLoop c) rfl (fun _ _ => .inl (by simp)) harr⟩
   | goto l=>exact ⟨_,a₁,w₁,⟨s1,hq,hs1⟩,.pass (x := .inLoop c) rfl (fun _ _ => .inl (by simp)) harr⟩
   | ret=>exact ⟨_,a₁,w₁,⟨s1,hq,hs1⟩,.pass (x := .inLoop c) rfl (fun _ _ => .inl (by simp)) harr⟩
   | panic ch=>exact ⟨_,a₁,w₁,⟨s1,hq,hs1⟩,.pass (x := .inLoop c) rfl (fun _ _ => .inl (by simp)) harr⟩
   | outgrown=>exact ⟨_,a₁,w₁,⟨s1,hq,hs1⟩,.pass (x := .inLoop c) rfl (fun _ _ => .inl (by simp)) harr⟩
 obtain ⟨e,a',w',hq,harr⟩:=key _ x0 a w rfl f0 (h0 Γ a w h4 hs)
 exact ⟨e,a',w',hq,.of_steps (.one step_loop) harr⟩
end
end Go.Sv
end
section
namespace Go.Sv
open M
def allB (p:Nat→Bool):Nat→Bool
 | 0=>true
 | i+1=>bAnd (p i) (allB p i)
theorem allB_get {p:Nat→Bool}:∀ {n:Nat},allB p n=true→∀ i,i<n→p i=true
 | n+1,h,i,hi=>by
  obtain ⟨h1,h2⟩:=bAnd_eq h
  rcases Nat.lt_or_ge i n with h | h
  ·exact allB_get h2 i h
  ·rw [show i=n by omega];exact h1
def idLt (nx:Nat):Cell→Bool
 | .ptr id _ | .row _ id _ _ | .rp _ id _ _ | .map id=>Nat.blt id nx
 | .clo _ k sh c=>allB (fun i=>match sh i with | none=>idLt nx (c i 0) | some m=>allB (fun j=>idLt nx (c i j)) m) k
 | .ifc _ sh c=>match sh with | none=>idLt nx (c 0) | some m=>allB (fun j=>idLt nx (c j)) m
 | x=>x.flat
def idLtL (nx:Nat):List Cell→Bool
 | []=>true
 | x::r=>bAnd (idLt nx x) (idLtL nx r)
def idLtV (nx:Nat):V1→Bool
 | .c (.clo _ k sh c)=>cloOk nx sh c k
 | .c x=>idLt nx x
 | .agg l=>idLtL nx l
where
 cloOk (nx:Nat) (sh:Nat→Option Nat) (c:Nat→Nat→Cell):Nat→Bool
  | 0=>true
  | i+1=>bAnd (match sh i with | none=>idLt nx (c i 0) | some m=>idLtL nx (upL (c i) 0 m)) (cloOk nx sh c i)
def idLtVs (nx:Nat):List V1→Bool
 | []=>true
 | x::r=>bAnd (idLtV nx x) (idLtVs nx r)
def idLtT (nx:Nat):TV→Bool
 | .v x=>idLtV nx x
 | .tup l=>idLtVs nx l
 | .cnd _ _ _=>false
 | .junk=>true
def idLtTs (nx:Nat):List (Nat×TV)→Bool
 | []=>true
 | (_,v)::r=>bAnd (idLtT nx v) (idLtTs nx r)
def idLtO (nx:Nat):Ob→Bool
 | .mi mid _ _=>Nat.blt mid nx
 | _=>true
def idLtB (nx:Nat):List (Nat×Blk)→Bool
 | []=>true
 | (id,.box _ cs)::r=>bAnd (Nat.blt id nx) (bAnd (idLtL nx cs) (idLtB nx r))
 | (id,.row _ _ _ _)::r=>bAnd (Nat.blt id nx) (idLtB nx r)
 | (id,.ob o)::r=>bAnd (Nat.blt id nx) (bAnd (idLtO nx o) (idLtB nx r))
def RowsIn (_:Nat→Prop) (_:List (Nat×Blk)):Prop:=True
theorem idLt_inS {nx:Nat} {x:Cell} (h:idLt nx x=true):x.inS (fun i=>i<nx):=by
 induction x with
 | clo f k sh c ih =>
  simp only [idLt] at h
  intro i hi
  have hg:=allB_get h i hi
  cases hs:sh i with
  | none=>simp only [hs] at hg ⊢; exact ih i 0 hg
  | some m=>simp only [hs] at hg ⊢; exact fun j hj=>ih i j (allB_get hg j hj)
 | ifc t sh c ih =>
  cases sh with
  | none=>simp only [idLt] at h; exact ih 0 h
  | some m=>simp only [idLt] at h; exact fun j hj=>ih j (allB_get h j hj)
 | _=>simp only [idLt] at h; first | exact Nat.le_of_ble_eq_true h | exact Cell.inS_flat h
theorem idLtL_inS {nx:Nat}:∀ {l:List Cell},idLtL nx l=true→∀ (j:Nat) (x:Cell),l[j]?=some x→x.inS (fun i=>i<nx)
 | [],_,j,x,hj=>by simp at hj
 | y::r,h,0,x,hj=>by obtain ⟨h1,_⟩:=bAnd_eq h; simp at hj; subst hj; exact idLt_inS h1
 | y::r,h,j+1,x,hj=>by obtain ⟨_,h2⟩:=bAnd_eq h; simp at hj; exact idLtL_inS h2 j x hj
theorem idLtV_inS {nx:Nat} {x:V1} (h:idLtV nx x=true):x.inS (fun i=>i<nx):=by
 cases x with
 | agg l=>exact idLtL_inS h
 | c x =>
  cases x with
  | clo f k sh c =>
   have h:idLtV.cloOk nx sh c k=true:=h
   have:∀ k,idLtV.cloOk nx sh c k=true→∀ i,i<k→match sh i with | none=>(c i 0).inS (fun i=>i<nx) | some m=>∀ j,j<m→(c i j).inS (fun i=>i<nx):=by
    intro k
    induction k with
    | zero=>intro _ i hi; omega
    | succ k ih =>
     intro h i hi
     obtain ⟨h1,h2⟩:=bAnd_eq h
     rcases Nat.lt_or_ge i k with hlt | hge
     ·exact ih h2 i hlt
     ·have:i=k:=by omega
      subst this
      cases hsh:sh i with
      | none=>rw [hsh] at h1; exact idLt_inS h1
      | some m =>
       rw [hsh] at h1
       intro j hj
       exact idLtL_inS h1 j _ (by rw [upL_get,if_pos hj];simp)
   exact this k h
  | _=>exact idLt_inS h
theorem idLtVs_inS {nx:Nat}:∀ {l:List V1},idLtVs nx l=true→∀ (j:Nat) (x:V1),l[j]?=some x→x.inS (fun i=>i<nx)
 | [],_,j,x,hj=>by simp at hj
 | y::r,h,0,x,hj=>by obtain ⟨h1,_⟩:=bAnd_eq h; simp at hj; subst hj; exact idLtV_inS h1
 | y::r,h,j+1,x,hj=>by obtain ⟨_,h2⟩:=bAnd_eq h; simp at hj; exact idLtVs_inS h2 j x hj
theorem idLtT_inS {nx:Nat} {v:TV} (h:idLtT nx v=true):v.inS (fun i=>i<nx):=by
 cases v with
 | v x=>exact idLtV_inS h
 | tup l=>exact idLtVs_inS h
 | cnd t w x=>simp [idLtT] at h
 | junk=>trivial
theorem idLtTs_inS {nx:Nat}:∀ {l:List (Nat×TV)},idLtTs nx l=true→∀ t v,look l t=some v→v.inS (fun i=>i<nx)
 | [],_,t,v,h=>by simp [look] at h
 | (k,y)::r,h,t,v,hl=>by
  obtain ⟨h1,h2⟩:=bAnd_eq h
  simp only [look] at hl
  split at hl
  ·simp only [Option.some.injEq] at hl;subst hl;exact idLtT_inS h1
  ·exact idLtTs_inS h2 t v hl
theorem idLtB_inS {nx:Nat}:∀ {l:List (Nat×Blk)},idLtB nx l=true→RowsIn (fun i=>i<nx) l→∀ id b,look l id=some b→id<nx∧b.inS (fun i=>i<nx)
 | [],_,_,t,v,h=>by simp [look] at h
 | (k,.box e cs)::r,h,hr,t,v,hl=>by
  obtain ⟨h1,h2⟩:=bAnd_eq h
  obtain ⟨h2,h3⟩:=bAnd_eq h2
  simp only [look] at hl
  split at hl
  ·rename_i hb
   simp only [Option.some.injEq] at hl;subst hl
   rw [← (beq_eq _ _).1 hb]
   exact ⟨Nat.le_of_ble_eq_true h1,idLtL_inS h2⟩
  ·exact idLtB_inS h3 hr t v hl
 | (k,.ob o)::r,h,hr,t,v,hl=>by
  obtain ⟨h1,h2⟩:=bAnd_eq h
  obtain ⟨h2,h3⟩:=bAnd_eq h2
  simp only [look] at hl
  split at hl
  ·rename_i hb
   simp only [Option.some.injEq] at hl;subst hl
   rw [← (beq_eq _ _).1 hb]
   refine ⟨Nat.le_of_ble_eq_true h1,?_⟩
   cases o with
   | mi mid n seen=>exact Nat.le_of_ble_eq_true h2
   | ms m=>trivial
   | it s p=>trivial
  ·exact idLtB_inS h3 hr t v hl
 | (k,.row e sz n f)::r,h,hr,t,v,hl=>by
  obtain ⟨h1,h2⟩:=bAnd_eq h
  simp only [look] at hl
  split at hl
  ·rename_i hb
   simp only [Option.some.injEq] at hl;subst hl
   rw [← (beq_eq _ _).1 hb]
   exact ⟨Nat.le_of_ble_eq_true h1,trivial⟩
  ·exact idLtB_inS h2 trivial t v hl
def TV.ren (σ:Nat→Nat):TV→TV
 | .v x => .v (x.ren σ)
 | .tup l => .tup (mapL (V1.ren σ) l)
 | .cnd t w x => .cnd t w (x.ren σ)
 | .junk => .junk
def sigA (m:List (Nat×Nat)) (i:Nat):Nat:=match look m i with
 | some j=>j
 | none=>i
def entT (st:St):List (Nat×TV)→Option (List TV)
 | []=>some []
 | (t,_)::r=>match look st.tm t with
  | none=>none
  | some v=>match entT st r with
   | none=>none
   | some l=>some (v::l)
def renT (m:List (Nat×Nat)):List (Nat×TV)→List TV
 | []=>[]
 | (_,v)::r=>v.ren (sigA m)::renT m r
def entB (m:List (Nat×Nat)) (st:St):List (Nat×Blk)→Option (List Blk)
 | []=>some []
 | (id,_)::r=>match look st.hp (sigA m id) with
  | none=>none
  | some v=>match entB m st r with
   | none=>none
   | some l=>some (v::l)
def renB (m:List (Nat×Nat)):List (Nat×Blk)→List Blk
 | []=>[]
 | (_,b)::r=>b.ren (sigA m)::renB m r
def keysGe (kn:Nat):List (Nat×Nat)→Bool
 | []=>true
 | (a,_)::r=>bAnd (Nat.ble kn a) (keysGe kn r)
def sigL (m:List (Nat×Nat)):List (Nat×Blk)→List Nat
 | []=>[]
 | (id,_)::r=>sigA m id::sigL m r
def entOk (kn:Nat) (m:List (Nat×Nat)) (st':St):Bool :=
 bAnd (Nat.ble kn st'.nx) (bAnd (keysGe kn m) (bAnd (nodupB (sigL m st'.hp)) (bAnd (idLtTs st'.nx st'.tm) (idLtB st'.nx st'.hp))))
theorem entT_spec {st:St} {m:List (Nat×Nat)}:∀ {l:List (Nat×TV)},entT st l=some (renT m l)→∀ t v,look l t=some v→look st.tm t=some (v.ren (sigA m))
 | [],_,t,v,h=>by simp [look] at h
 | (k,y)::r,h,t,v,hl=>by
  simp only [entT,renT] at h
  cases h1:look st.tm k with
  | none=>simp [h1] at h
  | some v0 =>
   simp only [h1] at h
   cases h2:entT st r with
   | none=>simp [h2] at h
   | some l0 =>
    simp only [h2,Option.some.injEq,List.cons.injEq] at h
    simp only [look] at hl
    split at hl
    ·rename_i hb
     simp only [Option.some.injEq] at hl;subst hl
     rw [← (beq_eq _ _).1 hb,h1,h.1]
    ·exact entT_spec (l:=r) (by rw [h2,h.2]) t v hl
theorem entB_spec {st:St} {m:List (Nat×Nat)}:∀ {l:List (Nat×Blk)},entB m st l=some (renB m l)→∀ id b,look l id=some b→look st.hp (sigA m id)=some (b.ren (sigA m))
 | [],_,t,v,h=>by simp [look] at h
 | (k,y)::r,h,t,v,hl=>by
  simp only [entB,renB] at h
  cases h1:look st.hp (sigA m k) with
  | none=>simp [h1] at h
  | some v0 =>
   simp only [h1] at h
   cases h2:entB m st r with
   | none=>simp [h2] at h
   | some l0 =>
    simp only [h2,Option.some.injEq,List.cons.injEq] at h
    simp only [look] at hl
    split at hl
    ·rename_i hb
     simp only [Option.some.injEq] at hl;subst hl
     rw [← (beq_eq _ _).1 hb,h1,h.1]
    ·exact entB_spec (l:=r) (by rw [h2,h.2]) t v hl
theorem sigL_inj {m:List (Nat×Nat)}:∀ {l:List (Nat×Blk)},(sigL m l).Nodup→∀ i j bi bj,look l i=some bi→look l j=some bj→sigA m i=sigA m j→i=j:=by
 have mem:∀ {l:List (Nat×Blk)} {i:Nat} {b:Blk},look l i=some b→sigA m i∈sigL m l:=by
  intro l
  induction l with
  | nil=>intro i b h; simp [look] at h
  | cons p r ih =>
   obtain ⟨k,y⟩:=p
   intro i b h
   simp only [look] at h
   simp only [sigL,List.mem_cons]
   split at h
   ·rename_i hb;rw [(beq_eq _ _).1 hb];exact .inl rfl
   ·exact .inr (ih h)
 intro l
 induction l with
 | nil=>intro _ i j bi bj h; simp [look] at h
 | cons p r ih =>
  obtain ⟨k,y⟩:=p
  intro hn i j bi bj hi hj e
  simp only [sigL,List.nodup_cons] at hn
  simp only [look] at hi hj
  cases h1:Nat.beq k i<;>cases h2:Nat.beq k j<;>simp only [h1,h2] at hi hj
  ·exact ih hn.2 i j bi bj hi hj e
  ·rw [← (beq_eq _ _).1 h2] at e
   exact (hn.1 (e▸mem hi)).elim
  ·rw [← (beq_eq _ _).1 h1] at e
   exact (hn.1 (e▸mem hj)).elim
  ·rw [← (beq_eq _ _).1 h1,← (beq_eq _ _).1 h2]
theorem keysGe_sig {kn:Nat}:∀ {m:List (Nat×Nat)},keysGe kn m=true→∀ i,i<kn→sigA m i=i
 | [],_,i,_=>rfl
 | (a,b)::r,h,i,hi=>by
  obtain ⟨h1,h2⟩:=bAnd_eq h
  have h1:=Nat.le_of_ble_eq_true h1
  have hne:a≠i:=by omega
  have:=keysGe_sig h2 i hi
  simp only [sigA,look] at this ⊢
  rw [(beq_ne _ _).2 hne]
  exact this
theorem DenT.ren_no {D:Dat} {σ:Nat→Nat} {ρ:Rho} {tm:Array Value} {v:TV} {u:Value} (h:DenT D ρ (fun _=>False) tm (v.ren σ) u):DenT D (fun i=>ρ (σ i)) (fun _=>False) tm v u:=by
 cases v with
 | v x=>exact DenV.ren.1 h
 | tup l=>obtain ⟨vs,e,hl⟩:=h; rw [mapL_eq] at hl; exact ⟨vs,e,DenL.map_ren.1 hl⟩
 | cnd t w x=>exact h.1.elim
 | junk=>trivial
theorem Ent.of {kn:Nat} {st st':St} (m:List (Nat×Nat)) (hok:entOk kn m st'=true) (hT:entT st st'.tm=some (renT m st'.tm)) (hB:entB m st st'.hp=some (renB m st'.hp)) (hR:RowsIn (fun i=>i<st'.nx) st'.hp):Ent kn st st':=by
 intro Γ a w hk hs
 obtain ⟨k1,hok⟩:=bAnd_eq hok
 obtain ⟨k2,hok⟩:=bAnd_eq hok
 obtain ⟨k3,hok⟩:=bAnd_eq hok
 obtain ⟨k4,k5⟩:=bAnd_eq hok
 have k1:=Nat.le_of_ble_eq_true k1
 have k3:=nodupB_nodup k3
 obtain ⟨D,ρ,h⟩:=hs
 have sT:=entT_spec hT
 have sB:=entB_spec hB
 refine ⟨D,fun i=>ρ (sigA m i),{ h with tm := ?_,hp := ?_,inj := ?_,sep := ?_,own := ?_,kin := ?_,idT:=idLtTs_inS k4,idH:=idLtB_inS k5 hR,kinS:=fun i hi=>by rw [hk] at hi;omega }⟩
 ·intro t v hv
  obtain ⟨u,hu,hd⟩:=h.tm t _ (sT t v hv)
  exact ⟨u,hu,hd.ren_no⟩
 ·intro id b hb
  exact BlkSat.ren.1 (h.hp _ _ (sB id b hb))
 ·intro i j bi bj hi hj li lj e
  exact sigL_inj k3 i j bi bj hi hj (h.inj _ _ _ _ (sB i bi hi) (sB j bj hj) li lj e)
 ·intro id b hb lv o
  exact h.sep _ _ (sB id b hb) lv o
 ·intro id b hb lv
  exact h.own _ _ (sB id b hb) lv
 ·intro i hi
  show ρ (sigA m i)=_
  rw [keysGe_sig k2 i oM]
  exact h.kin i hi
def resM (P:Program):List ResultVar→M (List V1)
 | []=>ret []
 | .tmp t::r=>bind (rd (.tm t)) fun
  | .tv (.v x)=>bind (resM P r) fun l=>ret (x::l)
  | _=>fail
 | .cell t ty::r=>bind (rd (.tm t)) fun
  | .tv (.v (.c (.ptr id off)))=>bind (opt (tSize P ty)) fun sz=>bind (opt (tAgg P ty)) fun ag=>bind (cellsW id off sz) fun l=>bind (mkV ag l) fun x=>bind (resM P r) fun l=>ret (x::l)
  | _=>fail
def resV (P:Program) (rv:List ResultVar) (st:St):Option (List V1):=match resM P rv st.get with
 | some (l,_)=>some l
 | none=>none
theorem res_den {Γ:Ctx} {S W:Nat→Prop} {D:Dat} {ρ:Rho} {st:St} {a:Act} {w:World} (h:Sat Γ S W D ρ st a w):∀ {rv:List ResultVar} {l:List V1},(resM Γ.P rv).Ev st.get l →
  (∀ (j:Nat) (x:V1),l[j]?=some x→x.inS S)∧∃ vs:List Value,(rv.mapM (fun
   | ResultVar.tmp t=>pure (a.tmps.getD t undef)
   | .cell ad t=>do loadVar t (← asAddr (a.tmps.getD ad undef)):ResultVar→Sem Value)).run Γ.P w = .ok vs w∧vs.length=l.length∧∀ (j:Nat) (x:V1),l[j]?=some x→∃ u,vs[j]?=some u∧DenV D ρ x u
 | [],l,hl=>by simp only [resM,ev_ret] at hl; subst hl; exact ⟨by simp,[],rfl,rfl,by simp⟩
 | .tmp t::r,l,hl=>by
  simp only [resM,ev_bind,ev_rd] at hl
  obtain ⟨kv,hk,hl⟩:=hl
  obtain ⟨tv,rfl,hlk⟩:=get_tm hk
  split at hl
  ·rename_i x e
   simp only [KV.tv.injEq] at e
   subst e
   simp only [ev_bind,ev_ret] at hl
   obtain ⟨l',hl',rfl⟩:=hl
   obtain ⟨i1,vs,h1,h2,h3⟩:=res_den h hl'
   obtain ⟨u,hu,hd⟩:=h.tm t _ hlk
   have hin:=h.idT t _ hlk
   refine ⟨fun j y hj => ?_,u::vs,?_,by simp [h2],fun j y hj => ?_⟩
   ·cases j with
    | zero=>simp at hj; subst hj; exact hin
    | succ j=>simp at hj; exact i1 j y hj
   ·simp only [List.mapM_cons,Sem.run_bind,Sem.run_pure,Result.andThen_ok,h1]
    simp [Array.getD_eq_getD_getElem?,hu]
   ·cases j with
    | zero=>simp at hj; subst hj; exact ⟨u,rfl,hd⟩
    | succ j=>simp at hj ⊢; exact h3 j y hj
  ·simp [ev_fail] at hl
 | .cell t ty::r,l,hl=>by
  simp only [resM,ev_bind,ev_rd] at hl
  obtain ⟨kv,hk,hl⟩:=hl
  obtain ⟨tv,rfl,hlk⟩:=get_tm hk
  split at hl
  ·rename_i id off e
   simp only [KV.tv.injEq] at e
   subst e
   simp only [ev_bind,ev_opt,ev_ret] at hl
   obtain ⟨sz,hsz,ag,hag,cl,hcl,x,hx,l',hl',rfl⟩:=hl
   obtain ⟨i1,vs,h1,h2,h3⟩:=res_den h hl'
   obtain ⟨u,hu,hd⟩:=h.tm t _ hlk
   have hd:u = .pointer (some ⟨(ρ id).1,off,none⟩):=hd
   obtain ⟨c1,c2⟩:=cells_den h (cellsW_ev hcl)
   obtain ⟨y,hy,hdy⟩:=loadVar_den (D:=D) (ρ:=ρ) (w:=w) (b:=(ρ id).1) (o:=off) hsz hag c1 (fun j x hj=>(c2 j x hj).2) hx
   have hin:x.inS S:=by
    rcases mkV_ev hx with ⟨_,rfl⟩ | ⟨_,z,rfl,rfl⟩
    ·exact fun j x hj=>(c2 j x hj).1
    ·exact (c2 0 z (by simp)).1
   refine ⟨fun j z hj => ?_,y::vs,?_,by simp [h2],fun j z hj => ?_⟩
   ·cases j with
    | zero=>simp at hj; subst hj; exact hin
    | succ j=>simp at hj; exact i1 j z hj
   ·have hg:a.tmps.getD t undef = .pointer (some ⟨(ρ id).1,off,none⟩):=by simp [Array.getD_eq_getD_getElem?,hu,hd]
    simp only [List.mapM_cons,Sem.run_bind,hg,asAddr,Sem.run_pure,Result.andThen_ok,hy]
    erw [h1]
    rfl
   ·cases j with
    | zero=>simp at hj; subst hj; exact ⟨y,rfl,hdy⟩
    | succ j=>simp at hj ⊢; exact h3 j z hj
  ·simp [ev_fail] at hl
def sigF (kn:Nat) (m:List Nat) (i:Nat):Nat:=match Nat.blt i kn with
 | true=>i
 | false=>match nth m (i-kn) with
  | some j=>j
  | none=>i
def FinQ (P:Program) (rv:List ResultVar) (kn:Nat) (R:List V1→List (Nat×Blk)→Prop) (st:St):Prop :=
 ∃ rs hout m,R rs hout∧(resM P rv).Ev st.get (rs.map (V1.ren (sigF kn m)))∧(∀ id b,look hout id=some b→look st.hp (sigF kn m id)=some (b.ren (sigF kn m))) ∧
  (∀ i j bi bj,look hout i=some bi→look hout j=some bj→sigF kn m i=sigF kn m j→i=j) ∧
  (∀ (j:Nat) (x:V1),rs[j]?=some x→x.inS (fun i=>∃ c,look hout i=some c))∧∀ id b,look hout id=some b→b.inS (fun i=>∃ c,look hout i=some c)
theorem flatV_ren {x:V1} (h:x.flat=true) (σ:Nat→Nat):x.ren σ=x:=by
 have fl:∀ {c:Cell},c.flat=true→c.ren σ=c:=by
  intro c hc
  cases c<;>simp only [Cell.flat,Bool.false_eq_true] at hc<;>rfl
 cases x with
 | c y=>simp only [V1.ren]; rw [fl h]
 | agg l =>
  simp only [V1.ren]
  congr 1
  have:∀ {l:List Cell},flats l=true→l.map (Cell.ren σ)=l:=by
   intro l
   induction l with
   | nil=>intro _; rfl
   | cons y r ih=>intro h; obtain ⟨h1,h2⟩:=bAnd_eq h; simp [fl h1,ih h2]
  exact this h
theorem flatsV_ren {σ:Nat→Nat}:∀ {l:List V1},flatsV l=true→l.map (V1.ren σ)=l
 | [],_=>rfl
 | x::r,h=>by obtain ⟨h1,h2⟩:=bAnd_eq h; simp [flatV_ren h1,flatsV_ren h2]
theorem flatV_inS {x:V1} (h:x.flat=true) (S:Nat→Prop):x.inS S:=by
 cases x with
 | c y=>exact Cell.inS_flat h
 | agg l=>exact fun j y hj=>Cell.inS_flat (flats_get h hj)
theorem flatsV_inS {S:Nat→Prop}:∀ {l:List V1},flatsV l=true→∀ (j:Nat) (x:V1),l[j]?=some x→x.inS S
 | [],_,j,x,hj=>by simp at hj
 | y::r,h,0,x,hj=>by obtain ⟨h1,_⟩:=bAnd_eq h; simp at hj; subst hj; exact flatV_inS h1 S
 | y::r,h,j+1,x,hj=>by obtain ⟨_,h2⟩:=bAnd_eq h; simp at hj; exact flatsV_inS h2 j x hj
theorem FinQ.pure {P:Program} {rv:List ResultVar} {kn:Nat} {st:St} {rs rs':List V1} (h:resV P rv st=some rs') (e:rs'=rs) (hf:flatsV rs'=true):FinQ P rv kn (fun r h=>r=rs∧h=[]) st:=by
 subst e
 refine ⟨rs',[],[],⟨rfl,rfl⟩,?_,by intro id b h;simp [look] at h,by intro i j bi bj h;simp [look] at h,flatsV_inS hf,by intro id b h;simp [look] at h⟩
 rw [flatsV_ren hf]
 unfold resV at h
 cases hh:resM P rv st.get with
 | none=>simp [hh] at h
 | some p=>obtain ⟨l,r⟩:=p; simp only [hh,Option.some.injEq] at h; subst h; exact ⟨r,hh⟩
def argT:Nat→List V1→List (Nat×TV)
 | _,[]=>[]
 | i,x::r=>(i,.v x)::argT (i+1) r
def hinB:Nat→List Blk→List (Nat×Blk)
 | _,[]=>[]
 | i,b::r=>(i,b)::hinB (i+1) r
def st0 (args:List V1) (hin:List Blk):St:=⟨argT 0 args,hinB 0 hin,len hin⟩
theorem argT_look:∀ (l:List V1) (k t:Nat),look (argT k l) t=if k≤t then (l[t-k]?).map TV.v else none
 | [],k,t=>by simp [argT,look]
 | x::r,k,t=>by
  simp only [argT,look]
  cases hb:Nat.beq k t with
  | true=>have:=(beq_eq _ _).1 hb; subst this; simp
  | false =>
   have hne:=(beq_ne _ _).1 hb
   simp only [argT_look r (k+1) t]
   by_cases h:k≤t
   ·rw [if_pos h,if_pos oM]
    have:t-k=(t-(k+1))+1:=by omega
    rw [this];simp
   ·rw [if_neg h,if_neg oM]
theorem hinB_look:∀ (l:List Blk) (k t:Nat),look (hinB k l) t=if k≤t then l[t-k]? else none
 | [],k,t=>by simp [hinB,look]
 | x::r,k,t=>by
  simp only [hinB,look]
  cases hb:Nat.beq k t with
  | true=>have:=(beq_eq _ _).1 hb; subst this; simp
  | false =>
   have hne:=(beq_ne _ _).1 hb
   simp only [hinB_look r (k+1) t]
   by_cases h:k≤t
   ·rw [if_pos h,if_pos oM]
    have:t-k=(t-(k+1))+1:=by omega
    rw [this];simp
   ·rw [if_neg h,if_neg oM]
theorem ResDen.of {D:Dat} {ρ:Rho} {rs:List V1} {vs:Array Value} (h:DenL D ρ rs vs):ResDen D ρ rs (if h:vs.size=1 then vs[0] else .tuple vs):=by
 unfold ResDen
 split
 ·rename_i x
  have hs:vs.size=1:=h.1
  rw [dif_pos hs]
  obtain ⟨u,hu,hd⟩:=h.2 0 x rfl
  have:vs[0]'(by omega)=u:=by
   rw [Array.getElem?_eq_getElem oM] at hu
   simpa using hu
  rw [this];exact hd
 ·rename_i rs' hne
  have hs:vs.size≠1:=by
   rw [h.1]
   intro e
   match rs,hne,e with
   | [x],hne,_=>exact hne x rfl
  rw [dif_neg hs]
  exact ⟨vs,rfl,h⟩
def Rets (G:Nat→Option (List Cell)) (kn:Nat) (R:List V1→List (Nat×Blk)→Prop) (D:Dat) (ρ:Rho) (w:World) (e:Ending) (w':World):Prop :=
 ∃ rs hout D' ρ' v,e = .returned v∧R rs hout∧ResDen D' ρ' rs v∧(∀ (j:Nat) (x:V1),rs[j]?=some x→x.inS (fun i=>∃ c,look hout i=some c))∧After G kn D ρ w D' ρ' w' hout
theorem Fn.start {P:Program} {G:Nat→Option (List Cell)} {N:Nat} {hin:List Blk} {args:List V1} (hN:args.length≤N) (ha:∀ (j:Nat) (x:V1),args[j]?=some x→x.inS (fun i=>i<hin.length)) (hh:∀ (i:Nat) (b:Blk),hin[i]?=some b→b.inS (fun i=>i<hin.length))
  {D:Dat} {ρ:Rho} {w:World} {vs:Array Value} (h1:DenL D ρ args vs) (h2:GlobOk G D) (hgw:GlobW G w) (h3:Agree D w)
  (h4:∀ (i:Nat) (b:Blk),hin[i]?=some b→BlkSat D ρ i w b∧(Live ρ i b→∀ o,D (ρ i).1 o=none))
  (h5:∀ (i j:Nat) (bi bj:Blk),hin[i]?=some bi→hin[j]?=some bj→Live ρ i bi→Live ρ j bj→(ρ i).1=(ρ j).1→i=j) :
  Sat0 ⟨P,G,D,ρ,hin.length,w,N,[]⟩ (st0 args hin) { tmps:=vs++Array.replicate (N-vs.size) undef,defers:=[] } w:=by
 have lookH:∀ id b,look (st0 args hin).hp id=some b→hin[id]?=some b:=by
  intro id b hb
  have hb:look (hinB 0 hin) id=some b:=hb
  rw [hinB_look] at hb
  simpa using hb
 have lookT:∀ t v,look (st0 args hin).tm t=some v→∃ x,args[t]?=some x∧v = .v x:=by
  intro t v hv
  have hv:look (argT 0 args) t=some v:=hv
  rw [argT_look] at hv
  simp at hv
  obtain ⟨x,h1,h2⟩:=hv
  exact ⟨x,h1,h2.symm⟩
 have nxe:(st0 args hin).nx=hin.length:=len_eq _
 have idlt:∀ id b,hin[id]?=some b→id<hin.length:=by
  intro id b hb
  rcases Nat.lt_or_ge id hin.length with h | h
  ·exact h
  ·simp [List.getElem?_eq_none h] at hb
 have glk:∀ g cs,G g=some cs→cs≠[]→∀ i,i<hin.length→(ρ i).2≠0→(ρ i).1≠g:=by
  intro g cs hg hne i hi li e
  obtain ⟨x,r,rfl⟩:=List.exists_cons_of_ne_nil hne
  obtain ⟨u,hu,_⟩:=h2 g _ hg 0 x rfl
  have:=(h4 i hin[i] (by simp [hi])).2 li 0
  rw [e,hu] at this
  cases this
 refine ⟨D,ρ,{ defers:=rfl,size := ?_,tm := ?_,hp:=fun id b hb=>(h4 id b (lookH id b hb)).1,inj := ?_,agree:=h3,sep:=fun id b hb=>(h4 id b (lookH id b hb)).2,le:=DatLe.refl _,glob:=h2,gl:=⟨hgw,glk⟩,own := ?_,kin:=fun i _=>rfl,newD:=fun b o v h => .inl h,frame:=fun b _ _=>rfl,os:=rfl,tape:=rfl,output:=rfl,grow:=Nat.le_refl _,drawn:=fun _=>Nat.le_refl _,idT := ?_,idH := ?_,kinS:=fun i hi=>by rw [nxe];exact hi }⟩
 ·show (vs++Array.replicate (N-vs.size) undef).size=N
  have:=h1.1
  simp only [Array.size_append,Array.size_replicate]
  omega
 ·intro t v hv
  obtain ⟨x,hx,rfl⟩:=lookT t v hv
  obtain ⟨u,hu,hd⟩:=h1.2 t x hx
  refine ⟨u,?_,hd⟩
  rw [Array.getElem?_append]
  have:t<vs.size:=by
   rcases Nat.lt_or_ge t vs.size with h | h
   ·exact h
   ·simp [Array.getElem?_eq_none h] at hu
  rw [if_pos this];exact hu
 ·intro i j bi bj hi hj li lj e
  exact h5 i j bi bj (lookH i bi hi) (lookH j bj hj) li lj e
 ·intro id b hb lv
  exact .inr ⟨id,idlt id b (lookH id b hb),lv,rfl⟩
 ·intro t v hv
  obtain ⟨x,hx,rfl⟩:=lookT t v hv
  rw [nxe]
  exact ha t x hx
 ·intro id b hb
  have:=lookH id b hb
  rw [nxe]
  exact ⟨idlt id b this,hh id b this⟩
theorem Fn.fin {Γ:Ctx} {S W:Nat→Prop} {D':Dat} {ρ':Rho} {fn:Func} {R:List V1→List (Nat×Blk)→Prop} {st':St} {a':Act} {w':World} (hq:FinQ Γ.P fn.results.toList Γ.kin R st') (hs:Sat Γ S W D' ρ' st' a' w') :
  ∃ v,(results fn a'.tmps).run Γ.P w' = .ok v w'∧Rets Γ.G Γ.kin R Γ.D0 Γ.ρ0 Γ.w0 (.returned v) w':=by
 obtain ⟨rs,hout,m,hR,hres,hblk,hinj,hrs,hho⟩:=hq
 obtain ⟨i1,vs',r1,r2,r3⟩:=res_den hs hres
 have hden:DenL D' ρ' (rs.map (V1.ren (sigF Γ.kin m))) vs'.toArray:=⟨by simp [r2],fun j x hj=>by simpa using r3 j x hj⟩
 have hden:=DenL.map_ren.1 hden
 have sk:∀ i,i<Γ.kin→sigF Γ.kin m i=i:=by
  intro i hi
  unfold sigF
  rw [show Nat.blt i Γ.kin=true from Nat.ble_eq_true_of_le hi]
 refine ⟨_,?_,rs,hout,D',fun i=>ρ' (sigF Γ.kin m i),_,rfl,hR,ResDen.of hden,hrs,?_⟩
 ·simp only [results,Sem.run_bind]
  rw [Array.mapM_eq_mapM_toList]
  have r1':(fn.results.toList.mapM (fun
   | ResultVar.tmp t=>pure (a'.tmps.getD t undef)
   | .cell ad t=>do loadVar t (← asAddr (a'.tmps.getD ad undef)):ResultVar→Sem Value)).run Γ.P w' = .ok vs' w':=r1
  simp only [Sem.run_map]
  erw [r1']
  rfl
 ·refine { hp:=fun id b hb=>BlkSat.ren.1 (hs.hp _ _ (hblk id b hb)),inj:=fun i j bi bj hi hj li lj e=>hinj i j bi bj hi hj (hs.inj _ _ _ _ (hblk i bi hi) (hblk j bj hj) li lj e),sep:=fun id b hb lv o=>hs.sep _ _ (hblk id b hb) lv o,agree:=hs.agree,le:=hs.le,kin := ?_,own := ?_,newD:=hs.newD,frame:=hs.frame,os:=hs.os,tape:=hs.tape,output:=hs.output,grow:=hs.grow,drawn:=hs.drawn,ids:=hho }
  ·intro i hi
   show ρ' (sigF Γ.kin m i)=Γ.ρ0 i
   rw [sk i hi]
   exact hs.kin i hi
  ·intro id b hb lv
   exact hs.own _ _ (hblk id b hb) lv
theorem Fn.wp {P:Program} {G:Nat→Option (List Cell)} {fn:Func} {c:Code} {hin:List Blk} {args:List V1} {R:List V1→List (Nat×Blk)→Prop}
  (hN:args.length≤fn.ntmps) (ha:∀ (j:Nat) (x:V1),args[j]?=some x→x.inS (fun i=>i<hin.length)) (hh:∀ (i:Nat) (b:Blk),hin[i]?=some b→b.inS (fun i=>i<hin.length))
  (h:Wp P G fn.ntmps hin.length [.code c] (FinQ P fn.results.toList hin.length R) (st0 args hin))
  {D:Dat} {ρ:Rho} {w:World} {vs:Array Value} (h1:DenL D ρ args vs) (h2:GlobOk G D) (hgw:GlobW G w) (h3:Agree D w)
  (h4:∀ (i:Nat) (b:Blk),hin[i]?=some b→BlkSat D ρ i w b∧(Live ρ i b→∀ o,D (ρ i).1 o=none))
  (h5:∀ (i j:Nat) (bi bj:Blk),hin[i]?=some bi→hin[j]?=some bj→Live ρ i bi→Live ρ j bj→(ρ i).1=(ρ j).1→i=j) :
  c.wp P (bodyPost P fn (Rets G hin.length R D ρ w)) { tmps:=vs++Array.replicate (fn.ntmps-vs.size) undef,defers:=[] } w:=by
 have hw:=h ⟨P,G,D,ρ,hin.length,w,fn.ntmps,[]⟩ rfl rfl rfl rfl _ w (Fn.start hN ha hh h1 h2 hgw h3 h4 h5)
 refine Go.wp_mono hw ?_
 rintro e a' w' ⟨st',q,D',ρ',s⟩
 cases e with
 | normal=>exact ⟨s.defers,Fn.fin (Γ:=⟨P,G,D,ρ,hin.length,w,fn.ntmps,[]⟩) (fn:=fn) (R:=R) q s⟩
 | ret=>exact ⟨s.defers,Fn.fin (Γ:=⟨P,G,D,ρ,hin.length,w,fn.ntmps,[]⟩) (fn:=fn) (R:=R) q s⟩
 | exit id=>exact q.elim
 | goto l=>exact q.elim
 | panic ch=>exact q.elim
 | outgrown=>exact q.elim
theorem Fn.of {P:Program} {G:Nat→Option (List Cell)} {f:FuncId} {fn:Func} {c:Code} {hin:List Blk} {args:List V1} {R:List V1→List (Nat×Blk)→Prop}
  (hf:P.funcs[f]?=some fn) (hb:fn.body=some c) (hN:args.length≤fn.ntmps) (ha:∀ (j:Nat) (x:V1),args[j]?=some x→x.inS (fun i=>i<hin.length)) (hh:∀ (i:Nat) (b:Blk),hin[i]?=some b→b.inS (fun i=>i<hin.length))
  (h:Wp P G fn.ntmps hin.length [.code c] (FinQ P fn.results.toList hin.length R) (st0 args hin)):Fn P G f hin args R :=
 fun _ _ _ _ h1 h2 hgw h3 h4 h5=>calls_of_wp hf hb (Fn.wp hN ha hh h h1 h2 hgw h3 h4 h5)
end Go.Sv
end
section
namespace Go.Sv
open M
theorem Sat.drew {Γ:Ctx} {S W:Nat→Prop} {D:Dat} {ρ:Rho} {st:St} {a:Act} {w:World} (h:Sat Γ S W D ρ st a w):Sat Γ S W D ρ st a { w with drawn:=w.drawn+1 } :=
 { h with
  hp:=fun id b hb=>(h.hp id b hb).world rfl
  agree:=fun b o v hv=>h.agree b o v hv
  frame:=fun b hb hk=>h.frame b hb hk
  drawn:=fun n=>Nat.le_trans (h.drawn n) (Nat.le_succ _) }
def regDraw (o:Option Out) (ops:Array Oper):Bool→Bool
 | false=>true
 | true=>match o with
  | some o=>drawOk ops.toList o.lg
  | none=>false
section
variable {P:Program} {G:Nat→Option (List Cell)} {N kn:Nat} {k:List KI} {Q:St→Prop} {st st':St}
theorem Wp.reg' {id:Nat} {ops:Array Oper} {draw:Bool} (hm:draw=true→P.follows .mixedOrders=true) (an:Ann P G) {out:Out} (hr:regRun P G N ops an st=some out) (hd:regDraw (some out) ops draw=true) (he:out.el=out.er) (hb:out.bl=out.br)
  (hv:∀ p∈out.vc,p) (hk:Wp P G N kn k Q (out.st.done ops.toList st.nx (len ops.toList))):Wp P G N kn (.code (.region id ops draw)::k) Q st:=by
 intro Γ h1 h2 h3 h4 a w hs
 subst h1 h2 h3
 unfold regRun at hr
 cases hoo:opsOk Γ.N ops.toList with
 | false=>simp [hoo] at hr
 | true =>
  simp only [hoo] at hr
  cases draw with
  | false =>
   refine wp_region ?_
   rw [List.range_eq_range',← Array.length_toList]
   refine run_text (Γ:=Γ) (E:=envOf Γ.P Γ.N ops.toList an) rfl rfl (cs:=an.cs) rfl hoo ops.toList 0 st a w out rfl hr hv he hb ?_ ?_
   ·obtain ⟨D,ρ,hs⟩:=hs
    refine ⟨D,ρ,hs.mono (fun id h => ?_) (fun t h=>h.elim)⟩
    unfold sSet;omega
   ·intro a' w' h
    refine ⟨_,hk Γ rfl rfl rfl h4,SatE.done (fun id h => ?_) h⟩
    unfold sSet at h;rw [len_eq];omega
  | true =>
   refine wp_region_any (hm rfl) ?_
   refine run_draw (Γ:=Γ) (E:=envOf Γ.P Γ.N ops.toList an) rfl rfl (cs:=an.cs) rfl hoo hr hd hv he hb ?_ ?_
   ·obtain ⟨D,ρ,hs⟩:=hs
    refine ⟨D,ρ,(hs.mono (fun id h => ?_) (fun t h=>h)).drew⟩
    unfold sSet;omega
   ·intro a' w' h
    refine ⟨_,hk Γ rfl rfl rfl h4,SatE.done (fun id h => ?_) h⟩
    unfold sSet at h;rw [len_eq,Array.length_toList];omega
structure Adv where
 k:List KI
 st:St
 vc:List Prop
 el:List (List (List V1))
 er:List (List (List V1))
 bl:List (List (List Blk))
 br:List (List (List Blk))
def Adv.here (k:List KI) (st:St):Adv:=⟨k,st,[],[],[],[],[]⟩
def adv (P:Program) (G:Nat→Option (List Cell)) (N:Nat) (mx:Bool) (ans:List (Nat×Ann P G)):Nat→List Bool→List KI→St→Option Adv
 | 0,_,k,st=>some (.here k st)
 | n+1,dec,k,st=>match k with
  | .code (.seq a b)::k=>adv P G N mx ans n dec (.code a :: .code b::k) st
  | .code .skip::k=>adv P G N mx ans n dec k st
  | .code (.scope c)::k=>adv P G N mx ans n dec (.code c :: .scp c::k) st
  | .scp _::k=>adv P G N mx ans n dec k st
  | .nog::k=>adv P G N mx ans n dec k st
  | .code (.goto l)::k=>match gotoK l k with
   | some k'=>adv P G N mx ans n dec k' st
   | none=>none
  | .code (.label _)::k=>adv P G N mx ans n dec k st
  | .code (.block id c)::k=>adv P G N mx ans n dec (.code c :: .blk id::k) st
  | .blk _::k=>adv P G N mx ans n dec k st
  | .code (.exit id)::k=>match unw id k with
   | some k'=>adv P G N mx ans n dec k' st
   | none=>none
  | .code (.cond c x y)::k=>match dec with
   | []=>some (.here (.code (.cond c x y)::k) st)
   | d::dec=>match condB st c with
    | none=>none
    | some b=>match adv P G N mx ans n dec (.code (match d with | true=>x | false=>y)::k) st with
     | none=>none
     | some A=>some { A with vc:=(b=d)::A.vc }
  | .code (.region id ops draw)::k =>
   match bOr (bNot draw) mx with
   | false=>none
   | true=>match regRun P G N ops (match look ans id with | some an=>an | none=>{}) st with
    | none=>none
    | some out=>match regDraw (some out) ops draw with
     | false=>none
     | true=>match adv P G N mx ans n dec k (out.st.done ops.toList st.nx (len ops.toList)) with
      | none=>none
      | some A=>some ⟨A.k,A.st,appL out.vc A.vc,out.el::A.el,out.er::A.er,out.bl::A.bl,out.br::A.br⟩
  | k=>some (.here k st)
where
 bNot:Bool→Bool
  | true=>false
  | false=>true
 bOr:Bool→Bool→Bool
  | true,_=>true
  | false,b=>b
theorem adv_ok {mx:Bool} (hm:mx=true→P.follows .mixedOrders=true) {ans:List (Nat×Ann P G)}:∀ (n:Nat) (dec:List Bool) (k:List KI) (st:St) (A:Adv),adv P G N mx ans n dec k st=some A →
  (∀ p∈A.vc,p)→A.el=A.er→A.bl=A.br→Wp P G N kn A.k Q A.st→Wp P G N kn k Q st:=by
 intro n
 induction n with
 | zero=>intro dec k st A h _ _ _ hw; simp only [adv,Option.some.injEq] at h; subst h; exact hw
 | succ n ih =>
  intro dec k st A h hv he hb hw
  unfold adv at h
  split at h
  ·exact Wp.seq (ih _ _ _ _ h hv he hb hw)
  ·exact Wp.skip (ih _ _ _ _ h hv he hb hw)
  ·exact Wp.scope (ih _ _ _ _ h hv he hb hw)
  ·exact Wp.scp (ih _ _ _ _ h hv he hb hw)
  ·exact Wp.nog (ih _ _ _ _ h hv he hb hw)
  ·split at h
   ·rename_i hu;exact Wp.goto hu (ih _ _ _ _ h hv he hb hw)
   ·cases h
  ·exact Wp.label (ih _ _ _ _ h hv he hb hw)
  ·exact Wp.block (ih _ _ _ _ h hv he hb hw)
  ·exact Wp.blk (ih _ _ _ _ h hv he hb hw)
  ·split at h
   ·rename_i hu;exact Wp.exit hu (ih _ _ _ _ h hv he hb hw)
   ·cases h
  ·split at h
   ·simp only [Option.some.injEq] at h;subst h;exact hw
   ·split at h
    ·cases h
    ·rename_i b hc
     split at h
     ·cases h
     ·rename_i A' h'
      simp only [Option.some.injEq] at h
      subst h
      have hd:=hv _ (List.mem_cons_self ..)
      have:=ih _ _ _ _ h' (fun p hp=>hv p (by simp [hp])) he hb hw
      subst hd
      cases b with
      | true=>exact Wp.cond hc (fun _=>this) (fun e=>by cases e)
      | false=>exact Wp.cond hc (fun e=>by cases e) (fun _=>this)
  ·split at h
   ·cases h
   ·rename_i hbo
    split at h
    ·cases h
    ·rename_i out hr
     split at h
     ·cases h
     ·rename_i hd
      split at h
      ·cases h
      ·rename_i A' h'
       simp only [Option.some.injEq] at h
       subst h
       simp only [List.cons.injEq] at he hb
       refine Wp.reg' (fun e=>hm ?_) _ hr hd he.1 hb.1 (fun p hp=>hv p (appL_mem.2 (.inl hp))) (ih _ _ _ _ h' (fun p hp=>hv p (appL_mem.2 (.inr hp))) he.2 hb.2 hw)
       subst e
       simpa [adv.bNot,adv.bOr] using hbo
  ·simp only [Option.some.injEq] at h;subst h;exact hw
def aOk (o:Option Adv):Bool:=match o with
 | some _=>true
 | none=>false
def aK (o:Option Adv):List KI:=match o with
 | some A=>A.k
 | none=>[]
def aSt (o:Option Adv):St:=match o with
 | some A=>A.st
 | none=>⟨[],[],0⟩
def aVc (o:Option Adv):List Prop:=match o with
 | some A=>A.vc
 | none=>[]
def aE (o:Option Adv):List (List (List V1))×List (List (List Blk)):=match o with
 | some A=>(A.el,A.bl)
 | none=>([],[])
def aF (o:Option Adv):List (List (List V1))×List (List (List Blk)):=match o with
 | some A=>(A.er,A.br)
 | none=>([],[])
theorem Wp.go {mx:Bool} (hm:mx=true→P.follows .mixedOrders=true) (ans:List (Nat×Ann P G)) (n:Nat) (dec:List Bool) (vc:List Prop) (h:aOk (adv P G N mx ans n dec k st)=true) (he:aE (adv P G N mx ans n dec k st)=aF (adv P G N mx ans n dec k st))
  (hvc:aVc (adv P G N mx ans n dec k st)=vc) (hv:AllP vc) (hw:Wp P G N kn (aK (adv P G N mx ans n dec k st)) Q (aSt (adv P G N mx ans n dec k st))):Wp P G N kn k Q st:=by
 cases hh:adv P G N mx ans n dec k st with
 | none=>rw [hh] at h; simp [aOk] at h
 | some A =>
  rw [hh] at he hvc hw
  simp only [aE,aF,Prod.mk.injEq,aVc,aK,aSt] at he hvc hw
  subst hvc
  exact adv_ok hm n dec k st A hh (AllP.mem hv) he.1 he.2 hw
def isRet:List KI→Bool
 | .code .ret::_=>true
 | []=>true
 | _=>false
theorem Wp.ret' (h:isRet k=true) (hq:Q st):Wp P G N kn k Q st:=by
 match k,h with
 | [],_=>exact Wp.nil hq
 | .code .ret::k,_=>exact Wp.ret hq
def cOp:List KI→Operand
 | .code (.cond c _ _)::_=>c
 | _ => .func 0
def cX:List KI→List KI
 | .code (.cond _ x _)::k => .code x::k
 | _=>[]
def cY:List KI→List KI
 | .code (.cond _ _ y)::k => .code y::k
 | _=>[]
def isCond:List KI→Bool
 | .code (.cond _ _ _)::_=>true
 | _=>false
theorem Wp.cond' (h:isCond k=true) (b:Bool) (hc:condB st (cOp k)=some b) (ht:b=true→Wp P G N kn (cX k) Q st) (hf:b=false→Wp P G N kn (cY k) Q st):Wp P G N kn k Q st:=by
 match k,h with
 | .code (.cond c x y)::k,_=>exact Wp.cond hc ht hf
def isLoop:List KI→Bool
 | .code (.loop _)::_=>true
 | _=>false
def loopB:List KI→Code
 | .code (.loop c)::_=>c
 | _ => .skip
def loopR:List KI→List KI
 | .code (.loop _)::k=>k
 | _=>[]
def LoopR {X:Type} (kn:Nat) (inv:X→St) (facts:X→Prop) (μ:X→Nat) (x:X):St→Prop:=fun s=>∃ x',facts x'∧μ x'<μ x∧Ent kn s (inv x')
theorem Wp.loop' {X:Type} (h:isLoop k=true) (inv:X→St) (facts:X→Prop) (μ:X→Nat) (x0:X) (h0:Ent kn st (inv x0)) (f0:facts x0)
  (round:∀ x,facts x→Wp P G N kn (.code (loopB k) :: .lp (LoopR kn inv facts μ x)::loopR k) Q (inv x)):Wp P G N kn k Q st:=by
 match k,h with
 | .code (.loop c)::k,_=>exact Wp.loop inv facts μ x0 h0 f0 round
def lpR:List KI→St→Prop
 | .lp R::_=>R
 | _=>fun _=>False
def isCode:List KI→Bool
 | .code _::_=>true
 | _=>false
theorem Wp.ent' (h:isCode k=true) (he:Ent kn st st') (hw:Wp P G N kn k Q st'):Wp P G N kn k Q st:=by
 match k,h with
 | .code c::k,_=>exact Wp.ent he hw
def codeOf (fn:Func):Code:=match fn.body with
 | some c=>c
 | none => .skip
theorem Pur.of {P:Program} {G:Nat→Option (List Cell)} {f:FuncId} {fn:Func} {args rs:List V1} (hf:P.funcs[f]?=some fn) (hb:fn.body=some (codeOf fn)) (hN:Nat.ble (len args) fn.ntmps=true) (ha:idLtVs 0 args=true)
  (h:Wp P G fn.ntmps 0 [.code (codeOf fn)] (FinQ P fn.results.toList 0 (fun r h=>r=rs∧h=[])) (st0 args [])):Pur P G f args rs:=by
 refine Fn.of (hin:=[]) hf hb ?_ (fun j x hj=>idLtVs_inS ha j x hj) (by intro i b h;simp at h) h
 have:=Nat.le_of_ble_eq_true hN
 rw [len_eq] at this
 exact this
end
attribute [irreducible] adv aK aSt aOk aE aF aVc cOp cX cY isCond isLoop loopB loopR lpR isRet isCode LoopR codeOf
end Go.Sv
end
section
namespace Go.Sv
open M
section
variable {Γ:Ctx} {S W:Nat→Prop} {D:Dat} {ρ:Rho} {st st':St} {a:Act} {w:World} {kn:Nat}
theorem Ent.trans {s1 s2 s3:St} (h:Ent kn s1 s2) (k:Ent kn s2 s3):Ent kn s1 s3:=fun Γ a w hk hs=>k Γ a w hk (h Γ a w hk hs)
theorem sl_eqv {D:Dat} {ρ:Rho} {sz m m':Nat} {f f':Nat→Nat→Cell} (hm:m=m') (hf:∀ i,i<m→∀ j,j<sz→f i j=f' i j) {u:Value} (h:Den D ρ (.sl sz m f) u):Den D ρ (.sl sz m' f') u:=by
 subst hm
 simp only [Den] at h ⊢
 obtain ⟨ad,cap,e,h1,h2,h3⟩:=h
 refine ⟨ad,cap,e,h1,h2,h3.imp id ?_⟩
 rintro ⟨b,o,e2,h3⟩
 exact ⟨b,o,e2,fun i hi j hj=>let ⟨u,hu,hd⟩:=h3 i hi j hj;⟨u,hu,(hf i hi j hj)▸hd⟩⟩
theorem EqvD.sl {sz m m':Nat} {f f':Nat→Nat→Cell} (hm:m=m') (hf:∀ i,i<m→∀ j,j<sz→f i j=f' i j):EqvD (.c (.sl sz m f)) (.c (.sl sz m' f')) :=
 fun D ρ u h=>sl_eqv (ρ:=ρ) hm hf h
theorem Sat.turnC (h:Sat Γ S W D ρ st a w) {id o:Nat} {e:TypeId} {cs:List Cell} (hb:look st.hp id=some (.box e cs)) {x:Cell} (hx:∀ y u,cs[o]?=some y→Den D ρ y u→Den D ρ x u) (hin:x.inS S) :
  Sat Γ S W D ρ (st.set (.bk id) (.bk (.box e (setNth cs o x)))) a w:=by
 have hl:∀ k,look (st.set (.bk id) (.bk (.box e (setNth cs o x)))).hp k=if id=k then some (.box e (setNth cs o x)) else look st.hp k:=fun k=>look_put _ _ _ _
 have key:∀ i c,look (st.set (.bk id) (.bk (.box e (setNth cs o x)))).hp i=some c→Live ρ i c→∃ c0,look st.hp i=some c0∧Live ρ i c0:=by
  intro i c hc lc
  rw [hl] at hc
  by_cases e':id=i
  ·exact ⟨.box e cs,by rw [← e'];exact hb,lc⟩
  ·rw [if_neg e'] at hc;exact ⟨c,hc,lc⟩
 refine { h with tm:=h.tm,hp := ?_,inj := ?_,sep := ?_,own := ?_,idT:=h.idT,idH := ?_ }
 ·intro k c hc
  rw [hl] at hc
  by_cases e':id=k
  ·subst e'
   rw [if_pos rfl] at hc
   simp only [Option.some.injEq] at hc
   subst hc
   obtain ⟨h0,vs,fz,q1,q2,q3,q4⟩:=h.hp id _ hb
   refine ⟨by rw [setNth_eq,List.length_set];exact h0,vs,fz,q1,by rw [setNth_eq,List.length_set];exact q2,q3,fun j y hj => ?_⟩
   rw [setNth_eq,List.getElem?_set] at hj
   by_cases ho:o=j
   ·subst ho
    rw [if_pos rfl] at hj
    split at hj
    ·simp only [Option.some.injEq] at hj
     subst hj
     rename_i hlt
     obtain ⟨u,hu,hd⟩:=q4 o _ (by simp [hlt]:cs[o]?=some cs[o])
     exact ⟨u,hu,hx _ _ (by simp [hlt]) hd⟩
    ·cases hj
   ·rw [if_neg ho] at hj
    exact q4 j y hj
  ·rw [if_neg e'] at hc;exact h.hp k c hc
 ·intro i j bi bj hi hj li lj hij
  obtain ⟨ci,hi,li⟩:=key i bi hi li
  obtain ⟨cj,hj,lj⟩:=key j bj hj lj
  exact h.inj i j ci cj hi hj li lj hij
 ·intro i c hc lc
  obtain ⟨c0,hc0,l0⟩:=key i c hc lc
  exact h.sep i c0 hc0 l0
 ·intro i c hc lc
  obtain ⟨c0,hc0,l0⟩:=key i c hc lc
  exact h.own i c0 hc0 l0
 ·intro i c hc
  rw [hl] at hc
  by_cases e':id=i
  ·subst e'
   rw [if_pos rfl] at hc
   simp only [Option.some.injEq] at hc
   subst hc
   obtain ⟨i1,i2⟩:=h.idH id _ hb
   refine ⟨i1,fun j y hj => ?_⟩
   rw [setNth_eq,List.getElem?_set] at hj
   split at hj
   ·split at hj
    ·simp only [Option.some.injEq] at hj;subst hj;exact hin
    ·cases hj
   ·exact i2 j y hj
  ·rw [if_neg e'] at hc;exact h.idH i c hc
theorem Ent.pubT {id t off m m' sz n:Nat} {e:TypeId} {f f':Nat→Nat→Cell} (h1:look st.hp id=some (.row e sz n f)) (h2:look st.tm t=some (.v (.c (.row sz id off m)))) (hle:off+m≤n)
  (hm:m=m') (hf:∀ i,i<m→∀ j,j<sz→f (off+i) j=f' i j)
  (he:(st.set (.bk id) .gone).set (.tm t) (.tv (.v (.c (.sl sz m' f'))))=st'):Ent kn st st':=by
 subst he
 intro Γ a w hk ⟨D,ρ,h⟩
 obtain ⟨u,hu,hd⟩:=h.tm t _ h2
 obtain ⟨D',hle',h3,hp⟩:=h.publish h1
 exact ⟨D',ρ,h3.turn (fun u' hu'=>by
  rw [hu] at hu'
  simp only [Option.some.injEq] at hu'
  subst hu'
  exact Den.flat (ρ:=rho0) rfl (sl_eqv hm hf (hp u off m hle hd))) trivial ⟨u,hu⟩⟩
theorem Ent.pubC {id b o off m m' sz n:Nat} {e e':TypeId} {cs:List Cell} {f f':Nat→Nat→Cell} (h1:look st.hp id=some (.row e sz n f)) (h2:look st.hp b=some (.box e' cs)) (h3:cs[o]?=some (.row sz id off m)) (hle:off+m≤n)
  (hm:m=m') (hf:∀ i,i<m→∀ j,j<sz→f (off+i) j=f' i j)
  (he:(st.set (.bk id) .gone).set (.bk b) (.bk (.box e' (setNth cs o (.sl sz m' f'))))=st'):Ent kn st st':=by
 subst he
 intro Γ a w hk ⟨D,ρ,h⟩
 obtain ⟨D',hle',hs,hp⟩:=h.publish h1
 have hne:id≠b:=by rintro rfl;rw [h1] at h2;cases h2
 have hb:look (st.set (.bk id) .gone).hp b=some (.box e' cs):=by
  show look (del st.hp id) b=_
  rw [look_del,if_neg hne];exact h2
 refine ⟨D',ρ,hs.turnC hb (fun y u hy hd => ?_) trivial⟩
 rw [h3] at hy
 simp only [Option.some.injEq] at hy
 subst hy
 have hd0:Den D ρ (.row sz id off m) u:=by simp only [Den] at hd ⊢;exact hd
 exact Den.flat (ρ:=rho0) rfl (sl_eqv hm hf (hp u off m hle hd0))
theorem Ent.empT {t sz:Nat} {e:TypeId} {f:Nat→Nat→Cell} (hsz:0<sz) (h2:look st.tm t=some (.v (.c .nilsl)))
  (he:(({ st with nx:=st.nx+16 }:St).set (.bk st.nx) (.bk (.row e sz 0 f))).set (.tm t) (.tv (.v (.c (.row sz st.nx 0 0))))=st'):Ent kn st st':=by
 subst he
 intro Γ a w hk ⟨D,ρ,h⟩
 obtain ⟨u,hu,hd⟩:=h.tm t _ h2
 have hd:u = .slice none 0 0:=hd
 have hfr:Fresh (fun id=>id<st.nx) st.nx:=fun id h1 h2 h3=>by omega
 have hrn:rhoSet ρ st.nx (0,0) st.nx=(0,0):=by simp [rhoSet]
 have hal:=h.alias (nid:=st.nx) (p:=(0,0)) (b := .row e sz 0 f) hfr (.inl ⟨by rw [hrn],rfl,hsz⟩) trivial (fun hh=>(hh rfl).elim)
 have hal:=hal.turn (t:=t) (v' := .v (.c (.row sz st.nx 0 0))) (fun u' hu'=>by
  rw [hu] at hu'
  simp only [Option.some.injEq] at hu'
  subst hu' hd
  exact .inr ⟨by rw [hrn],rfl,rfl,none,.inl rfl,rfl⟩) (.inr ⟨Nat.le_refl _,by omega⟩) ⟨u,hu⟩
 have hal:=hal.mono (S':=fun i=>i<st.nx+16) (W':=fun _=>False) (fun i hi=>by show i<st.nx+16;rcases hi with hi | hi<;>omega) (fun _ h=>h)
 refine ⟨D,rhoSet ρ st.nx (0,0),Sat.congr (fun k => ?_) (fun k => ?_) hal⟩
 ·rfl
 ·rfl
theorem Ent.empC {b o sz:Nat} {e e':TypeId} {cs:List Cell} {f:Nat→Nat→Cell} (hsz:0<sz) (hlt:b<st.nx) (h2:look st.hp b=some (.box e' cs)) (h3:cs[o]?=some .nilsl)
  (he:(({ st with nx:=st.nx+16 }:St).set (.bk st.nx) (.bk (.row e sz 0 f))).set (.bk b) (.bk (.box e' (setNth cs o (.row sz st.nx 0 0))))=st'):Ent kn st st':=by
 subst he
 intro Γ a w hk ⟨D,ρ,h⟩
 have hfr:Fresh (fun id=>id<st.nx) st.nx:=fun id h1 h2 h3=>by omega
 have hrn:rhoSet ρ st.nx (0,0) st.nx=(0,0):=by simp [rhoSet]
 have hal:=h.alias (nid:=st.nx) (p:=(0,0)) (b := .row e sz 0 f) hfr (.inl ⟨by rw [hrn],rfl,hsz⟩) trivial (fun hh=>(hh rfl).elim)
 have hb:look (st.set (.bk st.nx) (.bk (.row e sz 0 f))).hp b=some (.box e' cs):=by
  show look (put st.hp st.nx _) b=_
  rw [look_put,if_neg oM];exact h2
 have hal:=hal.turnC (o:=o) (x := .row sz st.nx 0 0) hb (fun y u hy hd=>by
  rw [h3] at hy
  simp only [Option.some.injEq] at hy
  subst hy
  have hd:u = .slice none 0 0:=hd
  subst hd
  exact .inr ⟨by rw [hrn],rfl,rfl,none,.inl rfl,rfl⟩) (.inr ⟨Nat.le_refl _,by omega⟩)
 have hal:=hal.mono (S':=fun i=>i<st.nx+16) (W':=fun _=>False) (fun i hi=>by show i<st.nx+16;rcases hi with hi | hi<;>omega) (fun _ h=>h)
 refine ⟨D,rhoSet ρ st.nx (0,0),Sat.congr (fun k => ?_) (fun k => ?_) hal⟩
 ·rfl
 ·rfl
end
end Go.Sv
end
section
open Go Go.RowKit
namespace Go.Sv
structure BelowD (G:Nat→Option (List Cell)) (B:Nat) (w w':World):Prop extends Below B w w' where
 drawn:NoBack G→w.drawn≤w'.drawn
theorem BelowD.refl {G:Nat→Option (List Cell)} (B:Nat) (w:World):BelowD G B w w:=⟨Below.refl B w,fun _=>Nat.le_refl _⟩
class Back (G:Nat→Option (List Cell)):Prop where
 no:¬ NoBack G
theorem BelowD.of {G:Nat→Option (List Cell)} [hG:Back G] {B:Nat} {w w':World} (h:Below B w w'):BelowD G B w w':=⟨h,fun n=>absurd n hG.no⟩
theorem Pur.of_below {P:Program} {G:Nat→Option (List Cell)} {f:FuncId} {args rs:List V1} (hfl:flatsV rs=true)
  (h:∀ (D:Dat) (ρ:Rho) (w:World) (vs:Array Value),DenL D ρ args vs→GlobOk G D→GlobW G w→Agree D w →
   Calls P f vs w fun e w'=>∃ v,e = .returned v∧ResDen D ρ rs v∧BelowD G w.heap.size w w'):Pur P G f args rs:=by
 intro D ρ w vs h1 h2 hgw h3 _ _
 refine (h D ρ w vs h1 h2 hgw h3).mono ?_
 rintro e w' ⟨v,rfl,hr,hb⟩
 refine ⟨rs,[],D,ρ,v,rfl,⟨rfl,rfl⟩,hr,fun j x hj=>flatsV_inS hfl j x hj,?_⟩
 have ag:Agree D w':=by
  intro b o v hv
  have:=h3 b o v hv
  rw [cell_block (hb.block b (heap_of_cell this))]
  exact this
 exact {
  hp:=fun id b hb=>by simp [look] at hb
  inj:=fun i j bi bj hi=>by simp [look] at hi
  sep:=fun id b hb=>by simp [look] at hb
  agree:=ag
  le:=DatLe.refl D
  kin:=fun i hi=>rfl
  own:=fun id b hb=>by simp [look] at hb
  newD:=fun b o v hv => .inl hv
  frame:=fun b hlt _=>hb.block b hlt
  os:=hb.os
  tape:=hb.tape
  output:=hb.output
  grow:=hb.size
  drawn:=hb.drawn
  ids:=fun id b hb=>by simp [look] at hb }
theorem DenL.one {D:Dat} {ρ:Rho} {x:V1} {vs:Array Value} (h:DenL D ρ [x] vs):∃ u,vs=#[u]∧DenV D ρ x u:=by
 obtain ⟨u,hu,hd⟩:=h.2 0 x rfl
 refine ⟨u,?_,hd⟩
 have hs:=h.1
 apply Array.ext_getElem?
 intro k
 cases k with
 | zero=>simpa using hu
 | succ k=>rw [Array.getElem?_eq_none (by simp at hs ⊢; omega)]; simp
theorem DenL.two {D:Dat} {ρ:Rho} {x y:V1} {vs:Array Value} (h:DenL D ρ [x,y] vs):∃ u v,vs=#[u,v]∧DenV D ρ x u∧DenV D ρ y v:=by
 obtain ⟨u,hu,hd⟩:=h.2 0 x rfl
 obtain ⟨v,hv,hd'⟩:=h.2 1 y rfl
 refine ⟨u,v,?_,hd,hd'⟩
 have hs:=h.1
 apply Array.ext_getElem?
 intro k
 match k with
 | 0=>simpa using hu
 | 1=>simpa using hv
 | k+2=>rw [Array.getElem?_eq_none (by simp at hs ⊢; omega)]; simp
theorem Pur.of_alloc {P:Program} {G:Nat→Option (List Cell)} {f:FuncId} {args:List V1} {n:Nat} {F:Nat→Nat→Cell} (hn:n≤maxLen)
  (h:∀ (D:Dat) (ρ:Rho) (w:World) (vs:Array Value),DenL D ρ args vs→GlobOk G D→GlobW G w→Agree D w →
   Calls P f vs w fun e w'=>∃ (arr:Array Value) (t:TypeId),e = .returned (.slice (some ⟨w.heap.size,0,none⟩) n n)∧w'=w.alloc (.cells arr t)∧arr.size=n ∧
    ∀ i,i<n→∃ u,arr[i]?=some u∧∀ D,Den D rho0 (F i 0) u):Pur P G f args [.c (.sl 1 n F)]:=by
 intro D ρ w vs h1 h2 hgw h3 _ _
 refine (h D ρ w vs h1 h2 hgw h3).mono ?_
 rintro e w' ⟨arr,t,rfl,rfl,hs,hden⟩
 let D':Dat:=fun b o=>if b=w.heap.size then arr[o]? else D b o
 have hDn:∀ b o v,D b o=some v→b<w.heap.size:=fun b o v hv=>heap_of_cell (h3 b o v hv)
 have hle:DatLe D D':=by
  intro b o v hv
  have:=hDn b o v hv
  show (if b=w.heap.size then arr[o]? else D b o)=some v
  rw [if_neg oM];exact hv
 have hblk:∀ b,b<w.heap.size→(w.alloc (.cells arr t)).heap[b]?=w.heap[b]?:=by
  intro b hb
  show (w.heap.push _)[b]?=_
  rw [Array.getElem?_push,if_neg oM]
 have hnew:(w.alloc (.cells arr t)).heap[w.heap.size]?=some (.cells arr t):=by
  show (w.heap.push _)[_]?=_
  simp
 refine ⟨[.c (.sl 1 n F)],[],D',ρ,_,rfl,⟨rfl,rfl⟩,?_,fun j x hj=>flatsV_inS rfl j x hj,?_⟩
 ·show Den D' ρ (.sl 1 n F) _
  refine ⟨_,_,rfl,Nat.le_refl _,hn,.inr ⟨w.heap.size,0,rfl,fun i hi j hj => ?_⟩⟩
  obtain rfl:j=0:=by omega
  obtain ⟨u,hu,hd⟩:=hden i hi
  refine ⟨u,?_,hd D'⟩
  show (if w.heap.size=w.heap.size then arr[0+i*1+0]? else _)=_
  rw [if_pos rfl,← hu]
  congr 1;omega
 have ag:Agree D' (w.alloc (.cells arr t)):=by
  intro b o v hv
  have hv:(if b=w.heap.size then arr[o]? else D b o)=some v:=hv
  by_cases e:b=w.heap.size
  ·rw [if_pos e] at hv
   rw [e]
   simp only [World.cell?,hnew,Option.isSome_none,Bool.false_eq_true,if_false]
   exact hv
  ·rw [if_neg e] at hv
   rw [cell_block (hblk b (hDn b o v hv))]
   exact h3 b o v hv
 exact {
  hp:=fun id b hb=>by simp [look] at hb
  inj:=fun i j bi bj hi=>by simp [look] at hi
  sep:=fun id b hb=>by simp [look] at hb
  agree:=ag
  le:=hle
  kin:=fun i hi=>rfl
  own:=fun id b hb=>by simp [look] at hb
  newD:=fun b o v hv=>by
   have hv:(if b=w.heap.size then arr[o]? else D b o)=some v:=hv
   split at hv
   ·rename_i e;right;left;omega
   ·exact .inl hv
  frame:=fun b hlt _=>hblk b hlt
  os:=rfl
  tape:=rfl
  output:=rfl
  grow:=by show _≤(w.heap.push _).size;simp
  drawn:=fun _=>Nat.le_refl _
  ids:=fun id b hb=>by simp [look] at hb }
end Go.Sv
end
section
namespace Go.Sv
open M
theorem BlkEqv.of_eq {b b':Blk} (h:b=b'):BlkEqv b b':=h▸BlkEqv.refl b
def bytesF (l:List UInt8):Nat→Nat→Cell:=fun i _ => .int .u8 ((l.getD i 0).toNat:Int)
theorem byteL_F (l:List UInt8) {n:Nat} (h:n=l.length):byteL (bytesF l) 0 n=l:=by
 subst h
 apply List.ext_getElem?
 intro i
 simp only [byteL,List.getElem?_map]
 rcases Nat.lt_or_ge i l.length with hi | hi
 ·rw [List.getElem?_range hi]
  simp [bytesF,byteOf,List.getD,hi]
 ·rw [List.getElem?_eq_none (by simpa using hi),List.getElem?_eq_none hi];rfl
theorem areBytes_F (l:List UInt8) (off n:Nat):areBytes (bytesF l) off n:=by
 intro i hi
 simp [bytesF,byteOf]
theorem catF_bytes (l r:List UInt8) {n:Nat} (h:n=l.length) (i j:Nat):catF n (bytesF l) (bytesF r) i j=bytesF (l++r) i j:=by
 subst h
 unfold catF
 split
 ·rename_i hi;simp [bytesF,List.getD,List.getElem?_append,hi]
 ·rename_i hi;simp [bytesF,List.getD,List.getElem?_append,hi]
theorem look_hinB:∀ (l:List Blk) (k i:Nat) (b:Blk),l[i]?=some b→look (hinB k l) (k+i)=some b
 | [],k,i,b,h=>by simp at h
 | c::r,k,0,b,h=>by
  simp only [List.getElem?_cons_zero,Option.some.injEq] at h
  subst h
  simp [hinB,look]
 | c::r,k,i+1,b,h=>by
  simp only [List.getElem?_cons_succ] at h
  have:=look_hinB r (k+1) i b h
  simp only [hinB,look]
  rw [(beq_ne k (k+(i+1))).2 oM]
  rw [show k+(i+1)=k+1+i from by omega]
  exact this
theorem Fn.of' {P:Program} {G:Nat→Option (List Cell)} {f:FuncId} {fn:Func} {hin:List Blk} {args:List V1} {R:List V1→List (Nat×Blk)→Prop}
  (hf:P.funcs[f]?=some fn) (hb:fn.body=some (codeOf fn)) (hN:Nat.ble (len args) fn.ntmps=true) (ha:idLtVs (len hin) args=true) (hh:idLtB (len hin) (hinB 0 hin)=true) (hr:RowsIn (fun i=>i<len hin) (hinB 0 hin))
  (h:Wp P G fn.ntmps (len hin) [.code (codeOf fn)] (FinQ P fn.results.toList (len hin) R) (st0 args hin)):Fn P G f hin args R:=by
 have hl:=len_eq hin
 rw [hl] at h ha hh hr
 refine Fn.of (hin:=hin) hf hb ?_ (fun j x hj=>idLtVs_inS ha j x hj) (fun i b hi => ?_) h
 ·have:=Nat.le_of_ble_eq_true hN
  rw [len_eq] at this
  exact this
 ·have:=look_hinB hin 0 i b hi
  exact (idLtB_inS hh hr _ b this).2
def mem1 (ids:List Nat) (n:Nat):Bool:=match notIn n ids with
 | true=>false
 | false=>true
def mIn (ids:List Nat):Cell→Bool
 | .ptr id _ | .row _ id _ _ | .rp _ id _ _ | .map id=>mem1 ids id
 | .int .. | .bool _ | .str _ | .sl .. | .nilsl | .emp | .nilptr | .dp .. | .nilmap | .nilfn | .nilif | .cl _=>true
 | .clo .. | .ifc ..=>false
def mInL (ids:List Nat):List Cell→Bool
 | []=>true
 | x::r=>bAnd (mIn ids x) (mInL ids r)
def mInV (ids:List Nat):V1→Bool
 | .c (.ifc _ sh c)=>match sh with
  | none=>mIn ids (c 0)
  | some m=>mInL ids (upL c 0 m)
 | .c (.clo _ k sh c)=>allB (fun i=>match sh i with | none=>mIn ids (c i 0) | some m=>mInL ids (upL (c i) 0 m)) k
 | .c x=>mIn ids x
 | .agg l=>mInL ids l
def mInVs (ids:List Nat):List V1→Bool
 | []=>true
 | x::r=>bAnd (mInV ids x) (mInVs ids r)
def mInC (ids:List Nat):List Cell→Bool
 | []=>true
 | x::r=>bAnd (mInV ids (.c x)) (mInC ids r)
def mInB (ids:List Nat):List (Nat×Blk)→Bool
 | []=>true
 | (_,.box _ cs)::r=>bAnd (mInC ids cs) (mInB ids r)
 | (_,.ob (.mi mid _ _))::r=>bAnd (mem1 ids mid) (mInB ids r)
 | (_,_)::r=>mInB ids r
theorem mem1_ev {ids:List Nat} {n:Nat} (h:mem1 ids n=true):n∈ids:=by
 induction ids with
 | nil=>simp [mem1,notIn] at h
 | cons y r ih =>
  simp only [mem1,notIn] at h
  cases hb:Nat.beq n y with
  | true=>rw [(beq_eq _ _).1 hb]; simp
  | false=>rw [hb] at h; exact List.mem_cons_of_mem _ (ih h)
theorem mIn_inS {ids:List Nat} {x:Cell} (h:mIn ids x=true):x.inS (fun i=>i∈ids):=by
 cases x<;>simp only [mIn,Bool.false_eq_true] at h<;>first | exact mem1_ev h | trivial
theorem mInL_inS {ids:List Nat}:∀ {l:List Cell},mInL ids l=true→∀ (j:Nat) (x:Cell),l[j]?=some x→x.inS (fun i=>i∈ids)
 | [],_,j,x,hj=>by simp at hj
 | y::r,h,0,x,hj=>by obtain ⟨h1,_⟩:=bAnd_eq h; simp at hj; subst hj; exact mIn_inS h1
 | y::r,h,j+1,x,hj=>by obtain ⟨_,h2⟩:=bAnd_eq h; simp at hj; exact mInL_inS h2 j x hj
theorem mInV_inS {ids:List Nat} {x:V1} (h:mInV ids x=true):x.inS (fun i=>i∈ids):=by
 cases x with
 | agg l=>exact mInL_inS h
 | c x =>
  cases x with
  | ifc t sh c =>
   cases sh with
   | none=>exact mIn_inS (x:=c 0) h
   | some m =>
    have h:mInL ids (upL c 0 m)=true:=h
    intro j hj
    exact mInL_inS h j _ (by rw [upL_get,if_pos hj];simp)
  | clo f k sh c =>
   have h:allB (fun i=>match sh i with | none=>mIn ids (c i 0) | some m=>mInL ids (upL (c i) 0 m)) k=true:=h
   intro i hi
   have hg:=allB_get h i hi
   cases hs:sh i with
   | none=>simp only [hs] at hg ⊢; exact mIn_inS hg
   | some m =>
    simp only [hs] at hg ⊢
    intro j hj
    exact mInL_inS hg j _ (by rw [upL_get,if_pos hj];simp)
  | _=>exact mIn_inS h
theorem mInVs_inS {ids:List Nat}:∀ {l:List V1},mInVs ids l=true→∀ (j:Nat) (x:V1),l[j]?=some x→x.inS (fun i=>i∈ids)
 | [],_,j,x,hj=>by simp at hj
 | y::r,h,0,x,hj=>by obtain ⟨h1,_⟩:=bAnd_eq h; simp at hj; subst hj; exact mInV_inS h1
 | y::r,h,j+1,x,hj=>by obtain ⟨_,h2⟩:=bAnd_eq h; simp at hj; exact mInVs_inS h2 j x hj
theorem mInC_inS {ids:List Nat}:∀ {l:List Cell},mInC ids l=true→∀ (j:Nat) (x:Cell),l[j]?=some x→x.inS (fun i=>i∈ids)
 | [],_,j,x,hj=>by simp at hj
 | y::r,h,0,x,hj=>by obtain ⟨h1,_⟩:=bAnd_eq h; simp at hj; subst hj; exact mInV_inS (x := .c y) h1
 | y::r,h,j+1,x,hj=>by obtain ⟨_,h2⟩:=bAnd_eq h; simp at hj; exact mInC_inS h2 j x hj
theorem mInB_inS {ids:List Nat}:∀ {l:List (Nat×Blk)},mInB ids l=true→RowsIn (fun i=>i∈ids) l→∀ id b,look l id=some b→b.inS (fun i=>i∈ids)
 | [],_,_,t,v,h=>by simp [look] at h
 | (k,.box e cs)::r,h,hr,t,v,hl=>by
  obtain ⟨h2,h3⟩:=bAnd_eq h
  simp only [look] at hl
  split at hl
  ·simp only [Option.some.injEq] at hl;subst hl;exact mInC_inS h2
  ·exact mInB_inS h3 hr t v hl
 | (k,.row e sz n f)::r,h,hr,t,v,hl=>by
  simp only [look] at hl
  split at hl
  ·simp only [Option.some.injEq] at hl;subst hl;trivial
  ·exact mInB_inS (l:=r) h trivial t v hl
 | (k,.ob (.mi mid n seen))::r,h,hr,t,v,hl=>by
  obtain ⟨h2,h3⟩:=bAnd_eq h
  simp only [look] at hl
  split at hl
  ·simp only [Option.some.injEq] at hl;subst hl;exact mem1_ev h2
  ·exact mInB_inS h3 hr t v hl
 | (k,.ob (.ms m))::r,h,hr,t,v,hl=>by
  simp only [look] at hl
  split at hl
  ·simp only [Option.some.injEq] at hl;subst hl;trivial
  ·exact mInB_inS (l:=r) h hr t v hl
 | (k,.ob (.it s p))::r,h,hr,t,v,hl=>by
  simp only [look] at hl
  split at hl
  ·simp only [Option.some.injEq] at hl;subst hl;trivial
  ·exact mInB_inS (l:=r) h hr t v hl
theorem fst_look {l:List (Nat×Blk)} {i:Nat} (h:i∈fstL l):∃ b,look l i=some b:=by
 induction l with
 | nil=>simp [fstL] at h
 | cons p r ih =>
  obtain ⟨k,v⟩:=p
  simp only [look]
  cases hb:Nat.beq k i with
  | true=>exact ⟨v,rfl⟩
  | false =>
   simp only [fstL] at h
   rcases List.mem_cons.1 h with h | h
   ·exact absurd h.symm ((beq_ne _ _).1 hb)
   ·exact ih h
theorem look_mem {l:List (Nat×Blk)} {i:Nat} {b:Blk} (h:look l i=some b):(i,b)∈l:=by
 induction l with
 | nil=>simp [look] at h
 | cons p r ih =>
  obtain ⟨k,v⟩:=p
  simp only [look] at h
  split at h
  ·rename_i hb
   simp only [Option.some.injEq] at h
   rw [(beq_eq _ _).1 hb,h];simp
  ·exact List.mem_cons_of_mem _ (ih h)
theorem nodup_inj {σ:Nat→Nat}:∀ {l:List Nat},nodupB (mapL σ l)=true→∀ i j,i∈l→j∈l→σ i=σ j→i=j
 | [],_,i,j,hi,_,_=>by simp at hi
 | x::r,h,i,j,hi,hj,e=>by
  simp only [mapL,nodupB] at h
  obtain ⟨h1,h2⟩:=bAnd_eq h
  have h1:=notIn_mem h1
  rw [mapL_eq] at h1
  rcases List.mem_cons.1 hi with hi | hi<;>rcases List.mem_cons.1 hj with hj | hj
  ·rw [hi,hj]
  ·exact absurd (List.mem_map.2 ⟨j,hj,by rw [← e,hi]⟩) h1
  ·exact absurd (List.mem_map.2 ⟨i,hi,by rw [e,hj]⟩) h1
  ·exact nodup_inj h2 i j hi hj e
theorem fstL_mem {l:List (Nat×Blk)} {i:Nat} {b:Blk} (h:(i,b)∈l):i∈fstL l:=by
 induction l with
 | nil=>simp at h
 | cons p r ih =>
  obtain ⟨k,v⟩:=p
  simp only [fstL]
  rcases List.mem_cons.1 h with h | h
  ·simp only [Prod.mk.injEq] at h;simp [h.1]
  ·exact List.mem_cons_of_mem _ (ih h)
theorem FinQ.blk {P:Program} {rv:List ResultVar} {kn:Nat} {st:St} {rs:List V1} {hout:List (Nat×Blk)} (m:List Nat) (hr:resV P rv st=some (mapL (V1.ren (sigF kn m)) rs))
  (hb:mapL (fun p:Nat×Blk=>look st.hp (sigF kn m p.1)) hout=mapL (fun p:Nat×Blk=>some (p.2.ren (sigF kn m))) hout) (hi:nodupB (mapL (sigF kn m) (fstL hout))=true)
  (h4:mInVs (fstL hout) rs=true) (h5:mInB (fstL hout) hout=true) (h6:RowsIn (fun i=>i∈fstL hout) hout):FinQ P rv kn (fun r h=>r=rs∧h=hout) st:=by
 have up:∀ i,i∈fstL hout→∃ c,look hout i=some c:=fun i=>fst_look
 refine ⟨rs,hout,m,⟨rfl,rfl⟩,?_,fun id b hl => ?_,fun i j bi bj h1 h2 e=>nodup_inj hi i j (fstL_mem (look_mem h1)) (fstL_mem (look_mem h2)) e,fun j x hj=>V1.inS_mono up (mInVs_inS h4 j x hj),fun id b hl=>Blk.inS_mono up (mInB_inS h5 h6 id b hl)⟩
 ·rw [mapL_eq] at hr
  unfold resV at hr
  cases hh:resM P rv st.get with
  | none=>simp [hh] at hr
  | some p=>obtain ⟨l,r⟩:=p; simp only [hh,Option.some.injEq] at hr; subst hr; exact ⟨r,hh⟩
 ·have hm:=look_mem hl
  have gen:∀ l:List (Nat×Blk),mapL (fun p:Nat×Blk=>look st.hp (sigF kn m p.1)) l=mapL (fun p:Nat×Blk=>some (p.2.ren (sigF kn m))) l→(id,b)∈l→look st.hp (sigF kn m id)=some (b.ren (sigF kn m)):=by
   intro l
   induction l with
   | nil=>intro _ h; simp at h
   | cons p r ih =>
    intro e h
    simp only [mapL,List.cons.injEq] at e
    rcases List.mem_cons.1 h with h | h
    ·subst h;exact e.1
    ·exact ih e.2 h
  exact gen hout hb hm
theorem FinQ.blkE {P:Program} {rv:List ResultVar} {kn:Nat} {st:St} {rs rs':List V1} {hout hout':List (Nat×Blk)} (e:rs'=rs∧hout'=hout) (m:List Nat) (hr:resV P rv st=some (mapL (V1.ren (sigF kn m)) rs'))
  (hb:mapL (fun p:Nat×Blk=>look st.hp (sigF kn m p.1)) hout'=mapL (fun p:Nat×Blk=>some (p.2.ren (sigF kn m))) hout') (hi:nodupB (mapL (sigF kn m) (fstL hout'))=true)
  (h4:mInVs (fstL hout') rs'=true) (h5:mInB (fstL hout') hout'=true) (h6:RowsIn (fun i=>i∈fstL hout') hout'):FinQ P rv kn (fun r h=>r=rs∧h=hout) st:=by
 obtain ⟨rfl,rfl⟩:=e
 exact FinQ.blk m hr hb hi h4 h5 h6
section
variable {P:Program} {G:Nat→Option (List Cell)} {N kn:Nat} {k:List KI} {Q:St→Prop} {st:St}
theorem Wp.loopK {X:Type} (h:isLoop k=true) (inv:X→St) (facts:X→Prop) (μ:X→Nat) (x0:X) (h0:Ent kn st (inv x0)) (f0:facts x0)
  (round:∀ (x:X) (L:St→Prop),facts x→(∀ st x',facts x'→μ x'<μ x→Ent kn st (inv x')→L st)→Wp P G N kn (.code (loopB k) :: .lp L::loopR k) Q (inv x)):Wp P G N kn k Q st :=
 Wp.loop' h inv facts μ x0 h0 f0 (fun x fx=>round x (LoopR kn inv facts μ x) fx (fun st x' h1 h2 h3=>by unfold LoopR;exact ⟨x',h1,h2,h3⟩))
theorem Wp.lpK {L:St→Prop} (h:lpR k=L) (hl:L st):Wp P G N kn k Q st:=by
 unfold lpR at h
 split at h
 ·subst h;exact Wp.lp hl
 ·subst h;exact hl.elim
end
theorem Wp.rs {P:Program} {G:Nat→Option (List Cell)} {N kn:Nat} {k:List KI} {rv:List ResultVar} {st:St} {rs rs':List V1} {hout:List (Nat×Blk)} (e:rs'=rs)
  (h:Wp P G N kn k (FinQ P rv kn (fun r h=>r=rs'∧h=hout)) st):Wp P G N kn k (FinQ P rv kn (fun r h=>r=rs∧h=hout)) st:=e▸h
theorem Ent.blkE {kn:Nat} {st st':St} {id:Nat} {b b':Blk} (hb:look st.hp id=some b) (he:BlkEqv b b') (e:st.set (.bk id) (.bk b')=st'):Ent kn st st':=by
 subst e
 intro Γ a w hk ⟨D,ρ,h⟩
 exact ⟨D,ρ,h.turnB hb he⟩
def bl (xs:List UInt8):List Cell:=xs.map fun x => .int .u8 (x.toNat:Int)
theorem bl_get (xs:List UInt8) {i:Nat} (hi:i<xs.length):nthD (bl xs) i = .int .u8 ((xs.getD i 0).toNat:Int):=by
 simp [nthD,nth_eq,bl,List.getD,hi]
theorem bytes_app {e:TypeId} {n:Nat} (l xs:List UInt8) (hn:n=l.length):BlkEqv (.row e 1 (n+xs.length) (catF n (bytesF l) (fun i j=>nthD (bl xs) ((0+i)*1+j)))) (.row e 1 (n+xs.length) (bytesF (l++xs))):=by
 refine BlkEqv.row_ext rfl fun i hi j hj => ?_
 obtain rfl:j=0:=by omega
 rw [← catF_bytes l xs hn]
 unfold catF
 split
 ·rfl
 ·show nthD (bl xs) ((0+(i-n))*1+0)=_
  rw [show (0+(i-n))*1+0=i-n from by omega,bl_get xs oM];rfl
def rowB (xs:List UInt8):Nat→Nat→Cell:=fun i j=>nthD (bl xs) (i*1+j)
theorem areBytes_B (xs:List UInt8) {n:Nat} (hn:n=xs.length):areBytes (rowB xs) 0 n:=by
 intro i hi
 have e:rowB xs (0+i) 0 = .int .u8 ((xs.getD i 0).toNat:Int):=by
  show nthD (bl xs) ((0+i)*1+0)=_
  rw [show (0+i)*1+0=i from by omega,bl_get xs oM]
 rw [e];simp [byteOf]
theorem byteL_B (xs:List UInt8) {n:Nat} (hn:n=xs.length):byteL (rowB xs) 0 n=xs:=by
 have:byteL (rowB xs) 0 n=byteL (bytesF xs) 0 n:=by
  unfold byteL
  apply List.map_congr_left
  intro i hi
  have hi:i<n:=by simpa using hi
  show byteOf (nthD (bl xs) ((0+i)*1+0))=_
  rw [show (0+i)*1+0=i from by omega,bl_get xs oM]
  rw [Nat.zero_add];rfl
 rw [this,byteL_F xs hn]
theorem wrap8 {n:Int} (h1:0≤n) (h2:n<256):IntKind.u8.wrap n=n:=by
 simp [IntKind.wrap,IntKind.signed,IntKind.bits]
 omega
def cloRaw (f:FuncId) (l:List V1):Cell := .clo f (len l) (fun i=>match nth l i with | some v=>shOf v | none=>none) (fun i j=>match nth l i with | some v=>nthD v.cells j | none => .nilif)
def clo1 (f:FuncId) (x:Cell):Cell := .clo f 1 (fun _=>none) (fun _ _=>x)
theorem clo1_D (f:FuncId) (x:Cell):EqvD (.c (cloRaw f [.c x])) (.c (clo1 f x)):=by
 intro D ρ u h
 obtain ⟨vs,e,hs,hx⟩:=(h:Den D ρ (cloRaw f [.c x]) u)
 refine (⟨vs,e,hs,fun i hi => ?_⟩:Den D ρ (clo1 f x) u)
 obtain rfl:i=0:=by omega
 exact hx 0 hi
theorem clo1_I (f:FuncId) (x:Cell):EqvI (.c (cloRaw f [.c x])) (.c (clo1 f x)):=by
 intro S h i hi
 obtain rfl:i=0:=by omega
 exact h 0 hi
abbrev FnB (P:Program) (G:Nat→Option (List Cell)) (f:FuncId) (hin:List Blk) (args rs:List V1) (hout:List (Nat×Blk)):Prop:=Fn P G f hin args (fun r h=>r=rs∧h=hout)
def cb {P:Program} {G:Nat→Option (List Cell)} {f:FuncId} {hin:List Blk} {args rs:List V1} {hout:List (Nat×Blk)} (m:List Nat) (h:FnB P G f hin args rs hout):CallE P G:=⟨f,m,args,hin,rs,hout,h⟩
end Go.Sv
end
section
namespace Go.Sv
open M
def Dw (w:World):Dat:=fun b o=>w.cell? ⟨b,o,none⟩
theorem Dw.agree (w:World):Agree (Dw w) w:=fun _ _ _ h=>h
def dcFs {H:Type} (P:Program) (rec:TypeId→DataW H→Option (List Cell)):Nat→List Field→List (DataW H)→Option (List Cell)
 | _,[],[]=>some []
 | pos,f::fs,d::ds=>match Nat.beq f.offset pos,rec f.type d with
  | true,some l=>match Nat.beq (len l) (P.cellsOf f.type),dcFs P rec (pos+len l) fs ds with
   | true,some r=>some (l++r)
   | _,_=>none
  | _,_=>none
 | _,_,_=>none
def dcAr {H:Type} (sz:Nat) (rec:DataW H→Option (List Cell)):List (DataW H)→Option (List Cell)
 | []=>some []
 | d::ds=>match rec d,dcAr sz rec ds with
  | some l,some r=>match Nat.beq (len l) sz with
   | true=>some (l++r)
   | false=>none
  | _,_=>none
def dc {H:Type} (P:Program):Nat→TypeId→DataW H→Option (List Cell)
 | 0,_,_=>none
 | n+1,t,d=>match P.underlying t,d with
  | some .bool,.lit (.bool b)=>some [.bool b]
  | some (.int _),.lit (.int k z)=>some [.int k z]
  | some .string,.lit (.string s)=>some [.str s]
  | some (.slice _),.nil=>some [.nilsl]
  | some (.struct fs),.agg parts=>match dcFs P (dc P n) 0 fs.toList parts with
   | some l=>match Nat.beq (len l) (P.cellsOf t) with
    | true=>some l
    | false=>none
   | none=>none
  | some (.array m e),.agg parts=>match dcAr (P.cellsOf e) (dc P n e) parts with
   | some l=>match Nat.beq (len l) (P.cellsOf t) with
    | true=>some l
    | false=>none
   | none=>none
  | _,_=>none
def RelAt (D:Dat) (cs:List Value) (pos:Nat) (l:List Cell):Prop:=∀ (j:Nat) (x:Cell),l[j]?=some x→∃ u,cs[pos+j]?=some u∧Den D rho0 x u
theorem RelAt.one {D:Dat} {v:Value} {x:Cell} (h:Den D rho0 x v):RelAt D [v] 0 [x]:=by
 intro j y hj
 cases j with
 | zero=>simp at hj; subst hj; exact ⟨v,by simp,h⟩
 | succ j=>simp at hj
theorem RelAt.app {D:Dat} {cs:List Value} {pos:Nat} {l r:List Cell} (h:RelAt D cs pos l) (k:RelAt D cs (pos+l.length) r):RelAt D cs pos (l++r):=by
 intro j x hj
 rw [List.getElem?_append] at hj
 split at hj
 ·exact h j x hj
 ·obtain ⟨u,hu,hd⟩:=k _ x hj
  exact ⟨u,by rw [← hu];congr 1;omega,hd⟩
theorem RelAt.part {D:Dat} {cs:List Value} {pos sz:Nat} {l:List Cell} (hl:l.length=sz) (h:RelAt D ((cs.drop pos).take sz) 0 l):RelAt D cs pos l:=by
 intro j x hj
 obtain ⟨u,hu,hd⟩:=h j x hj
 have hjl:j<sz:=by
  rw [← hl]
  rcases Nat.lt_or_ge j l.length with h | h
  ·exact h
  ·simp [List.getElem?_eq_none h] at hj
 refine ⟨u,?_,hd⟩
 rw [Nat.zero_add,List.getElem?_take,if_pos hjl,List.getElem?_drop] at hu
 exact hu
theorem dc_den {H:Type} {enc:TypeId×Value→H} {P:Program} {w:World} {base:Nat} {sp:Nat→Bool} {held:Bool} {D:Dat} :
  ∀ (n fuel:Nat) (t:TypeId) (cs:List Value) (d:DataW H) (p:List MemPlace) (l:List Cell),DataW.trod enc P w base sp held fuel t cs=some (d,p)→dc P n t d=some l→cs.length=l.length∧RelAt D cs 0 l:=by
 intro n
 induction n with
 | zero=>intro fuel t cs d p l _ h; simp [dc] at h
 | succ n ih =>
  intro fuel t cs d p l ht hd
  simp only [dc] at hd
  split at hd
  ·rename_i b hu
   simp only [Option.some.injEq] at hd
   subst hd
   obtain ⟨b',rfl,e⟩:=DataW.trod_bool hu ht
   simp only [Prod.mk.injEq,DataW.lit.injEq,Lit.bool.injEq] at e
   obtain ⟨rfl,_⟩:=e
   exact ⟨rfl,RelAt.one rfl⟩
  ·rename_i k k' z hu
   simp only [Option.some.injEq] at hd
   subst hd
   obtain ⟨z',rfl,e,_⟩:=DataW.trod_int hu ht
   simp only [Prod.mk.injEq,DataW.lit.injEq,Lit.int.injEq] at e
   obtain ⟨⟨rfl,rfl⟩,_⟩:=e
   exact ⟨rfl,RelAt.one rfl⟩
  ·rename_i s hu
   simp only [Option.some.injEq] at hd
   subst hd
   obtain ⟨s',rfl,e,_⟩:=DataW.trod_string hu ht
   simp only [Prod.mk.injEq,DataW.lit.injEq,Lit.string.injEq] at e
   obtain ⟨rfl,_⟩:=e
   exact ⟨rfl,RelAt.one (by simp [Den])⟩
  ·rename_i el hu
   simp only [Option.some.injEq] at hd
   subst hd
   rcases DataW.trod_slice hu ht with ⟨rfl,_⟩ | ⟨_,_,_,_,_,_,_,_,e,_⟩
   ·exact ⟨rfl,RelAt.one rfl⟩
   ·simp at e
  ·rename_i fs parts hu
   obtain ⟨xs,m,rfl,e,hlen,hxl,hx⟩:=DataW.trod_struct hu ht
   simp only [Prod.mk.injEq,DataW.agg.injEq] at e
   obtain ⟨rfl,_⟩:=e
   have gen:∀ (fl:List Field) (ys:List (DataW H×List MemPlace)) (pos:Nat) (r:List Cell),(∀ (i:Nat) (f:Field),fl[i]?=some f→DataW.trod enc P w base sp held m f.type ((cs.drop f.offset).take (P.cellsOf f.type))=ys[i]?) →
     dcFs P (dc P n) pos fl (ys.map (·.1))=some r→RelAt D cs pos r:=by
    intro fl
    induction fl with
    | nil =>
     intro ys pos r hy hr
     cases ys with
     | nil=>simp only [List.map_nil,dcFs,Option.some.injEq] at hr; subst hr; intro j x hj; simp at hj
     | cons y ys=>simp [dcFs] at hr
    | cons f fl ihf =>
     intro ys pos r hy hr
     cases ys with
     | nil=>simp [dcFs] at hr
     | cons y ys =>
      simp only [List.map_cons,dcFs] at hr
      split at hr
      ·rename_i l1 e1 e2
       split at hr
       ·rename_i r1 e3 e4
        simp only [Option.some.injEq] at hr
        subst hr
        have e1:=(beq_eq _ _).1 e1
        have e3:=(beq_eq _ _).1 e3
        rw [len_eq] at e3 e4
        have h0:=hy 0 f (by simp)
        simp only [List.getElem?_cons_zero] at h0
        obtain ⟨q1,q2⟩:=ih m f.type _ y.1 y.2 l1 h0 e2
        subst e1
        exact (RelAt.part e3 q2).app (ihf ys _ r1 (fun i g hg=>by have:=hy (i+1) g (by simpa using hg);simpa using this) e4)
       ·cases hr
      ·cases hr
   split at hd
   ·rename_i l1 e1
    split at hd
    ·rename_i e2
     simp only [Option.some.injEq] at hd
     subst hd
     have e2:=(beq_eq _ _).1 e2
     rw [len_eq] at e2
     exact ⟨by rw [hlen,e2],gen fs.toList xs 0 l1 (fun i f hf=>hx i f (by simpa using hf)) e1⟩
    ·cases hd
   ·cases hd
  ·rename_i m0 e0 parts hu
   obtain ⟨xs,m,rfl,e,hlen,hxl,hx⟩:=DataW.trod_array hu ht
   simp only [Prod.mk.injEq,DataW.agg.injEq] at e
   obtain ⟨rfl,_⟩:=e
   have gen:∀ (ys:List (DataW H×List MemPlace)) (k:Nat) (r:List Cell),(∀ i,i<ys.length→DataW.trod enc P w base sp held m e0 ((cs.drop ((k+i)*P.cellsOf e0)).take (P.cellsOf e0))=ys[i]?) →
     dcAr (P.cellsOf e0) (dc P n e0) (ys.map (·.1))=some r→RelAt D cs (k*P.cellsOf e0) r:=by
    intro ys
    induction ys with
    | nil=>intro k r _ hr; simp only [List.map_nil,dcAr,Option.some.injEq] at hr; subst hr; intro j x hj; simp at hj
    | cons y ys ihy =>
     intro k r hy hr
     simp only [List.map_cons,dcAr] at hr
     split at hr
     ·rename_i l1 r1 e1 e2
      split at hr
      ·rename_i e3
       simp only [Option.some.injEq] at hr
       subst hr
       have e3:=(beq_eq _ _).1 e3
       rw [len_eq] at e3
       have h0:=hy 0 (by simp)
       simp only [List.getElem?_cons_zero,Nat.add_zero] at h0
       obtain ⟨q1,q2⟩:=ih m e0 _ y.1 y.2 l1 h0 e1
       refine (RelAt.part e3 q2).app ?_
       have:=ihy (k+1) r1 (fun i hi=>by have:=hy (i+1) (by simpa using hi);rw [show k+1+i=k+(i+1) from by omega];simpa using this) e2
       rw [Nat.add_mul,Nat.one_mul] at this
       rw [e3];exact this
      ·cases hr
     ·cases hr
   split at hd
   ·rename_i l1 e1
    split at hd
    ·rename_i e2
     simp only [Option.some.injEq] at hd
     subst hd
     have e2:=(beq_eq _ _).1 e2
     rw [len_eq] at e2
     refine ⟨by rw [hlen,e2],?_⟩
     have:=gen xs 0 l1 (fun i hi=>by rw [Nat.zero_add];exact hx i oM) e1
     rw [Nat.zero_mul] at this
     exact this
    ·cases hd
   ·cases hd
  ·cases hd
theorem laid_get {P:Program} {w:World}:∀ {laid:List (String×DataW Unit)} {ps:List MemPlace},DataW.LaidVars P w laid ps→∀ n d,(n,d)∈laid →
  ∃ g t cs fuel p,P.globalNamed n=some g∧(P.globals[g]?).map (·.type)=some t∧w.var? P n=some cs∧DataW.trod (fun _=>()) P w 0 (fun _=>true) false fuel t cs.toList=some (d,p)
 | [],_,_,n,d,h=>by simp at h
 | (n0,d0)::r,ps,⟨g,t,cs,fuel,p,q,h1,h2,h3,h4,h5,_⟩,n,d,h=>by
  rcases List.mem_cons.1 h with h | h
  ·simp only [Prod.mk.injEq] at h
   obtain ⟨rfl,rfl⟩:=h
   exact ⟨g,t,cs,fuel,p,h1,h2,h3,h4⟩
  ·exact laid_get h5 n d h
theorem glob_ok {P:Program} {G:Nat→Option (List Cell)} {W:World} {laid:List (String×DataW Unit)} (h:laidMet P laid W)
  (hG:∀ g cs,G g=some cs→∃ n d t,(n,d)∈laid∧P.globalNamed n=some g∧(P.globals[g]?).map (·.type)=some t∧dc P 9 t d=some cs):GlobOk G (Dw W)∧GlobW G W:=by
 obtain ⟨ps,hl,_⟩:=h
 have key:∀ g cs,G g=some cs→∃ arr e fz,W.heap[g]?=some (.cells arr e fz)∧arr.size=cs.length∧∀ (j:Nat) (x:Cell),cs[j]?=some x→∃ u,arr[j]?=some u∧Den (Dw W) rho0 x u:=by
  intro g cs hg
  obtain ⟨n,d,t,hm,h1,h2,h3⟩:=hG g cs hg
  obtain ⟨g',t',arr,fuel,p,q1,q2,q3,q4⟩:=laid_get hl n d hm
  rw [h1] at q1
  obtain rfl:=Option.some.inj q1
  rw [h2] at q2
  obtain rfl:=Option.some.inj q2
  obtain ⟨r1,r2⟩:=dc_den (D:=Dw W) 9 fuel t arr.toList d p cs q4 h3
  have q3':=q3
  simp only [World.var?,h1,Option.bind_some] at q3
  split at q3
  ·rename_i c e fz hc
   simp only [Option.some.injEq] at q3
   subst q3
   refine ⟨c,e,fz,hc,by simpa using r1,fun j x hj => ?_⟩
   obtain ⟨u,hu,hd⟩:=r2 j x hj
   exact ⟨u,by simpa using hu,hd⟩
  ·cases q3
 refine ⟨fun g cs hg j x hj => ?_,fun g cs hg _ => ?_⟩
 ·obtain ⟨arr,e,fz,h1,_,h3⟩:=key g cs hg
  obtain ⟨u,hu,hd⟩:=h3 j x hj
  exact ⟨u,by simp only [Dw,World.cell?,h1,Option.isSome_none,Bool.false_eq_true,if_false];exact hu,hd⟩
 ·obtain ⟨arr,e,fz,h1,h2,_⟩:=key g cs hg
  exact ⟨arr,e,fz,h1,h2⟩
structure Kept (W W':World):Prop where
 heap:∀ b,b<W.heap.size→W'.heap[b]?=W.heap[b]?
 os:W'.os=W.os
 output:W'.output=W.output
 size:W.heap.size≤W'.heap.size
theorem Kept.but {W W':World} (h:Kept W W') (may:MemPlace→Prop):W.keptBut W' may:=by
 refine ⟨h.os,h.output,fun i hi => ?_⟩
 rw [h.heap i hi]
 cases hh:W.heap[i]? with
 | none=>trivial
 | some o=>cases o<;>first | exact ⟨rfl,rfl,rfl,fun _ _=>rfl⟩ | exact .inr ⟨rfl,rfl⟩ | rfl
theorem Kept.frozen {W W':World} (h:Kept W W') {a:Addr} (ha:a.block<W.heap.size):W'.frozen? a=W.frozen? a:=by
 simp only [World.frozen?,h.heap _ ha]
theorem law_run {P:Program} {G:Nat→Option (List Cell)} {f:FuncId} {args rs:List V1} (h:Pur P G f args rs) {W:World} {ρ:Rho} {vs:Array Value} (hd:DenL (Dw W) ρ args vs) (h1:GlobOk G (Dw W)) (h2:GlobW G W) :
  Calls P f vs W fun e W'=>∃ v D' ρ',e = .returned v∧ResDen D' ρ' rs v∧Kept W W':=by
 refine (h (Dw W) ρ W vs hd h1 h2 (Dw.agree W) (by intro i b hb;simp at hb) (by intro i j bi bj hi;simp at hi)).mono fun e W' => ?_
 rintro ⟨rs',hout,D',ρ',v,rfl,⟨rfl,rfl⟩,hr,_,ha⟩
 exact ⟨v,D',ρ',rfl,hr,⟨fun b hb=>ha.frame b hb (fun i hi=>absurd hi (Nat.not_lt_zero i)),ha.os,ha.output,ha.grow⟩⟩
section
open Go.ChangeShapes
variable {H:Type} {enc:TypeId×Value→H} {P:Program}
theorem post_of_kept {f:Func} {s:ChangeSpec} {apart fresh handsOn again:Bool} {W W':World} {args:Array Value} {v:Value} {ds gs:List (DataW H)} {before pa pv:List MemPlace}
  (hW:DataW.Whole enc P f.params.toList s.vars apart W args.toList ds gs before)
  (hres:∀ (b:Nat) (sp:Nat→Bool) (hd:Bool),DataW.TrodAll enc P W' b sp hd f.resultTypes.toList (v.resultList f.resultTypes.size) (s.fn H (ds++gs)).results [])
  (hargs:∀ sp:Nat→Bool,(∀ p∈before,sp p.block=true)→DataW.TrodAll enc P W' 0 sp true f.params.toList args.toList (s.fn H (ds++gs)).args pa)
  (hvars:∀ sp:Nat→Bool,(∀ p∈before,sp p.block=true)→DataW.TrodVars enc P W' sp s.vars (s.fn H (ds++gs)).vars pv)
  (hps:before=pa++pv) (hk:Kept W W')
  (hok:∀ (j:Nat) (t:TypeId) (r:Value),f.resultTypes[j]?=some t→(v.resultList f.resultTypes.size)[j]?=some r→Value.okWide P W' .any 0 t r) :
  s.post enc P f apart fresh handsOn again W args v W':=by
 have hold:∀ p∈before,(fun b=>decide (b<W.heap.size)) p.block=true:=fun p hp=>by simpa using hW.lt p hp
 have hlt:∀ p∈before,p.block<W.heap.size:=fun p hp=>hW.lt p hp
 refine ⟨ds,gs,before,[],pa,pv,hW,hres _ _ _,hargs _ hold,hvars _ hold,World.keptBut_mono (fun p hp=>⟨hp,?_⟩) (hk.but (·∈before)),fun _ => ?_⟩
 ·rw [hps,List.mem_append] at hp
  exact Or.inr hp
 ·obtain ⟨_,_,_,_,_,hz,hn⟩:=hW
  refine ⟨hok,_,_,([]++pa)++pv,⟨[]++pa,pv,trodAll_append (hargs _ (fun _ _=>rfl)) (hres _ _ _),hvars _ (fun _ _=>rfl),rfl,?_,?_⟩,?_⟩
  ·intro b off hp
   have hb:MemPlace.cell b off∈before:=by rw [hps];simpa using hp
   rw [hk.frozen (a:=⟨b,off,none⟩) (hlt _ hb)]
   exact hz b off hb
  ·intro ha
   have:=hn ha
   rw [hps] at this
   simpa using this
  ·intro p hp _
   rw [hps]
   simpa using hp
end
end Go.Sv
end
section
namespace Go.Sv
open M
section
variable {P:Program} {G:Nat→Option (List Cell)} {N kn:Nat} {k:List KI} {Q:St→Prop} {st st':St}
theorem post_lp {Γ:Ctx} {R R':St→Prop} (h:∀ s,R s→R' s):∀ {l k:List KI} {e:Exit} {s:St},post Γ (l ++ .lp R::k) Q e s→post Γ (l ++ .lp R'::k) Q e s
 | [],k,e,s,hp=>by
  cases e with
  | normal=>exact h s hp
  | exit id=>exact hp
  | goto l=>exact hp
  | ret=>exact hp
  | panic c=>exact hp
  | outgrown=>exact hp
 | .code c::l,k,e,s,hp=>by
  cases e with
  | normal=>exact Tri.mono (show Tri Γ c s (post Γ (l ++ .lp R::k) Q) from hp) fun e s q=>post_lp h (l:=l) q
  | exit id=>exact post_lp (l:=l) h (e := .exit id) hp
  | goto i=>exact post_lp (l:=l) h (e := .goto i) hp
  | ret=>exact post_lp (l:=l) h (e := .ret) hp
  | panic c=>exact post_lp (l:=l) h (e := .panic c) hp
  | outgrown=>exact post_lp (l:=l) h (e := .outgrown) hp
 | .blk i::l,k,e,s,hp=>by
  cases e with
  | exit id =>
   have hp:(if id=i then post Γ (l ++ .lp R::k) Q .normal s else post Γ (l ++ .lp R::k) Q (.exit id) s):=hp
   show (if id=i then post Γ (l ++ .lp R'::k) Q .normal s else post Γ (l ++ .lp R'::k) Q (.exit id) s)
   split at hp
   ·rename_i e1;rw [if_pos e1];exact post_lp h (l:=l) hp
   ·rename_i e1;rw [if_neg e1];exact post_lp h (l:=l) hp
  | normal=>exact post_lp (l:=l) h (e := .normal) hp
  | goto i=>exact post_lp (l:=l) h (e := .goto i) hp
  | ret=>exact post_lp (l:=l) h (e := .ret) hp
  | panic c=>exact post_lp (l:=l) h (e := .panic c) hp
  | outgrown=>exact post_lp (l:=l) h (e := .outgrown) hp
 | .scp c::l,k,e,s,hp=>by
  cases e with
  | goto i =>
   simp only [List.cons_append,post] at hp ⊢
   split at hp
   ·refine Tri.mono hp fun e s q => ?_
    cases e with
    | goto i=>exact q
    | normal=>exact post_lp h (l:=l) (e := .normal) q
    | exit id=>exact post_lp h (l:=l) (e := .exit id) q
    | ret=>exact post_lp h (l:=l) (e := .ret) q
    | panic c=>exact post_lp h (l:=l) (e := .panic c) q
    | outgrown=>exact post_lp h (l:=l) (e := .outgrown) q
   ·exact hp
  | normal=>exact post_lp (l:=l) h (e := .normal) hp
  | exit id=>exact post_lp (l:=l) h (e := .exit id) hp
  | ret=>exact post_lp (l:=l) h (e := .ret) hp
  | panic c=>exact post_lp (l:=l) h (e := .panic c) hp
  | outgrown=>exact post_lp (l:=l) h (e := .outgrown) hp
 | .nog::l,k,e,s,hp=>by
  cases e with
  | goto i=>exact hp
  | normal=>exact post_lp (l:=l) h (e := .normal) hp
  | exit id=>exact post_lp (l:=l) h (e := .exit id) hp
  | ret=>exact post_lp (l:=l) h (e := .ret) hp
  | panic c=>exact post_lp (l:=l) h (e := .panic c) hp
  | outgrown=>exact post_lp (l:=l) h (e := .outgrown) hp
 | .lp S::l,k,e,s,hp=>by
  cases e with
  | normal=>exact hp
  | exit id=>exact post_lp (l:=l) h (e := .exit id) hp
  | goto i=>exact post_lp (l:=l) h (e := .goto i) hp
  | ret=>exact post_lp (l:=l) h (e := .ret) hp
  | panic c=>exact post_lp (l:=l) h (e := .panic c) hp
  | outgrown=>exact post_lp (l:=l) h (e := .outgrown) hp
def UnR (P:Program) (G:Nat→Option (List Cell)) (N kn:Nat) (c:Code) (k:List KI) (Q:St→Prop):Nat→St→Prop
 | 0,_=>False
 | n+1,s=>Wp P G N kn (.code c :: .lp (UnR P G N kn c k Q n)::k) Q s
theorem Wp.unr (h:isLoop k=true) (n:Nat) (hw:UnR P G N kn (loopB k) (loopR k) Q n st):Wp P G N kn k Q st:=by
 refine Wp.loop' h (X:=St×Nat) (fun x=>x.1) (fun x=>UnR P G N kn (loopB k) (loopR k) Q x.2 x.1) (fun x=>x.2) (st,n) (fun _ _ _ _ h=>h) hw ?_
 rintro ⟨s,m⟩ hm
 cases m with
 | zero=>exact hm.elim
 | succ m =>
  intro Γ h1 h2 h3 h4
  have:=hm Γ h1 h2 h3 h4
  unfold LoopR
  exact post_lp (Q:=Q) (R:=UnR P G N kn (loopB k) (loopR k) Q m) (fun s q=>⟨(s,m),q,Nat.lt_succ_self m,fun _ _ _ _ h=>h⟩) (l:=[.code (loopB k)]) this
theorem Wp.unrK (h:isLoop k=true) (n:Nat) (hw:∀ L:Nat→St→Prop,(∀ m st,Wp P G N kn (.code (loopB k) :: .lp (L m)::loopR k) Q st→L (m+1) st)→Wp P G N kn (.code (loopB k) :: .lp (L n)::loopR k) Q st):Wp P G N kn k Q st :=
 Wp.unr h (n+1) (hw (UnR P G N kn (loopB k) (loopR k) Q) fun _ _ h=>h)
end
end Go.Sv
end
section
set_option maxRecDepth 10000
open Go
namespace Go.Sv
section
variable {P:Program} {G:Nat→Option (List Cell)} {N kn:Nat} {k:List KI} {Q:St→Prop} {st st':St} {rv:List ResultVar} {rs rs':List V1} {hout:List (Nat×Blk)} {L:St→Prop}
theorem zg (ans:List (Nat×Ann P G)) (dec:List Bool) (vc:List Prop) (hv:AllP vc) (hw:Wp P G N kn (aK (adv P G N true ans 100 dec k st)) Q (aSt (adv P G N true ans 100 dec k st)))
  (hm:P.follows .mixedOrders=true:=by kernel_rfl) (h:aOk (adv P G N true ans 100 dec k st)=true:=by kernel_rfl) (he:aE (adv P G N true ans 100 dec k st)=aF (adv P G N true ans 100 dec k st):=by kernel_rfl)
  (hvc:aVc (adv P G N true ans 100 dec k st)=vc:=by kernel_rfl):Wp P G N kn k Q st:=Wp.go (fun _=>hm) ans 100 dec vc h he hvc hv hw
theorem zn (ans:List (Nat×Ann P G)) (n:Nat) (dec:List Bool) (vc:List Prop) (hv:AllP vc) (hw:Wp P G N kn (aK (adv P G N true ans n dec k st)) Q (aSt (adv P G N true ans n dec k st)))
  (hm:P.follows .mixedOrders=true:=by kernel_rfl) (h:aOk (adv P G N true ans n dec k st)=true:=by kernel_rfl) (he:aE (adv P G N true ans n dec k st)=aF (adv P G N true ans n dec k st):=by kernel_rfl)
  (hvc:aVc (adv P G N true ans n dec k st)=vc:=by kernel_rfl):Wp P G N kn k Q st:=Wp.go (fun _=>hm) ans n dec vc h he hvc hv hw
theorem z0 (ans:List (Nat×Ann P G)) (dec:List Bool) (hw:Wp P G N kn (aK (adv P G N true ans 100 dec k st)) Q (aSt (adv P G N true ans 100 dec k st)))
  (hm:P.follows .mixedOrders=true:=by kernel_rfl) (h:aOk (adv P G N true ans 100 dec k st)=true:=by kernel_rfl) (he:aE (adv P G N true ans 100 dec k st)=aF (adv P G N true ans 100 dec k st):=by kernel_rfl)
  (hvc:aVc (adv P G N true ans 100 dec k st)=[]:=by kernel_rfl):Wp P G N kn k Q st:=Wp.go (fun _=>hm) ans 100 dec [] h he hvc trivial hw
theorem i6 {n:Int} (h1 : -9223372036854775808≤n:=by omega) (h2:n≤9223372036854775807:=by omega):inR .i64 n:=inR64 h1 h2
theorem oN {p:Prop} (h:p):AllP [p]:=h
theorem zc (b:Bool) (ht:b=true→Wp P G N kn (cX k) Q st) (hf:b=false→Wp P G N kn (cY k) Q st) (h:isCond k=true:=by kernel_rfl) (hc:condB st (cOp k)=some b:=by kernel_rfl):Wp P G N kn k Q st:=Wp.cond' h b hc ht hf
theorem zr (h:isRet k=true:=by kernel_rfl) (hr:resV P rv st=some rs:=by kernel_rfl) (hf:flatsV rs=true:=by kernel_rfl):Wp P G N kn k (FinQ P rv kn (fun r h=>r=rs∧h=[])) st:=Wp.ret' h (FinQ.pure hr rfl hf)
theorem zS (rs':List V1) (e:rs'=rs) (h:isRet k=true:=by kernel_rfl) (hr:resV P rv st=some rs':=by kernel_rfl) (hf:flatsV rs'=true:=by kernel_rfl):Wp P G N kn k (FinQ P rv kn (fun r h=>r=rs∧h=[])) st:=Wp.ret' h (FinQ.pure hr e hf)
theorem zb (m:List Nat) (h:isRet k=true:=by kernel_rfl) (hr:resV P rv st=some (mapL (V1.ren (sigF kn m)) rs):=by kernel_rfl)
  (hb:mapL (fun p:Nat×Blk=>look st.hp (sigF kn m p.1)) hout=mapL (fun p:Nat×Blk=>some (p.2.ren (sigF kn m))) hout:=by kernel_rfl) (hi:nodupB (mapL (sigF kn m) (fstL hout))=true:=by kernel_rfl)
  (h4:mInVs (fstL hout) rs=true:=by kernel_rfl) (h5:mInB (fstL hout) hout=true:=by kernel_rfl) (h6:RowsIn (fun i=>i∈fstL hout) hout:=by exact trivial):Wp P G N kn k (FinQ P rv kn (fun r h=>r=rs∧h=hout)) st:=Wp.ret' h (FinQ.blk m hr hb hi h4 h5 h6)
theorem zl {X:Type} (inv:X→St) (facts:X→Prop) (μ:X→Nat) (x0:X) (f0:facts x0)
  (round:∀ (x:X) (L:St→Prop),facts x→(∀ st x',facts x'→μ x'<μ x→Ent kn st (inv x')→L st)→Wp P G N kn (.code (loopB k) :: .lp L::loopR k) Q (inv x))
  (m:List (Nat×Nat):=[]) (h:isLoop k=true:=by kernel_rfl) (hok:entOk kn m (inv x0)=true:=by kernel_rfl) (hT:entT st (inv x0).tm=some (renT m (inv x0).tm):=by kernel_rfl) (hB:entB m st (inv x0).hp=some (renB m (inv x0).hp):=by kernel_rfl)
  (hR:RowsIn (fun i=>i<(inv x0).nx) (inv x0).hp:=by exact trivial):Wp P G N kn k Q st:=Wp.loopK h inv facts μ x0 (Ent.of m hok hT hB hR) f0 round
theorem za (m:List (Nat×Nat)) (hl:Ent kn st st'→L st) (h:lpR k=L:=by kernel_rfl) (hok:entOk kn m st'=true:=by kernel_rfl) (hT:entT st st'.tm=some (renT m st'.tm):=by kernel_rfl) (hB:entB m st st'.hp=some (renB m st'.hp):=by kernel_rfl)
  (hR:RowsIn (fun i=>i<st'.nx) st'.hp:=by exact trivial):Wp P G N kn k Q st:=Wp.lpK h (hl (Ent.of m hok hT hB hR))
end
theorem zp {P:Program} {G:Nat→Option (List Cell)} {f:FuncId} {fn:Func} {args rs:List V1} (hf:P.funcs[f]?=some fn) (h:Wp P G fn.ntmps 0 [.code (codeOf fn)] (FinQ P fn.results.toList 0 (fun r h=>r=rs∧h=[])) (st0 args []))
  (hb:fn.body=some (codeOf fn):=by kernel_rfl) (hN:Nat.ble (len args) fn.ntmps=true:=by kernel_rfl) (ha:idLtVs 0 args=true:=by kernel_rfl):Pur P G f args rs:=Pur.of hf hb hN ha h
theorem zf {P:Program} {G:Nat→Option (List Cell)} {f:FuncId} {fn:Func} {hin:List Blk} {args:List V1} {R:List V1→List (Nat×Blk)→Prop} (hf:P.funcs[f]?=some fn) (h:Wp P G fn.ntmps (len hin) [.code (codeOf fn)] (FinQ P fn.results.toList (len hin) R) (st0 args hin))
  (hb:fn.body=some (codeOf fn):=by kernel_rfl) (hN:Nat.ble (len args) fn.ntmps=true:=by kernel_rfl) (ha:idLtVs (len hin) args=true:=by kernel_rfl) (hh:idLtB (len hin) (hinB 0 hin)=true:=by kernel_rfl)
  (hr:RowsIn (fun i=>i<len hin) (hinB 0 hin):=by exact trivial):Fn P G f hin args R:=Fn.of' hf hb hN ha hh hr h
end Go.Sv
end
section
namespace Go.Sv
open M
def FnD (P:Program) (G:Nat→Option (List Cell)) (f:FuncId) (hin:List Blk) (args:List V1) (R:List V1→List (Nat×Blk)→Prop):Prop :=
 ∀ (D:Dat) (ρ:Rho) (w:World) (vs:Array Value),DenL D ρ args vs→GlobOk G D→GlobW G w→Agree D w →
  (∀ (i:Nat) (b:Blk),hin[i]?=some b→BlkSat D ρ i w b∧(Live ρ i b→∀ o,D (ρ i).1 o=none)) →
  (∀ (i j:Nat) (bi bj:Blk),hin[i]?=some bi→hin[j]?=some bj→Live ρ i bi→Live ρ j bj→(ρ i).1=(ρ j).1→i=j) →
  CallsD P f vs .returning w fun e u w'=>u = .returning∧Rets G hin.length R D ρ w e w'
theorem FnD.of {P:Program} {G:Nat→Option (List Cell)} {f:FuncId} {fn:Func} {c:Code} {hin:List Blk} {args:List V1} {R:List V1→List (Nat×Blk)→Prop}
  (hf:P.funcs[f]?=some fn) (hb:fn.body=some c) (hN:args.length≤fn.ntmps) (ha:∀ (j:Nat) (x:V1),args[j]?=some x→x.inS (fun i=>i<hin.length)) (hh:∀ (i:Nat) (b:Blk),hin[i]?=some b→b.inS (fun i=>i<hin.length))
  (h:Wp P G fn.ntmps hin.length [.code c] (FinQ P fn.results.toList hin.length R) (st0 args hin)):FnD P G f hin args R :=
 fun _ _ _ _ h1 h2 hgw h3 h4 h5=>callsD_of_wp hf hb (Fn.wp hN ha hh h h1 h2 hgw h3 h4 h5)
def cutC:Nat→Code→Option (List Code×Code×Code)
 | 0,.seq b c=>some ([],b,c)
 | n+1,.seq x y=>match cutC n y with
  | some (l,b,c)=>some (x::l,b,c)
  | none=>none
 | _,_=>none
def kiL:List Code→List KI→List KI
 | [],k=>k
 | c::r,k => .code c::kiL r k
def wpL (P:Program) (Q:Exit→Act→World→Prop):List Code→Act→World→Prop
 | [],a,w=>Q .normal a w
 | c::r,a,w=>c.wp P (fun e a w=>match e with
  | .normal=>wpL P Q r a w
  | e=>Q e a w) a w
theorem cut_wp {P:Program} {b c':Code} {Q:Exit→Act→World→Prop}:∀ {n:Nat} {c:Code} {l:List Code} {a:Act} {w:World},cutC n c=some (l,b,c') →
  wpL P (fun e a w=>match e with
   | .normal=>b.wp P (fun e a w=>match e with
    | .normal=>c'.wp P Q a w
    | e=>Q e a w) a w
   | e=>Q e a w) l a w→c.wp P Q a w
 | 0,.seq x y,l,a,w,h,hw=>by
  simp only [cutC,Option.some.injEq,Prod.mk.injEq] at h
  obtain ⟨rfl,rfl,rfl⟩:=h
  exact wp_seq (Go.wp_mono hw fun e a w h=>by cases e<;>exact h)
 | n+1,.seq x y,l,a,w,h,hw=>by
  simp only [cutC] at h
  split at h
  ·rename_i l' b' c'' hc
   simp only [Option.some.injEq,Prod.mk.injEq] at h
   obtain ⟨rfl,rfl,rfl⟩:=h
   refine wp_seq (Go.wp_mono hw fun e a w h => ?_)
   cases e with
   | normal=>exact cut_wp hc h
   | exit id=>exact h
   | goto l=>exact h
   | ret=>exact h
   | panic ch=>exact h
   | outgrown=>exact h
  ·cases h
 | 0,.skip,l,a,w,h,hw=>by simp [cutC] at h
theorem post_lpD {Γ:Ctx} {R Q:St→Prop} {e:Exit} {st:St} (he:e ≠ .normal):∀ {l:List Code},post Γ (kiL l [.lp R]) Q e st→e = .ret∧Q st
 | [],h=>by cases e<;>first | exact (he rfl).elim | exact ⟨rfl,h⟩ | exact h.elim
 | c::r,h=>by
  refine post_lpD (Γ:=Γ) (R:=R) he (l:=r) ?_
  cases e<;>first | exact (he rfl).elim | exact h
theorem wpL_post {Γ:Ctx} {R Q:St→Prop} {F:Exit→Act→World→Prop} (hn:∀ st a w,R st→Sat0 Γ st a w→F .normal a w) (hr:∀ st a w,Q st→Sat0 Γ st a w→F .ret a w) :
  ∀ {l:List Code} {st:St} {a:Act} {w:World},post Γ (kiL l [.lp R]) Q .normal st→Sat0 Γ st a w→wpL Γ.P F l a w
 | [],st,a,w,h,s=>hn st a w h s
 | c::r,st,a,w,h,s=>by
  have h:Tri Γ c st (post Γ (kiL r [.lp R]) Q):=h
  refine Go.wp_mono (h a w s) ?_
  rintro e a' w' ⟨st',q,s'⟩
  cases e with
  | normal=>exact wpL_post hn hr q s'
  | ret=>exact hr st' a' w' (post_lpD (by simp) q).2 s'
  | exit id=>exact absurd (post_lpD (by simp) q).1 (by simp)
  | goto l=>exact absurd (post_lpD (by simp) q).1 (by simp)
  | panic ch=>exact absurd (post_lpD (by simp) q).1 (by simp)
  | outgrown=>exact absurd (post_lpD (by simp) q).1 (by simp)
def capL (st:St):List Operand→Option (List V1)
 | []=>some []
 | .tmp t::r=>match look st.tm t with
  | some (.v x)=>match capL st r with
   | some l=>some (x::l)
   | none=>none
  | _=>none
 | _::_=>none
theorem cap_den {Γ:Ctx} {S W:Nat→Prop} {D:Dat} {ρ:Rho} {st:St} {a:Act} {w:World} (h:Sat Γ S W D ρ st a w):∀ {l:List Operand} {xs:List V1},capL st l=some xs →
  (∀ (j:Nat) (x:V1),xs[j]?=some x→x.inS S)∧xs.length=l.length∧∀ (j:Nat) (x:V1),xs[j]?=some x→∃ o,l[j]?=some o∧DenV D ρ x (a.eval o)
 | [],xs,hl=>by simp only [capL,Option.some.injEq] at hl; subst hl; exact ⟨by simp,rfl,by simp⟩
 | .tmp t::r,xs,hl=>by
  simp only [capL] at hl
  split at hl
  ·rename_i x hlk
   split at hl
   ·rename_i l' hl'
    simp only [Option.some.injEq] at hl
    subst hl
    obtain ⟨i1,i2,i3⟩:=cap_den h hl'
    obtain ⟨u,hu,hd⟩:=h.tm t _ hlk
    have hin:x.inS S:=h.idT t _ hlk
    refine ⟨fun j y hj => ?_,by simp [i2],fun j y hj => ?_⟩
    ·cases j with
     | zero=>simp at hj; subst hj; exact hin
     | succ j=>simp at hj; exact i1 j y hj
    ·cases j with
     | zero =>
      simp at hj;subst hj
      refine ⟨.tmp t,rfl,?_⟩
      rw [tmps_getD hu];exact hd
     | succ j=>simp at hj ⊢; exact i3 j y hj
   ·cases hl
  ·cases hl
 | .const _::r,xs,hl=>by simp [capL] at hl
 | .global _::r,xs,hl=>by simp [capL] at hl
 | .func _::r,xs,hl=>by simp [capL] at hl
def fullB (hp:List (Nat×Blk)):Nat→Bool
 | 0=>true
 | n+1=>bAnd (match look hp n with | some _=>true | none=>false) (fullB hp n)
theorem full_get {hp:List (Nat×Blk)}:∀ {n i:Nat},fullB hp n=true→i<n→∃ b,look hp i=some b
 | n+1,i,h,hi=>by
  obtain ⟨h1,h2⟩:=bAnd_eq h
  rcases Nat.lt_or_ge i n with hlt | hge
  ·exact full_get h2 hlt
  ·have:i=n:=by omega
   subst this
   split at h1
   ·rename_i b hb;exact ⟨b,hb⟩
   ·cases h1
def EndQ (P:Program) (G:Nat→Option (List Cell)) (rv:List ResultVar) (kn:Nat) (R:List V1→List (Nat×Blk)→Prop) (fd:FuncId) (xs:List V1) (st:St):Prop :=
 ∃ (m:List Nat) (hin:List Blk) (args:List V1) (hout:List (Nat×Blk)) (bs:List Blk),FnD P G fd hin args (fun r h=>r=[]∧h=hout)∧isGo P fd=true∧xs=args.map (V1.ren (sigIn m))∧(blksM m).Ev st.get bs∧bs=hin.map (Blk.ren (sigIn m)) ∧
  bAnd (nodupB m) (bAnd (Nat.beq (len m) (len hin)) (bAnd (houtOk (len m) hout) (nodupB (fstL hout))))=true∧FinQ P rv kn R (st.sets (goneL m++outL m st.nx hout))
def DeferQ (P:Program) (G:Nat→Option (List Cell)) (N:Nat) (rv:List ResultVar) (kn:Nat) (R:List V1→List (Nat×Blk)→Prop) (fd:FuncId) (cap:List Operand) (t:Nat) (c:Code) (st:St):Prop :=
 ∃ st2 xs,Ent kn st st2∧fullB st2.hp st2.nx=true∧Nat.ble kn st2.nx=true∧capL st2 cap=some xs∧look st2.tm t=none∧Wp P G N st2.nx [.code c] (EndQ P G rv kn R fd xs) st2
theorem defer_region {P:Program} {id fd t:Nat} {cap:Array Operand} {o1 o2:Oper} {cl:Call} {Q:Exit→Act→World→Prop} {a:Act} {w:World}
  (h1:o1.op = .makeFunc (.func fd) #[] cap) (h1d:o1.dst=some t) (h1g:o1.guard=none) (h2:o2.op = .defer cl) (h2c:cl.callee = .value (.tmp t)) (h2a:cl.args=#[]) (h2d:o2.dst=none) (h2g:o2.guard=none) (ht:t<a.tmps.size)
  (h:Q .normal { tmps:=a.tmps.setIfInBounds t (.func (.func fd) #[] (cap.map a.eval)),defers:=⟨.fn (.func fd) (cap.map a.eval),#[]⟩::a.defers } w):(Code.region id #[o1,o2] false).wp P Q a w:=by
 refine wp_region ?_
 have hr:List.range (#[o1,o2]:Array Oper).size=[0,1]:=rfl
 rw [hr,wpOps_cons]
 have e0:(#[o1,o2]:Array Oper)[0]?=some o1:=rfl
 have e1:(#[o1,o2]:Array Oper)[1]?=some o2:=rfl
 have w1:∀ y,Region.wanted o1 y=true:=fun y=>by unfold Region.wanted;rw [h1g]
 have w2:∀ y,Region.wanted o2 y=true:=fun y=>by unfold Region.wanted;rw [h2g]
 unfold wpOp
 simp only [e0,w1,if_true]
 left
 unfold Oper.wp
 have r1:(execOp a.eval o1).run P w = .ok (.value (.func (.func fd) #[] (cap.map a.eval))) w:=by
  unfold execOp;rw [h1]
  simp [Instr.makeFunc]
 rw [r1,Oper.upon_value,wpOps_cons,h1d]
 unfold wpOp
 simp only [e1,w2,if_true]
 left
 unfold Oper.wp
 have hev:(a.put (some t) (.func (.func fd) #[] (cap.map a.eval))).eval (.tmp t) = .func (.func fd) #[] (cap.map a.eval):=by
  simp [Act.eval,Act.put,ht]
 have r2:(execOp (a.put (some t) (.func (.func fd) #[] (cap.map a.eval))).eval o2).run P w = .ok (.defer ⟨.fn (.func fd) (cap.map a.eval),#[]⟩) w:=by
  unfold execOp;rw [h2]
  simp [resolve,h2c,h2a,hev,Deferred.ofValue]
 rw [r2,Oper.upon_defer,h2d]
 simp only [wpOps]
 exact h
theorem Sat.back {Γ:Ctx} {S1 W1 S W:Nat→Prop} {D1 D:Dat} {ρ1 ρ:Rho} {st1 st:St} {a1 a:Act} {w1 w:World} {ds:List Deferred} {n:Nat} (h1:Sat Γ S1 W1 D1 ρ1 st1 a1 w1) (hfull:∀ i,i<n→∃ b,look st1.hp i=some b) (hkn:Γ.kin≤n)
  (h:Sat ⟨Γ.P,Γ.G,D1,ρ1,n,w1,Γ.N,ds⟩ S W D ρ st a w):Sat Γ S W D ρ st { a with defers:=Γ.dfr } w:=by
 have own1:∀ i,i<n→(ρ1 i).2≠0→Γ.w0.heap.size≤(ρ1 i).1∨∃ j,j<Γ.kin∧(Γ.ρ0 j).2≠0∧(Γ.ρ0 j).1=(ρ1 i).1:=by
  intro i hi lv
  obtain ⟨b,hb⟩:=hfull i hi
  exact h1.own i b hb lv
 refine { h with defers:=rfl,size:=h.size,tm:=h.tm,le:=h1.le.trans h.le,glob:=h.glob,gl:=h1.gl,own := ?_,kin := ?_,newD := ?_,frame := ?_,os:=h.os.trans h1.os,tape:=h.tape.trans h1.tape,output:=h.output.trans h1.output,grow:=Nat.le_trans h1.grow h.grow,drawn:=fun k=>Nat.le_trans (h1.drawn k) (h.drawn k),kinS:=fun i hi=>h.kinS i (Nat.lt_of_lt_of_le hi hkn) }
 ·intro id b hb lv
  rcases h.own id b hb lv with q | ⟨i,hi,li,e⟩
  ·exact .inl (Nat.le_trans h1.grow q)
  ·rw [← e];exact own1 i hi li
 ·intro i hi
  exact (h.kin i (Nat.lt_of_lt_of_le hi hkn)).trans (h1.kin i hi)
 ·intro b o v hv
  rcases h.newD b o v hv with q | q | ⟨i,hi,li,e⟩
  ·exact h1.newD b o v q
  ·exact .inr (.inl (Nat.le_trans h1.grow q))
  ·rw [← e]
   rcases own1 i hi li with q | q
   ·exact .inr (.inl q)
   ·exact .inr (.inr q)
 ·intro b hb hno
  refine (h.frame b (Nat.lt_of_lt_of_le hb h1.grow) fun i hi li e => ?_).trans (h1.frame b hb hno)
  rcases own1 i hi li with q | ⟨j,hj,lj,e'⟩
  ·have:(ρ1 i).1=b:=e
   omega
  ·exact hno j hj lj (e'.trans e)
theorem Fn.ofD {P:Program} {G:Nat→Option (List Cell)} {f:FuncId} {fn:Func} {c:Code} {hin:List Blk} {args:List V1} {R:List V1→List (Nat×Blk)→Prop} (n:Nat) {l:List Code} {id fd t:Nat} {o1 o2:Oper} {cap:Array Operand} {cl:Call} {c':Code}
  (hf:P.funcs[f]?=some fn) (hb:fn.body=some c) (hN:args.length≤fn.ntmps) (ha:∀ (j:Nat) (x:V1),args[j]?=some x→x.inS (fun i=>i<hin.length)) (hh:∀ (i:Nat) (b:Blk),hin[i]?=some b→b.inS (fun i=>i<hin.length))
  (hc:cutC n c=some (l,.region id #[o1,o2] false,c')) (h1:o1.op = .makeFunc (.func fd) #[] cap) (h1d:o1.dst=some t) (h1g:o1.guard=none) (h2:o2.op = .defer cl) (h2c:cl.callee = .value (.tmp t)) (h2a:cl.args=#[]) (h2d:o2.dst=none) (h2g:o2.guard=none) (ht:Nat.blt t fn.ntmps=true)
  (h:Wp P G fn.ntmps hin.length (kiL l [.lp (DeferQ P G fn.ntmps fn.results.toList hin.length R fd cap.toList t c')]) (FinQ P fn.results.toList hin.length R) (st0 args hin)):Fn P G f hin args R:=by
 intro D ρ w vs g1 g2 hgw g3 g4 g5
 refine calls_of_wp_defers hf hb (cut_wp hc ?_)
 have hs0:=Fn.start (P:=P) hN ha hh g1 g2 hgw g3 g4 g5
 generalize hΓ:(⟨P,G,D,ρ,hin.length,w,fn.ntmps,[]⟩:Ctx)=Γ at hs0
 have eP:Γ.P=P:=by rw [← hΓ]
 have eG:Γ.G=G:=by rw [← hΓ]
 have eN:Γ.N=fn.ntmps:=by rw [← hΓ]
 have eK:Γ.kin=hin.length:=by rw [← hΓ]
 have eD:Γ.D0=D:=by rw [← hΓ]
 have eR:Γ.ρ0=ρ:=by rw [← hΓ]
 have eW:Γ.w0=w:=by rw [← hΓ]
 have ed:Γ.dfr=[]:=by rw [← hΓ]
 have hpost:=h Γ eP eG eN eK
 clear hΓ
 subst eP eG eD eR eW
 refine wpL_post (fun st1 a1 w1 hq s1 => ?_) (fun st1 a1 w1 hq s1 => ?_) hpost hs0
 ·obtain ⟨st2,xs,he,hfull,hkn,hcap,ht6,hC⟩:=hq
  obtain ⟨D1,ρ1,s2⟩:=he Γ a1 w1 eK s1
  have hkn:hin.length≤st2.nx:=Nat.le_of_ble_eq_true hkn
  obtain ⟨cS,cL,cD⟩:=cap_den s2 hcap
  have hfull:=fun i=>full_get (i:=i) hfull
  have own1:∀ i,i<st2.nx→(ρ1 i).2≠0→Γ.w0.heap.size≤(ρ1 i).1∨∃ j,j<Γ.kin∧(Γ.ρ0 j).2≠0∧(Γ.ρ0 j).1=(ρ1 i).1:=by
   intro i hi lv
   obtain ⟨b,hb⟩:=hfull i hi
   exact s2.own i b hb lv
  refine defer_region h1 h1d h1g h2 h2c h2a h2d h2g (by rw [s2.size,eN];exact Nat.le_of_ble_eq_true ht) ?_
  generalize hd:(⟨.fn (.func fd) (cap.map a1.eval),#[]⟩:Deferred)=d
  have hdl:d::a1.defers=[d]:=by rw [s2.defers,ed]
  rw [hdl]
  let Γ':Ctx:=⟨Γ.P,Γ.G,D1,ρ1,st2.nx,w1,Γ.N,[d]⟩
  have s2':Sat0 Γ' st2 { tmps:=a1.tmps.setIfInBounds t (.func (.func fd) #[] (cap.map a1.eval)),defers:=[d] } w1:=by
   refine ⟨D1,ρ1,{ defers:=rfl,size := ?_,tm := ?_,hp:=s2.hp,inj:=s2.inj,agree:=s2.agree,sep:=s2.sep,le:=DatLe.refl _,glob:=s2.glob,gl:=⟨s2.globW,?_⟩,own := ?_,kin:=fun i _=>rfl,newD:=fun b o v h => .inl h,frame:=fun b _ _=>rfl,os:=rfl,tape:=rfl,output:=rfl,grow:=Nat.le_refl _,drawn:=fun _=>Nat.le_refl _,idT:=s2.idT,idH:=s2.idH,kinS:=fun i hi=>hi }⟩
   ·show (a1.tmps.setIfInBounds t _).size=Γ.N
    rw [Array.size_setIfInBounds];exact s2.size
   ·intro t' v hv
    obtain ⟨u,hu,hd⟩:=s2.tm t' v hv
    have hne:t≠t':=by rintro rfl;rw [ht6] at hv;cases hv
    refine ⟨u,by rw [Array.getElem?_setIfInBounds,if_neg hne];exact hu,?_⟩
    cases v with
    | v x=>exact hd
    | tup l=>exact hd
    | cnd _ _ _=>exact hd.1.elim
    | junk=>trivial
   ·intro g cs hg hne i hi li e
    rcases own1 i hi li with q | ⟨j,hj,lj,e'⟩
    ·obtain ⟨arr,e1,fz,k1,k2⟩:=s2.gl.1 g cs hg hne
     have e:(ρ1 i).1=g:=e
     rw [e] at q
     simp [Array.getElem?_eq_none q] at k1
    ·exact s2.gl.2 g cs hg hne j hj lj (e'.trans e)
   ·intro id b hb lv
    exact .inr ⟨id,(s2.idH id b hb).1,lv,rfl⟩
  have hC:Tri Γ' c' st2 (post Γ' [] (EndQ Γ.P Γ.G fn.results.toList hin.length R fd xs)):=hC Γ' rfl rfl eN rfl
  refine Go.wp_mono (hC _ w1 s2') ?_
  have fin:∀ st3 a3 w3,EndQ Γ.P Γ.G fn.results.toList hin.length R fd xs st3→Sat0 Γ' st3 a3 w3→Leaves Γ.P fn a3.tmps (Rets Γ.G hin.length R Γ.D0 Γ.ρ0 Γ.w0) a3.defers .returning w3:=by
   rintro st3 a3 w3 ⟨m,hin',args',hout,bs,hfn,hgo,hxs,hbs,hbe,hchk,hfin⟩ ⟨D3,ρ3,s3⟩
   obtain ⟨k1,hchk⟩:=bAnd_eq hchk
   obtain ⟨k2,hchk⟩:=bAnd_eq hchk
   obtain ⟨k3,k4⟩:=bAnd_eq hchk
   have k1:=nodupB_nodup k1
   have k2:=(beq_eq _ _).1 k2
   rw [len_eq,len_eq] at k2
   rw [len_eq] at k3
   have k3:=houtOk_lt k3
   have k4:=nodupB_nodup k4
   obtain ⟨b1,b2⟩:=blks_ev hbs
   have hcl:DenL D3 ρ3 xs (cap.map a1.eval):=by
    have q1:DenL D1 ρ1 xs (cap.map a1.eval):=by
     refine ⟨by rw [Array.size_map,cL,Array.length_toList],fun j x hj => ?_⟩
     obtain ⟨o,ho,hdx⟩:=cD j x hj
     exact ⟨a1.eval o,by simp at ho;simp [ho],hdx⟩
    exact (q1.mono s3.le).agr (fun i hi=>(s3.kin i hi).symm) cS
   have hin2:∀ (i:Nat) (b:Blk),hin'[i]?=some b→∃ id,m[i]?=some id∧look st3.hp id=some (b.ren (sigIn m)):=by
    intro i b hi
    have:bs[i]?=some (b.ren (sigIn m)):=by rw [hbe];simp [hi]
    exact b2 i _ this
   have hmb:∀ (i id:Nat),m[i]?=some id→∃ b,look st3.hp id=some b:=by
    intro i id hi
    have hlt:i<bs.length:=by
     rw [b1]
     rcases Nat.lt_or_ge i m.length with h | h
     ·exact h
     ·simp [List.getElem?_eq_none h] at hi
    obtain ⟨id',e1,e2⟩:=b2 i bs[i] (by simp [hlt])
    rw [hi] at e1
    simp only [Option.some.injEq] at e1
    subst e1
    exact ⟨_,e2⟩
   rw [s3.defers]
   refine ⟨by simp,.func fd,cap.map a1.eval,fd,cap.map a1.eval,by rw [← hd],?_,?_⟩
   ·rw [← hd]
    simp only [invoke,Array.empty_append]
    exact isGo_run hgo _ _
   ·have hcall:=hfn D3 (fun i=>ρ3 (sigIn m i)) w3 (cap.map a1.eval) (DenL.map_ren.1 (hxs▸hcl)) s3.glob s3.globW s3.agree ?_ ?_
    ·intro cc cs hu
     obtain ⟨e,u',w4,fr,⟨hu',rs,ho,D',ρ',v,rfl,⟨rfl,rfl⟩,hres,hids,af⟩,hcomes,hk,hgo'⟩:=hcall cc cs hu
     refine ⟨.returned v,u',w4,fr,?_,hcomes,hk,hgo'⟩
     subst hu'
     rw [← k2] at af
     obtain ⟨ρ'',r1,r2,hsat⟩:=s3.after (nid:=st3.nx) (fun i h1 _ h3=>absurd (show i<st3.nx from h3) (by omega)) k1 hmb k3 k4 af
     have hback:=s2.back (n:=st2.nx) hfull (by omega) hsat
     have hfin:FinQ Γ.P fn.results.toList Γ.kin R (st3.sets (goneL m++outL m st3.nx ho)):=eK▸hfin
     obtain ⟨v',q1,q2⟩:=Fn.fin (fn:=fn) hfin hback
     exact ⟨v',q1,eK▸q2⟩
    ·intro i b hi
     obtain ⟨id,e1,e2⟩:=hin2 i b hi
     have e3:=(sig_in e1).1
     refine ⟨BlkSat.ren.1 ?_,fun lv o => ?_⟩
     ·rw [e3];exact s3.hp id _ e2
     ·have lv:(ρ3 (sigIn m i)).2≠0:=lv
      show D3 (ρ3 (sigIn m i)).1 o=none
      rw [e3] at lv ⊢;exact s3.sep id _ e2 lv o
    ·intro i j bi bj hi hj li lj e
     obtain ⟨idi,e1,hbi⟩:=hin2 i bi hi
     obtain ⟨idj,e2,hbj⟩:=hin2 j bj hj
     have li:(ρ3 (sigIn m i)).2≠0:=li
     have lj:(ρ3 (sigIn m j)).2≠0:=lj
     simp only [(sig_in e1).1,(sig_in e2).1] at e li lj
     have hid:=s3.inj _ _ _ _ hbi hbj li lj e
     subst hid
     have hi':i<m.length:=by
      rcases Nat.lt_or_ge i m.length with h | h
      ·exact h
      ·simp [List.getElem?_eq_none h] at e1
     have hj':j<m.length:=by
      rcases Nat.lt_or_ge j m.length with h | h
      ·exact h
      ·simp [List.getElem?_eq_none h] at e2
     have:m[i]=m[j]:=by
      rw [List.getElem?_eq_getElem hi'] at e1
      rw [List.getElem?_eq_getElem hj'] at e2
      simp only [Option.some.injEq] at e1 e2
      rw [e1,e2]
     exact (List.getElem_inj k1).1 this
  rintro e a3 w3 ⟨st3,q3,s3⟩
  cases e with
  | normal=>exact fin st3 a3 w3 q3 s3
  | ret=>exact fin st3 a3 w3 q3 s3
  | exit id=>exact q3.elim
  | goto l=>exact q3.elim
  | panic ch=>exact q3.elim
  | outgrown=>exact q3.elim
 ·obtain ⟨D1,ρ1,s1⟩:=s1
  show Leaves Γ.P fn a1.tmps _ a1.defers .returning w1
  rw [s1.defers,ed]
  have hq:FinQ Γ.P fn.results.toList Γ.kin R st1:=eK▸hq
  obtain ⟨v',q1,q2⟩:=Fn.fin (fn:=fn) hq s1
  exact ⟨v',q1,eK▸q2⟩
end Go.Sv
end
section
namespace Go.Sv
open M
def dfX (n:Nat) (fn:Func):Option (FuncId×List Operand×Nat×Code×List Code):=match cutC n (codeOf fn) with
 | some (l,.region _ ⟨[o1,o2]⟩ false,c')=>match o1.op,o1.dst,o1.guard,o2.op,o2.dst,o2.guard with
  | .makeFunc (.func fd) ⟨[]⟩ cap,some t,none,.defer cl,none,none=>match cl.callee,cl.args with
   | .value (.tmp t'),⟨[]⟩=>match bAnd (Nat.beq t' t) (Nat.blt t fn.ntmps) with
    | true=>some (fd,cap.toList,t,c',l)
    | false=>none
   | _,_=>none
  | _,_,_,_,_,_=>none
 | _=>none
def dfF (n:Nat) (fn:Func):FuncId:=match dfX n fn with
 | some p=>p.1
 | none=>0
def dfCap (n:Nat) (fn:Func):List Operand:=match dfX n fn with
 | some p=>p.2.1
 | none=>[]
def dfT (n:Nat) (fn:Func):Nat:=match dfX n fn with
 | some p=>p.2.2.1
 | none=>0
def dfC (n:Nat) (fn:Func):Code:=match dfX n fn with
 | some p=>p.2.2.2.1
 | none => .skip
def dfL (n:Nat) (fn:Func):List Code:=match dfX n fn with
 | some p=>p.2.2.2.2
 | none=>[]
def dfOk (n:Nat) (fn:Func):Bool:=match dfX n fn with
 | some _=>true
 | none=>false
theorem zfD {P:Program} {G:Nat→Option (List Cell)} {f:FuncId} {fn:Func} {hin:List Blk} {args:List V1} {R:List V1→List (Nat×Blk)→Prop} (n:Nat) (hf:P.funcs[f]?=some fn)
  (h:Wp P G fn.ntmps (len hin) (kiL (dfL n fn) [.lp (DeferQ P G fn.ntmps fn.results.toList (len hin) R (dfF n fn) (dfCap n fn) (dfT n fn) (dfC n fn))]) (FinQ P fn.results.toList (len hin) R) (st0 args hin))
  (hd:dfOk n fn=true:=by kernel_rfl) (hb:fn.body=some (codeOf fn):=by kernel_rfl) (hN:Nat.ble (len args) fn.ntmps=true:=by kernel_rfl) (ha:idLtVs (len hin) args=true:=by kernel_rfl) (hh:idLtB (len hin) (hinB 0 hin)=true:=by kernel_rfl)
  (hr:RowsIn (fun i=>i<len hin) (hinB 0 hin):=by exact trivial):Fn P G f hin args R:=by
 have hl:=len_eq hin
 rw [hl] at h ha hh hr
 have hN':args.length≤fn.ntmps:=by
  have:=Nat.le_of_ble_eq_true hN
  rw [len_eq] at this
  exact this
 have ha':∀ (j:Nat) (x:V1),args[j]?=some x→x.inS (fun i=>i<hin.length):=fun j x hj=>idLtVs_inS ha j x hj
 have hh':∀ (i:Nat) (b:Blk),hin[i]?=some b→b.inS (fun i=>i<hin.length):=fun i b hi=>(idLtB_inS hh hr _ b (look_hinB hin 0 i b hi)).2
 cases hx:dfX n fn with
 | none=>simp [dfOk,hx] at hd
 | some p =>
  obtain ⟨fd,caps,t,c',l⟩:=p
  simp only [dfF,dfCap,dfT,dfC,dfL,hx] at h
  unfold dfX at hx
  split at hx
  ·rename_i l0 id o1 o2 c0 hc
   split at hx
   ·rename_i fd0 cap t0 cl e1 e2 e3 e4 e5 e6
    split at hx
    ·rename_i t1 e7 e8
     split at hx
     ·rename_i hbb
      simp only [Option.some.injEq,Prod.mk.injEq] at hx
      obtain ⟨rfl,rfl,rfl,rfl,rfl⟩:=hx
      obtain ⟨k1,k2⟩:=bAnd_eq hbb
      have k1:=(beq_eq _ _).1 k1
      subst k1
      exact Fn.ofD n hf hb hN' ha' hh' hc e1 e2 e3 e4 e7 e8 e5 e6 k2 h
     ·cases hx
    ·cases hx
   ·cases hx
  ·cases hx
section
variable {P:Program} {G:Nat→Option (List Cell)} {N kn kn2:Nat} {k:List KI} {Q:St→Prop} {st:St} {rv:List ResultVar}
def capD (st:St) (l:List Operand):List V1:=match capL st l with
 | some l=>l
 | none=>[]
def capB (st:St) (l:List Operand):Bool:=match capL st l with
 | some _=>true
 | none=>false
theorem capB_eq {st:St} {l:List Operand} (h:capB st l=true):capL st l=some (capD st l):=by
 unfold capB at h;unfold capD
 split at h
 ·rename_i e;rw [e]
 ·cases h
theorem zdf {R:List V1→List (Nat×Blk)→Prop} (n:Nat) (fn:Func) (st2:St) (m:List (Nat×Nat)) (hw:Wp P G N st2.nx [.code (dfC n fn)] (EndQ P G rv kn R (dfF n fn) (capD st2 (dfCap n fn))) st2)
  (h:lpR k=DeferQ P G N rv kn R (dfF n fn) (dfCap n fn) (dfT n fn) (dfC n fn):=by kernel_rfl) (hok:entOk kn m st2=true:=by kernel_rfl) (hT:entT st st2.tm=some (renT m st2.tm):=by kernel_rfl) (hB:entB m st st2.hp=some (renB m st2.hp):=by kernel_rfl)
  (hfull:fullB st2.hp st2.nx=true:=by kernel_rfl) (hkn:Nat.ble kn st2.nx=true:=by kernel_rfl) (hc:capB st2 (dfCap n fn)=true:=by kernel_rfl) (ht:look st2.tm (dfT n fn)=none:=by kernel_rfl) (hR:RowsIn (fun i=>i<st2.nx) st2.hp:=by exact trivial):Wp P G N kn k (FinQ P rv kn R) st :=
 Wp.lpK h ⟨st2,capD st2 (dfCap n fn),Ent.of m hok hT hB hR,hfull,hkn,capB_eq hc,ht,hw⟩
def blksV (m:List Nat) (st:St):Option (List Blk):=match blksM m st.get with
 | some (l,_)=>some l
 | none=>none
theorem blksV_ev {m:List Nat} {st:St} {l:List Blk} (h:blksV m st=some l):(blksM m).Ev st.get l:=by
 unfold blksV at h
 cases hh:blksM m st.get with
 | none=>simp [hh] at h
 | some p=>obtain ⟨l',r⟩:=p; simp only [hh,Option.some.injEq] at h; subst h; exact ⟨r,hh⟩
def endSt (st:St) (mD:List Nat) (ho:List (Nat×Blk)):St:=st.sets (goneL mD++outL mD st.nx ho)
theorem zed {fd fd2:FuncId} {xs:List V1} {rs:List V1} {hout:List (Nat×Blk)} {hin:List Blk} {args:List V1} {ho:List (Nat×Blk)} (mD:List Nat) (c:FnD P G fd2 hin args (fun r h=>r=[]∧h=ho)) (m:List Nat) (hfd:fd=fd2:=by kernel_rfl)
  (h:isRet k=true:=by kernel_rfl) (hgo:isGo P fd=true:=by kernel_rfl) (hx:xs=mapL (V1.ren (sigIn mD)) args:=by kernel_rfl) (hbs:blksV mD st=some (mapL (Blk.ren (sigIn mD)) hin):=by kernel_rfl)
  (hchk:bAnd (nodupB mD) (bAnd (Nat.beq (len mD) (len hin)) (bAnd (houtOk (len mD) ho) (nodupB (fstL ho))))=true:=by kernel_rfl)
  (hr:resV P rv (endSt st mD ho)=some (mapL (V1.ren (sigF kn m)) rs):=by kernel_rfl)
  (hb:mapL (fun p:Nat×Blk=>look (endSt st mD ho).hp (sigF kn m p.1)) hout=mapL (fun p:Nat×Blk=>some (p.2.ren (sigF kn m))) hout:=by kernel_rfl) (hi:nodupB (mapL (sigF kn m) (fstL hout))=true:=by kernel_rfl)
  (h4:mInVs (fstL hout) rs=true:=by kernel_rfl) (h5:mInB (fstL hout) hout=true:=by kernel_rfl) (h6:RowsIn (fun i=>i∈fstL hout) hout:=by exact trivial):Wp P G N kn2 k (EndQ P G rv kn (fun r h=>r=rs∧h=hout) fd xs) st:=by
 subst hfd
 exact Wp.ret' h ⟨mD,hin,args,ho,_,c,hgo,by rw [hx,mapL_eq],blksV_ev hbs,by rw [mapL_eq],hchk,FinQ.blk m hr hb hi h4 h5 h6⟩
theorem zfd {f:FuncId} {fn:Func} {hin:List Blk} {args:List V1} {R:List V1→List (Nat×Blk)→Prop} (hf:P.funcs[f]?=some fn) (h:Wp P G fn.ntmps (len hin) [.code (codeOf fn)] (FinQ P fn.results.toList (len hin) R) (st0 args hin))
  (hb:fn.body=some (codeOf fn):=by kernel_rfl) (hN:Nat.ble (len args) fn.ntmps=true:=by kernel_rfl) (ha:idLtVs (len hin) args=true:=by kernel_rfl) (hh:idLtB (len hin) (hinB 0 hin)=true:=by kernel_rfl)
  (hr:RowsIn (fun i=>i<len hin) (hinB 0 hin):=by exact trivial):FnD P G f hin args R:=by
 have hl:=len_eq hin
 rw [hl] at h ha hh hr
 refine FnD.of hf hb ?_ (fun j x hj=>idLtVs_inS ha j x hj) (fun i b hi=>(idLtB_inS hh hr _ b (look_hinB hin 0 i b hi)).2) h
 have:=Nat.le_of_ble_eq_true hN
 rw [len_eq] at this
 exact this
end
end Go.Sv
end
section
namespace Go.Sv
theorem mapM_keep {α β:Type} {f g:α→Option β}:∀ {l:List α} {ys:List β},l.mapM f=some ys→(∀ x∈l,∀ y,f x=some y→y∈ys→g x=some y)→l.mapM g=some ys
 | [],ys,h,_=>by simpa using h
 | x::l,ys,h,hg=>by
  rw [List.mapM_cons] at h ⊢
  cases hx:f x with
  | none=>rw [hx] at h; cases h
  | some y =>
   rw [hx] at h
   cases hl:l.mapM f with
   | none=>rw [hl] at h; cases h
   | some zs =>
    rw [hl] at h
    obtain rfl:y::zs=ys:=by simpa using h
    rw [hg x (by simp) y hx (by simp),mapM_keep hl (fun u hu v hv hm=>hg u (by simp [hu]) v hv (by simp [hm]))]
    rfl
theorem cell_keep {W W':World} (hk:∀ b,b<W.heap.size→W'.heap[b]?=W.heap[b]?) {a:Addr} {v:Value} (h:W.cell? a=some v):W'.cell? a=some v:=by
 have hb:a.block<W.heap.size:=by
  rcases Nat.lt_or_ge a.block W.heap.size with hlt | hge
  ·exact hlt
  ·simp [World.cell?,Array.getElem?_eq_none hge] at h
 simp only [World.cell?,hk _ hb] at h ⊢
 exact h
theorem cells_keep {W W':World} (hk:∀ b,b<W.heap.size→W'.heap[b]?=W.heap[b]?) {base:Nat} {a:Addr} {n:Nat} {l:List Value} (h:W.cells? base a n=some l):W'.cells? base a n=some l:=by
 unfold World.cells? at h ⊢
 split at h
 ·rename_i hb
  rw [if_pos hb]
  exact mapM_keep h (fun x _ y hy _=>cell_keep hk hy)
 ·cases h
def stepT (P:Program) (S:TypeId→Bool) (t:TypeId):Bool:=match P.underlying t with
 | some (.slice e) => !(Nat.beq (P.cellsOf e) 0)&&S e
 | some (.pointer e)=>S e
 | some (.struct fs)=>fs.toList.all fun f=>S f.type
 | some (.array _ e)=>S e
 | some (.map _ e)=>S e
 | _=>true
def inL (l:List TypeId) (t:TypeId):Bool:=l.any fun u=>Nat.beq u t
def closedT (P:Program) (l:List TypeId):Bool:=l.all (stepT P (inL l))
theorem closed_step {P:Program} {l:List TypeId} (h:closedT P l=true) {t:TypeId} (ht:inL l t=true):stepT P (inL l) t=true:=by
 obtain ⟨u,hu,e⟩:=List.any_eq_true.1 ht
 obtain rfl:u=t:=Nat.eq_of_beq_eq_true e
 exact List.all_eq_true.1 h u hu
theorem trod_keep {H:Type} {enc:TypeId×Value→H} {P:Program} {W W':World} {base:Nat} {sp sp':Nat→Bool} {l:List TypeId} (hk:∀ b,b<W.heap.size→W'.heap[b]?=W.heap[b]?)
  (hz:closedT P l=true) (hsp:∀ b,sp b=true):∀ (fuel:Nat) (t:TypeId) (cs:List Value) (d:DataW H) (p:List MemPlace),inL l t=true→DataW.trod enc P W base sp true fuel t cs=some (d,p) →
   (∀ q∈p,sp' q.block=true)→DataW.trod enc P W' base sp' true fuel t cs=some (d,p):=by
 intro fuel
 induction fuel with
 | zero=>intro t cs d p _ h; simp [DataW.trod] at h
 | succ fuel ih =>
  intro t cs d p hin h hs
  have hst:=closed_step hz hin
  unfold stepT at hst
  unfold DataW.trod at h ⊢
  generalize hu:P.underlying t=u at h hst ⊢
  split at h
  case h_6 e a =>
   simp only at hst
   rw [Option.map_eq_some_iff] at h
   obtain ⟨x,hx,he⟩:=h
   rw [Option.bind_eq_some_iff] at hx
   obtain ⟨vl,hl,hx⟩:=hx
   simp only [Prod.mk.injEq] at he
   obtain ⟨rfl,rfl⟩:=he
   simp only [cells_keep hk hl,Option.bind_some]
   rw [ih e vl x.1 x.2 hst hx (fun q hq=>hs q (by simp [hq]))]
   rfl
  case h_8 e a len cap =>
   simp only [Bool.and_eq_true,Bool.not_eq_true'] at hst
   have hz:P.cellsOf e≠0:=fun h0=>by rw [h0] at hst;exact absurd hst.1 dC
   simp only at h ⊢
   split at h
   ·rename_i hc
    rw [if_pos hc]
    rw [Option.bind_eq_some_iff] at h
    obtain ⟨elems,hel,h⟩:=h
    rw [Option.map_eq_some_iff] at h
    obtain ⟨rest,hre,he⟩:=h
    simp only [Prod.mk.injEq] at he
    obtain ⟨rfl,rfl⟩:=he
    have elemAt:∀ (i:Nat) (y:DataW H×List MemPlace),(W.cells? base (a.add (i*P.cellsOf e)) (P.cellsOf e)).bind (DataW.trod enc P W base sp true fuel e)=some y→y∈elems++rest →
      (W'.cells? base (a.add (i*P.cellsOf e)) (P.cellsOf e)).bind (DataW.trod enc P W' base sp' true fuel e)=some y:=by
     intro i y hy hm
     rw [Option.bind_eq_some_iff] at hy ⊢
     obtain ⟨vl,hl,hy⟩:=hy
     exact ⟨vl,cells_keep hk hl,ih e vl y.1 y.2 hst.2 hy (fun q hq=>hs q (List.mem_append_right _ (List.mem_flatMap.2 ⟨y,hm,hq⟩)))⟩
    rw [mapM_keep hel (fun x _ y hy hm=>elemAt x y hy (List.mem_append_left _ hm))]
    simp only [Option.bind_some]
    have hrest:(if sp' a.block=true then (List.range (cap-len)).mapM fun j=>(W'.cells? base (a.add ((len+j)*P.cellsOf e)) (P.cellsOf e)).bind (DataW.trod enc P W' base sp' true fuel e) else some [])=some rest:=by
     by_cases h0:elems.length+rest.length=0
     ·have hr:rest=[]:=List.eq_nil_of_length_eq_zero oM
      have hle:elems=[]:=List.eq_nil_of_length_eq_zero oM
      have none0:∀ {f:Nat→Option (DataW H×List MemPlace)} {n:Nat} {ys:List (DataW H×List MemPlace)},(List.range n).mapM f=some ys→ys=[]→n=0:=by
       intro f n ys h hy
       subst hy
       cases n with
       | zero=>rfl
       | succ n =>
        rw [List.range_succ_eq_map,List.mapM_cons] at h
        exfalso
        revert h
        cases f 0 with
        | none=>intro h; cases h
        | some y =>
         intro h
         simp only [Option.bind_eq_bind,Option.bind_some] at h
         rw [Option.bind_eq_some_iff] at h
         obtain ⟨_,_,h⟩:=h
         simp at h
      have hlen:=none0 hel hle
      rw [if_pos (hsp _)] at hre
      have hc0:=none0 hre hr
      rw [hc0,hr]
      simp
     ·have hb:sp' a.block=true:=by
       have hm:(MemPlace.cell a.block (a.off+0))∈MemPlace.row a ((elems.length+rest.length)*P.cellsOf e):=by
        unfold MemPlace.row
        refine List.mem_map.2 ⟨0,List.mem_range.2 ?_,rfl⟩
        exact Nat.mul_pos oM oM
       exact hs _ (List.mem_append_left _ hm)
      rw [if_pos hb]
      rw [if_pos (hsp _)] at hre
      exact mapM_keep hre (fun x _ y hy hm=>elemAt (len+x) y hy (List.mem_append_right _ hm))
    rw [hrest]
    rfl
   ·cases h
  case h_9 fs =>
   split at h
   ·rename_i hc
    rw [if_pos hc]
    rw [Option.map_eq_some_iff] at h
    obtain ⟨xs,hx,he⟩:=h
    simp only [Prod.mk.injEq] at he
    obtain ⟨rfl,rfl⟩:=he
    rw [mapM_keep hx (fun f hf y hy hm=>ih _ _ y.1 y.2 (List.all_eq_true.1 hst f hf) hy (fun q hq=>hs q (List.mem_flatMap.2 ⟨y,hm,hq⟩)))]
    rfl
   ·cases h
  case h_10 n e =>
   split at h
   ·rename_i hc
    rw [if_pos hc]
    rw [Option.map_eq_some_iff] at h
    obtain ⟨xs,hx,he⟩:=h
    simp only [Prod.mk.injEq] at he
    obtain ⟨rfl,rfl⟩:=he
    rw [mapM_keep hx (fun f _ y hy hm=>ih _ _ y.1 y.2 hst hy (fun q hq=>hs q (List.mem_flatMap.2 ⟨y,hm,hq⟩)))]
    rfl
   ·cases h
  case h_12 ms u v=>exact h
  case h_14 k e b =>
   cases hb:W.heap[b]? with
   | none=>rw [hb] at h; cases h
   | some o =>
    have hlt:b<W.heap.size:=by
     rcases Nat.lt_or_ge b W.heap.size with hlt | hge
     ·exact hlt
     ·rw [Array.getElem?_eq_none hge] at hb;cases hb
    rw [hb] at h
    rw [hk b hlt,hb]
    cases o with
    | map es clock =>
     simp only at h ⊢
     split at h
     ·rename_i hc
      rw [if_pos hc]
      rw [Option.bind_eq_some_iff] at h
      obtain ⟨entries,he,h⟩:=h
      have he':entries.flatMap (fun x=>x.2) ⊆ p:=by
       split at h
       ·simp only [Option.some.injEq,Prod.mk.injEq] at h
        rw [← h.2]
        exact fun x hx=>List.mem_cons_of_mem _ hx
       ·cases h
      rw [mapM_keep (g:=fun x=>(keyOf P k x.key).bind fun key=>if x.val.formed P e then (DataW.trod enc P W' base sp' true fuel e x.val.cells.toList).map fun y=>((key,y.1),y.2) else none) he (fun x _ y hy hm=>by
       rw [Option.bind_eq_some_iff] at hy ⊢
       obtain ⟨key,hkey,hy⟩:=hy
       refine ⟨key,hkey,?_⟩
       split at hy
       ·rename_i hf
        rw [if_pos hf]
        rw [Option.map_eq_some_iff] at hy ⊢
        obtain ⟨z,hz',rfl⟩:=hy
        exact ⟨z,ih e _ z.1 z.2 hst hz' (fun q hq=>hs q (he' (List.mem_flatMap.2 ⟨_,hm,hq⟩))),rfl⟩
       ·cases hy)]
      exact h
     ·cases h
    | _=>cases h
  all_goals exact h
theorem trodAll_keep {H:Type} {enc:TypeId×Value→H} {P:Program} {W W':World} {base:Nat} {sp sp':Nat→Bool} {l:List TypeId} (hk:∀ b,b<W.heap.size→W'.heap[b]?=W.heap[b]?)
  (hz:closedT P l=true) (hsp:∀ b,sp b=true):∀ (ts:List TypeId) (vs:List Value) (ds:List (DataW H)) (p:List MemPlace),(∀ t∈ts,inL l t=true)→DataW.TrodAll enc P W base sp true ts vs ds p →
   (∀ q∈p,sp' q.block=true)→DataW.TrodAll enc P W' base sp' true ts vs ds p
 | [],[],[],p,_,h,_=>h
 | t::ts,v::vs,d::ds,p,hl,⟨p1,q1,⟨fuel,h1⟩,h2,e⟩,hs =>
  ⟨p1,q1,⟨fuel,trod_keep hk hz hsp fuel t _ d p1 (hl t (by simp)) h1 (fun q hq=>hs q (by rw [e];simp [hq]))⟩,trodAll_keep hk hz hsp ts vs ds q1 (fun t ht=>hl t (by simp [ht])) h2 (fun q hq=>hs q (by rw [e];simp [hq])),e⟩
theorem int_den {P:Program} {W:World} {base0:Nat} {t:TypeId} {k:IntKind} (ht:P.underlying t=some (.int k)) {v:Value} (hok:Value.okWide P W .any base0 t v) :
  ∃ z:Int,DenV (Dw W) rho0 (.c (.int k z)) v:=by
 obtain ⟨n,rfl⟩:=Go.WideShapes.okWide_int ht hok
 exact ⟨n,rfl⟩
theorem str_den {P:Program} {W:World} {base0:Nat} {t:TypeId} (ht:P.underlying t=some .string) {v:Value} (hok:Value.okWide P W .any base0 t v) :
  ∃ s:List UInt8,DenV (Dw W) rho0 (.c (.str s)) v:=by
 obtain ⟨s,rfl⟩:=Go.WideShapes.okWide_string ht hok
 exact ⟨s.data.toList,by cases s;simp [DenV,Den]⟩
end Go.Sv
end
section
namespace Go.Sv
open M Classical
def Cell.scal:Cell→Bool
 | .int .. | .bool _ | .str _ | .nilsl | .nilptr | .nilmap | .nilfn | .nilif=>true
 | _=>false
def scals:List Cell→Bool
 | []=>true
 | x::r=>bAnd x.scal (scals r)
def V1.scal:V1→Bool
 | .c x=>x.scal
 | .agg l=>scals l
def scalsV:List V1→Bool
 | []=>true
 | x::r=>bAnd x.scal (scalsV r)
def shiftF (off:Nat) (f:Nat→Nat→Cell):Nat→Nat→Cell:=match off with
 | 0=>f
 | o+1=>fun i j=>f (o+1+i) j
def lendC (hin:List Blk):Cell→Cell
 | .row sz id off n=>match nth hin id with
  | some (.row _ _ _ f) => .sl sz n (shiftF off f)
  | _ => .nilif
 | c=>c
def lendV (hin:List Blk):V1→V1
 | .c x => .c (lendC hin x)
 | .agg l => .agg (mapL (lendC hin) l)
def lokC (hin:List Blk):Cell→Bool
 | .row sz id _ _=>match nth hin id with
  | some (.row _ s _ _)=>Nat.beq s sz
  | _=>false
 | c=>c.flat
def lokL (hin:List Blk):List Cell→Bool
 | []=>true
 | x::r=>bAnd (lokC hin x) (lokL hin r)
def lokV (hin:List Blk):List V1→Bool
 | []=>true
 | .c x::r=>bAnd (lokC hin x) (lokV hin r)
 | .agg l::r=>bAnd (lokL hin l) (lokV hin r)
def lvcC (hin:List Blk):Cell→List Prop
 | .row _ id off n=>match nth hin id with
  | some (.row _ _ m _)=>[off+n≤m]
  | _=>[]
 | _=>[]
def lvcL (hin:List Blk):List Cell→List Prop
 | []=>[]
 | x::r=>lvcC hin x++lvcL hin r
def lvcV (hin:List Blk):List V1→List Prop
 | []=>[]
 | .c x::r=>lvcC hin x++lvcV hin r
 | .agg l::r=>lvcL hin l++lvcV hin r
def allRows:List Blk→Bool
 | []=>true
 | .row ..::r=>allRows r
 | _::_=>false
def idxB (k:Nat):List Blk→List (Nat×Blk)
 | []=>[]
 | b::r=>(k,b)::idxB (k+1) r
theorem scal_den {D D':Dat} {ρ ρ':Rho} {x:Cell} {u:Value} (h:x.scal=true) (hd:Den D ρ x u):Den D' ρ' x u:=by
 cases x<;>simp only [Cell.scal,Bool.false_eq_true] at h<;>exact hd
theorem scal_inS {S:Nat→Prop} {x:Cell} (h:x.scal=true):x.inS S:=by
 cases x<;>simp only [Cell.scal,Bool.false_eq_true] at h<;>trivial
theorem scals_get {l:List Cell} (h:scals l=true):∀ {j:Nat} {x:Cell},l[j]?=some x→x.scal=true:=by
 induction l with
 | nil=>intro j x hj; simp at hj
 | cons y r ih =>
  intro j x hj
  obtain ⟨h1,h2⟩:=bAnd_eq h
  cases j with
  | zero=>simp at hj; subst hj; exact h1
  | succ j=>simp at hj; exact ih h2 hj
theorem scalsV_get {l:List V1} (h:scalsV l=true):∀ {j:Nat} {x:V1},l[j]?=some x→x.scal=true:=by
 induction l with
 | nil=>intro j x hj; simp at hj
 | cons y r ih =>
  intro j x hj
  obtain ⟨h1,h2⟩:=bAnd_eq h
  cases j with
  | zero=>simp at hj; subst hj; exact h1
  | succ j=>simp at hj; exact ih h2 hj
theorem scalV_den {D D':Dat} {ρ ρ':Rho} {x:V1} {u:Value} (h:x.scal=true) (hd:DenV D ρ x u):DenV D' ρ' x u:=by
 cases x with
 | c x=>exact scal_den h hd
 | agg l=>obtain ⟨us,e,hs,hx⟩:=hd; exact ⟨us,e,hs,fun j x hj=>let ⟨u,hu,hd⟩:=hx j x hj; ⟨u,hu,scal_den (scals_get h hj) hd⟩⟩
theorem scalV_inS {S:Nat→Prop} {x:V1} (h:x.scal=true):x.inS S:=by
 cases x with
 | c x=>exact scal_inS h
 | agg l=>exact fun j x hj=>scal_inS (scals_get h hj)
theorem scal_res {D D':Dat} {ρ ρ':Rho} {rs:List V1} {v:Value} (h:scalsV rs=true) (hd:ResDen D ρ rs v):ResDen D' ρ' rs v:=by
 unfold ResDen at hd ⊢
 split at hd
 ·exact scalV_den (scalsV_get h (j:=0) (by simp)) hd
 ·obtain ⟨vs,e,h1,h2⟩:=hd
  exact ⟨vs,e,h1,fun j x hj=>let ⟨u,hu,hd⟩:=h2 j x hj;⟨u,hu,scalV_den (scalsV_get h hj) hd⟩⟩
def Lent (ρ:Rho) (k b:Nat):Prop:=∃ i,i<k∧(ρ i).2≠0∧(ρ i).1=b
noncomputable def lentD (D:Dat) (ρ:Rho) (w:World) (k:Nat):Dat:=fun b o=>if Lent ρ k b then w.cell? ⟨b,o,none⟩ else D b o
noncomputable def backD (D:Dat) (ρ:Rho) (k:Nat):Dat:=fun b o=>if Lent ρ k b then none else D b o
theorem allRows_get {l:List Blk} (h:allRows l=true):∀ {i:Nat} {b:Blk},l[i]?=some b→∃ e sz m f,b = .row e sz m f:=by
 induction l with
 | nil=>intro i b hi; simp at hi
 | cons x r ih =>
  intro i b hi
  cases x with
  | row e sz m f =>
   cases i with
   | zero=>simp at hi; exact ⟨e,sz,m,f,hi.symm⟩
   | succ i=>simp at hi; exact ih h hi
  | box e cs=>simp [allRows] at h
  | ob o=>simp [allRows] at h
theorem look_idxB:∀ (l:List Blk) (k id:Nat) (b:Blk),look (idxB k l) id=some b→k≤id∧l[id-k]?=some b
 | [],k,id,b,h=>by simp [idxB,look] at h
 | x::r,k,id,b,h=>by
  simp only [idxB,look] at h
  split at h
  ·rename_i e
   have e:=(beq_eq _ _).1 e
   subst e
   simp only [Option.some.injEq] at h
   subst h
   exact ⟨Nat.le_refl _,by simp⟩
  ·rename_i e
   have e:=(beq_ne _ _).1 e
   obtain ⟨h1,h2⟩:=look_idxB r (k+1) id b h
   refine ⟨by omega,?_⟩
   have:id-k=(id-(k+1))+1:=by omega
   rw [this];simpa using h2
section
variable {D:Dat} {ρ:Rho} {w:World} {hin:List Blk}
theorem lend_le (hsep:∀ (i:Nat) (b:Blk),hin[i]?=some b→Live ρ i b→∀ o,D (ρ i).1 o=none):DatLe D (lentD D ρ w hin.length):=by
 intro b o v hv
 unfold lentD
 rw [if_neg]
 ·exact hv
 ·rintro ⟨i,hi,h1,rfl⟩
  have:=hsep i hin[i] (by simp [hi]) h1 o
  rw [this] at hv;cases hv
theorem lend_den (hrow:∀ (i:Nat) (b:Blk),hin[i]?=some b→BlkSat D ρ i w b) (hle:DatLe D (lentD D ρ w hin.length)) {c:Cell} {u:Value} (hok:lokC hin c=true) (hvc:∀ p∈lvcC hin c,p) (hd:Den D ρ c u):Den (lentD D ρ w hin.length) rho0 (lendC hin c) u:=by
 have flat:∀ c:Cell,c.flat=true→Den D ρ c u→Den (lentD D ρ w hin.length) rho0 c u:=fun c hc hd=>Den.flat hc (Den.mono hle _ _ _ hd)
 cases c with
 | row sz id off n =>
  simp only [lokC,nth_eq] at hok
  split at hok
  ·rename_i e s m f hid
   have hs:=(beq_eq _ _).1 hok
   subst hs
   have hm:off+n≤m:=hvc _ (by simp [lvcC,nth_eq,hid])
   have hlt:id<hin.length:=by
    rcases Nat.lt_or_ge id hin.length with h | h
    ·exact h
    ·rw [List.getElem?_eq_none h] at hid;cases hid
   have sh:∀ i j,shiftF off f i j=f (off+i) j:=by
    intro i j;cases off<;>simp [shiftF]
   simp only [lendC,nth_eq,hid,Den]
   simp only [Den] at hd
   rcases hd with ⟨o,rfl,h1,h2⟩ | ⟨h0,_,rfl,ad,hsp,rfl⟩
   ·by_cases hz:(ρ id).2=0
    ·exact ⟨_,_,rfl,by omega,by omega,.inr ⟨_,_,rfl,fun i hi=>by omega⟩⟩
    ·rcases hrow id _ hid with hbk | ⟨vs,fz,q1,q2,q3,q4,q5,q6,q7,q8⟩
     ·exact (hz hbk.1).elim
     refine ⟨_,_,rfl,by omega,by omega,.inr ⟨_,_,rfl,fun i hi j hj => ?_⟩⟩
     have ho:o=off*s:=h2.resolve_right oM
     subst ho
     obtain ⟨u,hu,hdn⟩:=q8 (off+i) oM j hj
     refine ⟨u,?_,?_⟩
     ·unfold lentD
      rw [if_pos ⟨id,hlt,hz,rfl⟩]
      simp only [World.cell?,q1,Option.isSome_none,Bool.false_eq_true,if_false]
      rw [← hu,Nat.add_mul]
     ·rw [sh];exact Den.mono hle _ _ _ hdn
   ·refine ⟨ad,0,rfl,Nat.le_refl _,by omega,?_⟩
    rcases hsp with rfl | ⟨b,o,rfl⟩
    ·exact .inl rfl
    ·exact .inr ⟨b,o,rfl,fun i hi=>by omega⟩
  ·cases hok
 | _=>first | exact flat _ rfl hd | (simp [lokC,Cell.flat] at hok)
theorem lend_denL (hrow:∀ (i:Nat) (b:Blk),hin[i]?=some b→BlkSat D ρ i w b) (hle:DatLe D (lentD D ρ w hin.length)):∀ {l:List Cell},lokL hin l=true→(∀ p∈lvcL hin l,p)→∀ (j:Nat) (x:Cell),l[j]?=some x→lokC hin x=true∧∀ p∈lvcC hin x,p
 | [],_,_,j,x,hj=>by simp at hj
 | y::r,hok,hvc,0,x,hj=>by
  simp at hj;subst hj
  exact ⟨(bAnd_eq hok).1,fun p hp=>hvc p (by simp [lvcL,hp])⟩
 | y::r,hok,hvc,j+1,x,hj=>by
  simp at hj
  exact lend_denL hrow hle (bAnd_eq hok).2 (fun p hp=>hvc p (by simp [lvcL,hp])) j x hj
theorem lend_denV (hrow:∀ (i:Nat) (b:Blk),hin[i]?=some b→BlkSat D ρ i w b) (hle:DatLe D (lentD D ρ w hin.length)):∀ {l:List V1},lokV hin l=true→(∀ p∈lvcV hin l,p)→∀ (j:Nat) (x:V1),l[j]?=some x→∀ u,DenV D ρ x u→DenV (lentD D ρ w hin.length) rho0 (lendV hin x) u
 | [],_,_,j,x,hj=>by simp at hj
 | y::r,hok,hvc,0,x,hj=>by
  simp at hj;subst hj
  intro u hd
  cases y with
  | c y=>exact lend_den hrow hle (bAnd_eq hok).1 (fun p hp=>hvc p (by simp [lvcV,hp])) hd
  | agg l =>
   obtain ⟨us,e,hs,hx⟩:=hd
   refine ⟨us,e,by simp [mapL_eq,hs],fun j x hj => ?_⟩
   rw [mapL_eq,List.getElem?_map,Option.map_eq_some_iff] at hj
   obtain ⟨z,hz,rfl⟩:=hj
   obtain ⟨u,hu,hd⟩:=hx j z hz
   obtain ⟨k1,k2⟩:=lend_denL hrow hle (bAnd_eq hok).1 (fun p hp=>hvc p (by simp [lvcV,hp])) j z hz
   exact ⟨u,hu,lend_den hrow hle k1 k2 hd⟩
 | y::r,hok,hvc,j+1,x,hj=>by
  simp at hj
  intro u hd
  cases y with
  | c y=>exact lend_denV hrow hle (bAnd_eq hok).2 (fun p hp=>hvc p (by simp [lvcV,hp])) j x hj u hd
  | agg l=>exact lend_denV hrow hle (bAnd_eq hok).2 (fun p hp=>hvc p (by simp [lvcV,hp])) j x hj u hd
end
theorem Pur.lend {P:Program} {G:Nat→Option (List Cell)} {f:FuncId} (hin:List Blk) (args:List V1) {rs:List V1} (h:Pur P G f (mapL (lendV hin) args) rs) (hr:allRows hin=true) (hok:lokV hin args=true) (hs:scalsV rs=true) (hvc:AllP (lvcV hin args)) :
  Fn P G f hin args (fun r o=>r=rs∧o=idxB 0 hin):=by
 intro D ρ w vs h1 h2 hgw h3 h4 h5
 have hvc:=fun p hp=>AllP.mem hvc p hp
 have hrow:∀ (i:Nat) (b:Blk),hin[i]?=some b→BlkSat D ρ i w b:=fun i b hi=>(h4 i b hi).1
 have hle:=lend_le (w:=w) (fun i b hi=>(h4 i b hi).2)
 have key:=lend_denV hrow hle hok hvc
 have hag:Agree (lentD D ρ w hin.length) w:=by
  intro b o v hv
  unfold lentD at hv
  split at hv
  ·exact hv
  ·exact h3 b o v hv
 have hsz:∀ b,Lent ρ hin.length b→b<w.heap.size:=by
  rintro b ⟨i,hi,h0,rfl⟩
  obtain ⟨e,sz,m,g,hb⟩:=allRows_get hr (i:=i) (b:=hin[i]) (by simp [hi])
  have:=hrow i _ (by simp [hi];exact hb)
  rcases this with hbk | ⟨vs,fz,q1,_⟩
  ·exact (h0 hbk.1).elim
  ·rcases Nat.lt_or_ge (ρ i).1 w.heap.size with hh | hh
   ·exact hh
   ·rw [Array.getElem?_eq_none hh] at q1;cases q1
 refine (h (lentD D ρ w hin.length) rho0 w vs ⟨by simp [mapL_eq,h1.1],fun j x hj => ?_⟩ (fun g cs hg j x hx=>let ⟨u,hu,hd⟩:=h2 g cs hg j x hx;⟨u,hle _ _ _ hu,Den.mono hle _ _ _ hd⟩) hgw hag (fun i b hi=>by simp at hi) (fun i j bi bj hi=>by simp at hi)).mono ?_
 ·rw [mapL_eq,List.getElem?_map,Option.map_eq_some_iff] at hj
  obtain ⟨y,hy,rfl⟩:=hj
  obtain ⟨u,hu,hd⟩:=h1.2 j y hy
  exact ⟨u,hu,key j y hy u hd⟩
 ·rintro e w' ⟨rs',ho,D',ρ',v,rfl,⟨rfl,rfl⟩,hres,_,hA⟩
  have hD:∀ b o v,lentD D ρ w hin.length b o=some v→D' b o=some v:=hA.le
  have hDD:DatLe D (backD D' ρ hin.length):=by
   intro b o v hv
   have hv':=hle b o v hv
   unfold backD
   rw [if_neg]
   ·exact hD b o v hv'
   ·rintro ⟨i,hi,h0,rfl⟩
    have:=(h4 i hin[i] (by simp [hi])).2 h0 o
    rw [this] at hv;cases hv
  have hfr:∀ b,b<w.heap.size→w'.heap[b]?=w.heap[b]?:=fun b hb=>hA.frame b hb (fun i hi=>by simp at hi)
  have hget:∀ id b,look (idxB 0 hin) id=some b→id<hin.length∧hin[id]?=some b:=by
   intro id b hb
   obtain ⟨_,hb⟩:=look_idxB hin 0 id b hb
   rw [Nat.sub_zero] at hb
   refine ⟨?_,hb⟩
   rcases Nat.lt_or_ge id hin.length with hh | hh
   ·exact hh
   ·rw [List.getElem?_eq_none hh] at hb;cases hb
  refine ⟨rs',idxB 0 hin,backD D' ρ hin.length,ρ,v,rfl,⟨rfl,rfl⟩,scal_res hs hres,fun j x hj=>scalV_inS (scalsV_get hs hj),?_⟩
  exact {
   hp:=by
    intro id b hb
    obtain ⟨hi,hb⟩:=hget id b hb
    obtain ⟨e,sz,m,g,rfl⟩:=allRows_get hr hb
    rcases hrow id _ hb with hbk | ⟨vs,fz,q1,q2,q3,q4,q5,q6,q7,q8⟩
    ·exact .inl hbk
    ·have hlt:(ρ id).1<w.heap.size:=by
      rcases Nat.lt_or_ge (ρ id).1 w.heap.size with hh | hh
      ·exact hh
      ·rw [Array.getElem?_eq_none hh] at q1;cases q1
     exact .inr ⟨vs,fz,(hfr _ hlt).trans q1,q2,q3,q4,q5,q6,q7,fun i hi j hj=>let ⟨u,hu,hd⟩:=q8 i hi j hj;⟨u,hu,Den.mono hDD _ _ _ hd⟩⟩
   inj:=fun i j bi bj hi hj li lj e=>h5 i j bi bj (hget i bi hi).2 (hget j bj hj).2 li lj e
   sep:=by
    intro id b hb hl o
    unfold backD
    rw [if_pos ⟨id,(hget id b hb).1,hl,rfl⟩]
   agree:=by
    intro b o v hv
    unfold backD at hv
    split at hv
    ·cases hv
    ·exact hA.agree b o v hv
   le:=hDD
   kin:=fun i hi=>rfl
   own:=fun id b hb hl => .inr ⟨id,(hget id b hb).1,hl,rfl⟩
   newD:=by
    intro b o v hv
    unfold backD at hv
    split at hv
    ·cases hv
    ·rename_i hnl
     rcases hA.newD b o v hv with hh | hh | ⟨i,hi,_⟩
     ·unfold lentD at hh
      rw [if_neg hnl] at hh
      exact .inl hh
     ·exact .inr (.inl hh)
     ·simp at hi
   frame:=fun b hb _=>hfr b hb
   os:=hA.os
   tape:=hA.tape
   output:=hA.output
   grow:=hA.grow
   drawn:=hA.drawn
   ids:=by
    intro id b hb
    obtain ⟨e,sz,m,g,rfl⟩:=allRows_get hr (hget id b hb).2
    trivial }
def lc {P:Program} {G:Nat→Option (List Cell)} {f:FuncId} {rs:List V1} (m:List Nat) (hin:List Blk) (args:List V1) (h:Pur P G f (mapL (lendV hin) args) rs) (hr:allRows hin=true) (hok:lokV hin args=true) (hs:scalsV rs=true) (hvc:AllP (lvcV hin args)):CallE P G :=
 ⟨f,m,args,hin,rs,idxB 0 hin,Pur.lend hin args h hr hok hs hvc⟩
end Go.Sv
end
section
namespace Go.Sv
def rowF {α:Type} (enc:α→List Cell) (d:α) (l:List α):Nat→Nat→Cell:=fun i j=>nthD (enc (l.getD i d)) j
theorem nthD_app_lt {a b:List Cell} {j:Nat} (h:j<a.length):nthD (a++b) j=nthD a j:=by
 simp only [nthD,nth_eq,List.getElem?_append,h,if_true]
theorem nthD_app_ge {a b:List Cell} {j:Nat} (h:a.length≤j):nthD (a++b) j=nthD b (j-a.length):=by
 simp only [nthD,nth_eq,List.getElem?_append]
 rw [if_neg oM]
section
variable {α:Type} {enc:α→List Cell} {d:α} {sz:Nat}
theorem enc_app {e:TypeId} {k:Nat} (l:List α) (x:α) (hk:k=l.length):BlkEqv (.row e sz (k+1) (catF k (rowF enc d l) (fun i j=>nthD (enc x) ((0+i)*sz+j)))) (.row e sz (k+1) (rowF enc d (l++[x]))):=by
 refine BlkEqv.row_ext rfl fun i hi j hj => ?_
 subst hk
 unfold catF rowF
 split
 ·rename_i h;simp only [List.getD,List.getElem?_append,h,if_true]
 ·have h1:i=l.length:=by omega
  subst h1
  simp [List.getD]
end
theorem bytes_set {e n k:Nat} (l:List UInt8) (c:UInt8) {x:Int} (hx:x=(c.toNat:Int)) (hk:k<l.length):BlkEqv (.row e 1 n (rowSet (bytesF l) (0+k) 0 1 [.int .u8 x])) (.row e 1 n (bytesF (l.set k c))):=by
 refine BlkEqv.row_ext rfl fun i hi j hj => ?_
 obtain rfl:j=0:=by omega
 subst hx
 unfold rowSet bytesF
 rw [Nat.zero_add]
 by_cases h:i=k
 ·subst h;simp [nthD,nth_eq,List.getD,hk]
 ·rw [if_neg oM]
  simp [List.getD,List.getElem?_set,Ne.symm h]
theorem eqvI_flat (v v':V1) (h:flats v'.cells=true):EqvI v v':=by
 intro S _
 cases v' with
 | c x=>exact Cell.inS_flat (flats_get (l:=[x]) h (j:=0) (by simp))
 | agg l=>exact fun j x hj=>Cell.inS_flat (flats_get h hj)
theorem eqvD_of {v v':V1} (h:v=v'):EqvD v v':=fun _ _ _ hd=>h▸hd
end Go.Sv
end
section
namespace Go.Sv
theorem int_shape {P:Program} {w:World} {g:Nat} {t:TypeId} {zero:Array Value} {k:IntKind} (h:w.ShapedOpen P) (hg:g<P.globals.size)
  (h0:((begin P (fun _ _=>0) default).world.heap[g]?).bind Obj.row?=some (zero,t)) (hz:zero.size=1)
  (hb:P.buildable t=true) (hc:P.cellTypes P.depth t=some [t]) (hu:P.underlying t=some (.int k)):∃ (m:Int) (cs:Array Value) (fz:Nat×Nat),w.heap[g]?=some (.cells cs t fz)∧cs.size=1∧cs[0]?=some (.int k m):=by
 obtain ⟨cs,hh,hs,hr⟩:=h.1 g zero t hg h0
 obtain ⟨ts,hts,_,hall⟩:=hr hb
 rw [hc] at hts
 cases hts
 have h1:0<cs.size:=by omega
 obtain ⟨u,hu',hok⟩:=hall 0 cs[0] (by simp [h1])
 have:u=t:=by simpa using hu'.symm
 subst this
 have hcell:cs[0]?=some cs[0]:=by simp [h1]
 unfold Cell.ok at hok
 rw [hu] at hok
 cases hv:cs[0] with
 | int k' n =>
  rw [hv] at hok
  have hk:k'=k:=by first | exact hok.1 | exact hok.1.symm | (simp at hok;exact hok.1) | (simp at hok;exact hok.1.symm)
  subst hk
  exact ⟨n,cs,_,hh,by omega,by rw [hcell,hv]⟩
 | _=>rw [hv] at hok; simp at hok
theorem glob_plus {P:Program} {G:Nat→Option (List Cell)} {W:World} {laid:List (String×DataW Unit)} {g0:Nat} {k:IntKind} {m:Int} {cs0:Array Value} {t0:TypeId} {fz0:Nat×Nat} (h:laidMet P laid W)
  (hw:W.heap[g0]?=some (.cells cs0 t0 fz0)) (hs:cs0.size=1) (hx:cs0[0]?=some (.int k m)) (h0:G g0=some [.int k m])
  (hG:∀ g cs,g≠g0→G g=some cs→∃ n d t,(n,d)∈laid∧P.globalNamed n=some g∧(P.globals[g]?).map (·.type)=some t∧dc P 9 t d=some cs):GlobOk G (Dw W)∧GlobW G W:=by
 obtain ⟨k1,k2⟩:=glob_ok (G:=fun g=>if g=g0 then none else G g) (laid:=laid) h (fun g cs hg=>by
  split at hg
  ·cases hg
  ·rename_i hne;exact hG g cs hne hg)
 refine ⟨fun g cs hg j x hj => ?_,fun g cs hg hne => ?_⟩
 ·by_cases e:g=g0
  ·subst e
   rw [h0] at hg
   obtain rfl:=Option.some.inj hg
   cases j with
   | zero =>
    simp at hj;subst hj
    exact ⟨.int k m,by simp only [Dw,World.cell?,hw,Option.isSome_none,Bool.false_eq_true,if_false];exact hx,rfl⟩
   | succ j=>simp at hj
  ·exact k1 g cs (by show (if g=g0 then none else G g)=some cs;rw [if_neg e];exact hg) j x hj
 ·by_cases e:g=g0
  ·subst e
   rw [h0] at hg
   obtain rfl:=Option.some.inj hg
   exact ⟨cs0,t0,fz0,hw,by rw [hs];rfl⟩
  ·exact k2 g cs (by show (if g=g0 then none else G g)=some cs;rw [if_neg e];exact hg) hne
end Go.Sv
end
section
namespace Go.Sv
section
variable {H:Type} {enc:TypeId×Value→H} {P:Program} {w:World} {base:Nat} {sp:Nat→Bool}
theorem trod_no_lit:∀ (fuel:Nat) (t:TypeId) (l:Lit) (p:List MemPlace),DataW.trod enc P w base sp false fuel t []≠some (.lit l,p):=by
 intro fuel t l p h
 cases fuel with
 | zero=>simp [DataW.trod] at h
 | succ n =>
  unfold DataW.trod at h
  cases hu:P.underlying t with
  | none=>rw [hu] at h; simp at h
  | some td =>
   rw [hu] at h
   cases td with
   | struct fs=>simp only at h; split at h<;>simp at h
   | array n e=>simp only at h; split at h<;>simp at h
   | _=>simp at h
theorem mapM_one {α β:Type} {f:α→Option β} {l:List α} {x:β} (h:l.mapM f=some [x]):∃ a,l=[a]∧f a=some x:=by
 cases l with
 | nil=>simp at h
 | cons a r =>
  cases r with
  | nil =>
   refine ⟨a,rfl,?_⟩
   simp only [List.mapM_cons,List.mapM_nil] at h
   cases ha:f a with
   | none=>simp [ha] at h
   | some y=>simp [ha] at h; rw [h]
  | cons b r =>
   simp only [List.mapM_cons] at h
   cases ha:f a with
   | none=>simp [ha] at h
   | some y =>
    cases hb:f b with
    | none=>simp [ha,hb] at h
    | some z =>
     cases hr:r.mapM f with
     | none=>simp [ha,hb,hr] at h
     | some q=>simp [ha,hb,hr] at h
theorem one_lit {α:Type} {l:List α} {f:α→Option (DataW H×List MemPlace)} {p:List MemPlace} {x:Lit} (h:(l.mapM f).map (fun xs=>((.agg (xs.map (·.1)):DataW H),xs.flatMap (·.2)))=some (.agg [.lit x],p)):∃ a q,f a=some (.lit x,q):=by
 simp only [Option.map_eq_some_iff,Prod.mk.injEq,DataW.agg.injEq] at h
 obtain ⟨xs,h1,h2,h3⟩:=h
 cases xs with
 | nil=>simp at h2
 | cons y r =>
  have hr:r=[]:=by cases r with
   | nil=>rfl
   | cons z r=>simp at h2
  subst hr
  obtain ⟨a,_,ha⟩:=mapM_one h1
  simp at h2
  obtain ⟨y1,y2⟩:=y
  simp only at h2
  subst h2
  exact ⟨a,y2,ha⟩
theorem trod_no_one (fuel:Nat) (t:TypeId) (l:Lit) (p:List MemPlace):DataW.trod enc P w base sp false fuel t []≠some (.agg [.lit l],p):=by
 intro h
 cases fuel with
 | zero=>simp [DataW.trod] at h
 | succ n =>
  unfold DataW.trod at h
  cases hu:P.underlying t with
  | none=>rw [hu] at h; simp at h
  | some td =>
   rw [hu] at h
   cases td with
   | struct fs =>
    simp only at h
    split at h
    ·obtain ⟨a,q,ha⟩:=one_lit h
     simp only [List.drop_nil,List.take_nil] at ha
     exact trod_no_lit _ _ _ _ ha
    ·cases h
   | array n e =>
    simp only at h
    split at h
    ·obtain ⟨a,q,ha⟩:=one_lit h
     simp only [List.drop_nil,List.take_nil] at ha
     exact trod_no_lit _ _ _ _ ha
    ·cases h
   | _=>simp at h
theorem trod_ptr {fuel:Nat} {t:TypeId} {cs:List Value} {l:Lit} {p:List MemPlace} (h:DataW.trod enc P w base sp false fuel t cs=some (.ptr (.agg [.lit l]),p)):∃ b o,cs=[.pointer (some ⟨b,o,none⟩)]:=by
 cases fuel with
 | zero=>simp [DataW.trod] at h
 | succ n =>
  unfold DataW.trod at h
  split at h
  case h_6 e a hu =>
   simp only [Option.map_eq_some_iff,Option.bind_eq_some_iff,Prod.mk.injEq] at h
   obtain ⟨x,⟨vs,h1,h2⟩,h3,h4⟩:=h
   have h3:x.1 = .agg [.lit l]:=by simpa using h3
   have hx:x=(.agg [.lit l],x.2):=by rw [← h3]
   rw [hx] at h2
   refine ⟨a.block,a.off,?_⟩
   cases vs with
   | nil=>exact absurd h2 (trod_no_one _ _ _ _)
   | cons v r =>
    unfold World.cells? at h1
    split at h1
    ·have hpos:0<P.cellsOf e:=by
      rcases Nat.eq_zero_or_pos (P.cellsOf e) with h0 | h0
      ·rw [h0] at h1;simp at h1
      ·exact h0
     obtain ⟨k,hk⟩:∃ k,P.cellsOf e=k+1:=⟨P.cellsOf e-1,by omega⟩
     rw [hk,List.range_succ_eq_map] at h1
     simp only [List.mapM_cons] at h1
     cases hc:w.cell? (a.add 0) with
     | none=>simp [hc] at h1
     | some u =>
      unfold World.cell? at hc
      split at hc
      ·split at hc
       ·cases hc
       ·rename_i hs
        obtain ⟨ab,ao,asp⟩:=a
        cases asp with
        | none=>rfl
        | some s=>simp [Addr.add] at hs
      ·cases hc
    ·cases h1
  case h_8 =>
   simp only at h
   split at h
   ·simp only [Option.map_eq_some_iff,Option.bind_eq_some_iff,Prod.mk.injEq] at h
    obtain ⟨_,_,_,_,h3,_⟩:=h
    cases h3
   ·cases h
  case h_14 =>
   split at h
   ·split at h
    ·simp only [Option.bind_eq_some_iff] at h
     obtain ⟨_,_,h⟩:=h
     split at h
     ·simp only [Option.some.injEq,Prod.mk.injEq] at h
      cases h.1
     ·cases h
    ·cases h
   ·cases h
  all_goals first
   | (simp at h; done)
   | (split at h<;>simp at h; done)
   | (simp only [Option.map_eq_some_iff,Option.bind_eq_some_iff,Prod.mk.injEq] at h; obtain ⟨x,_,h3,_⟩:=h; cases h3; done)
   | skip
end
theorem err_laid {P:Program} {W:World} {laid:List (String×DataW Unit)} {n name:String} {l:Lit} (h:laidMet P laid W) (hm:(n,.iface name (.ptr (.agg [.lit l])))∈laid) {g:Nat} {t:TypeId} {ms:Array (String×TypeId)}
  (hg:P.globalNamed n=some g) (ht:(P.globals[g]?).map (·.type)=some t) (hu:P.underlying t=some (.interface ms)) :
  ∃ (u:TypeId) (sh:Option Nat) (cs:Array Value) (e:TypeId) (fz:Nat×Nat),W.heap[g]?=some (.cells cs e fz)∧cs.size=1∧∃ v,cs[0]?=some v∧Den (Dw W) rho0 (.ifc u sh (fun _ => .dp 0 (fun _ => .nilif))) v:=by
 obtain ⟨ps,hl,_⟩:=h
 obtain ⟨g',t',arr,fuel,p,q1,q2,q3,q4⟩:=laid_get hl n _ hm
 rw [hg] at q1
 obtain rfl:=Option.some.inj q1
 rw [ht] at q2
 obtain rfl:=Option.some.inj q2
 simp only [World.var?,hg,Option.bind_some] at q3
 split at q3
 ·rename_i c e fz hc
  simp only [Option.some.injEq] at q3
  subst q3
  cases fuel with
  | zero=>simp [DataW.trod] at q4
  | succ fuel =>
   unfold DataW.trod at q4
   rw [hu] at q4
   split at q4
   all_goals try (rename_i h1 _;cases h1;done)
   all_goals try (rename_i h1;cases h1;done)
   all_goals try (simp at q4;done)
   all_goals try (rename_i hx;simp at hx;done)
   ·rename_i m2 u v hx1 hx2
    split at q4
    ·cases q4
    ·rename_i nm hb hn
     simp only [Option.map_eq_some_iff,Prod.mk.injEq,DataW.iface.injEq] at q4
     obtain ⟨x,h1,⟨_,h2⟩,_⟩:=q4
     have hx:x=(.ptr (.agg [.lit l]),x.2):=by rw [← h2]
     rw [hx] at h1
     obtain ⟨b,o,hv⟩:=trod_ptr h1
     have hc1:c.size=1:=by rw [← Array.length_toList,hx2];rfl
     have hc0:c[0]?=some (.iface u v):=by rw [← Array.getElem?_toList,hx2];rfl
     cases v with
     | agg us =>
      have hv:us.toList=[.pointer (some ⟨b,o,none⟩)]:=hv
      refine ⟨u,some 1,c,e,fz,hc,hc1,_,hc0,⟨_,rfl,us,rfl,by rw [← Array.length_toList,hv];rfl,fun j hj => ?_⟩⟩
      obtain rfl:j=0:=by omega
      exact ⟨_,by rw [← Array.getElem?_toList,hv];rfl,b,o,rfl,fun j hj=>absurd hj (Nat.not_lt_zero j)⟩
     | pointer a =>
      have hv:[Value.pointer a]=[.pointer (some ⟨b,o,none⟩)]:=hv
      obtain rfl:a=some ⟨b,o,none⟩:=by simpa using hv
      exact ⟨u,none,c,e,fz,hc,hc1,_,hc0,⟨_,rfl,b,o,rfl,fun j hj=>absurd hj (Nat.not_lt_zero j)⟩⟩
     | _=>first | (simp [Value.cells] at hv; done) | (exact absurd hv (by intro hh; cases hh))
    ·cases q4
 ·cases q3
theorem glob_two {G G2:Nat→Option (List Cell)} {W:World} {a b:Nat} {x y:Cell} (h1:GlobOk G (Dw W)) (h2:GlobW G W) (hG:∀ g cs,G2 g=some cs→(g=a∧cs=[x])∨(g=b∧cs=[y])∨G g=some cs)
  {ca cb:Array Value} {ea eb:TypeId} {fa fb:Nat×Nat} {va vb:Value} (ha:W.heap[a]?=some (.cells ca ea fa)) (ha1:ca.size=1) (hva:ca[0]?=some va) (hda:Den (Dw W) rho0 x va)
  (hb:W.heap[b]?=some (.cells cb eb fb)) (hb1:cb.size=1) (hvb:cb[0]?=some vb) (hdb:Den (Dw W) rho0 y vb):GlobOk G2 (Dw W)∧GlobW G2 W:=by
 refine ⟨fun g cs hg j z hj => ?_,fun g cs hg hne => ?_⟩
 ·rcases hG g cs hg with ⟨rfl,rfl⟩ | ⟨rfl,rfl⟩ | h
  ·cases j with
   | zero =>
    simp at hj;subst hj
    exact ⟨va,by simp only [Dw,World.cell?,ha,Option.isSome_none,Bool.false_eq_true,if_false];exact hva,hda⟩
   | succ j=>simp at hj
  ·cases j with
   | zero =>
    simp at hj;subst hj
    exact ⟨vb,by simp only [Dw,World.cell?,hb,Option.isSome_none,Bool.false_eq_true,if_false];exact hvb,hdb⟩
   | succ j=>simp at hj
  ·exact h1 g cs h j z hj
 ·rcases hG g cs hg with ⟨rfl,rfl⟩ | ⟨rfl,rfl⟩ | h
  ·exact ⟨ca,ea,fa,ha,by rw [ha1];rfl⟩
  ·exact ⟨cb,eb,fb,hb,by rw [hb1];rfl⟩
  ·exact h2 g cs h hne
end Go.Sv
end
section
namespace Go.Sv
def rowL (f:Nat→Cell):Nat→Nat→List Cell
 | _,0=>[]
 | j,n+1=>f j::rowL f (j+1) n
def tabL (f:Nat→Nat→Cell) (sz:Nat):Nat→Nat→List Cell
 | _,0=>[]
 | i,n+1=>appC (rowL (f i) 0 sz) (tabL f sz (i+1) n)
where appC:List Cell→List Cell→List Cell
 | [],r=>r
 | x::l,r=>x::appC l r
theorem appC_eq (l r:List Cell):tabL.appC l r=l++r:=by
 induction l with
 | nil=>rfl
 | cons x l ih=>simp [tabL.appC,ih]
theorem rowL_len (f:Nat→Cell):∀ (n j:Nat),(rowL f j n).length=n
 | 0,_=>rfl
 | n+1,j=>by simp [rowL,rowL_len f n]
theorem rowL_get (f:Nat→Cell):∀ (n j k:Nat),k<n→nthD (rowL f j n) k=f (j+k)
 | n+1,j,0,_=>rfl
 | n+1,j,k+1,h=>by
  show nthD (rowL f (j+1) n) k=_
  rw [rowL_get f n (j+1) k oM,show j+1+k=j+(k+1) by omega]
theorem tabL_get (f:Nat→Nat→Cell) (sz:Nat):∀ (n i a j:Nat),a<n→j<sz→nthD (tabL f sz i n) (a*sz+j)=f (i+a) j
 | n+1,i,0,j,_,hj=>by
  rw [Nat.zero_mul,Nat.zero_add,tabL,appC_eq,nthD_app_lt (by rw [rowL_len];exact hj),rowL_get _ _ _ _ hj,Nat.zero_add,Nat.add_zero]
 | n+1,i,a+1,j,ha,hj=>by
  have e:(a+1)*sz+j=sz+(a*sz+j):=by rw [Nat.succ_mul];omega
  rw [tabL,appC_eq,nthD_app_ge (by rw [rowL_len,e];omega),rowL_len,e,Nat.add_sub_cancel_left,tabL_get f sz n (i+1) a j oM hj,show i+1+a=i+(a+1) by omega]
theorem lit_D {sz n n':Nat} {l:List Cell} {f:Nat→Nat→Cell} (h:(tabL f sz 0 n,n)=(l,n')):EqvD (.c (.sl sz n (fun i j=>nthD l (i*sz+j)))) (.c (.sl sz n' f)):=by
 obtain ⟨h1,rfl⟩:=Prod.mk.inj h
 subst h1
 exact EqvD.sl rfl fun i hi j hj=>by rw [tabL_get f sz n 0 i j hi hj,Nat.zero_add]
theorem nilsl_D {sz:Nat} {f:Nat→Nat→Cell}:EqvD (.c .nilsl) (.c (.sl sz 0 f)):=fun D ρ u h=>⟨none,0,h,Nat.le_refl _,Nat.zero_le _,.inl rfl⟩
theorem agg_D {a b:List Cell} {x y:Cell} (h:EqvD (.c x) (.c y)):EqvD (.agg (a++x::b)) (.agg (a++y::b)):=by
 rintro D ρ u ⟨us,e,hs,hd⟩
 refine ⟨us,e,by rw [hs];simp,fun j z hj => ?_⟩
 rcases Nat.lt_trichotomy j a.length with h1 | h1 | h1
 ·refine hd j z ?_
  rw [List.getElem?_append_left h1] at hj ⊢
  exact hj
 ·subst h1
  rw [List.getElem?_append_right (Nat.le_refl _),Nat.sub_self] at hj
  simp only [List.getElem?_cons_zero,Option.some.injEq] at hj
  subst hj
  obtain ⟨w,hw,hx⟩:=hd a.length x (by rw [List.getElem?_append_right (Nat.le_refl _),Nat.sub_self];rfl)
  exact ⟨w,hw,h D ρ w hx⟩
 ·refine hd j z ?_
  rw [List.getElem?_append_right oM] at hj ⊢
  obtain ⟨k,hk⟩:∃ k,j-a.length=k+1:=⟨j-a.length-1,by omega⟩
  rw [hk] at hj ⊢
  exact hj
end Go.Sv
end
