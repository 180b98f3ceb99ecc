/- Own texts for this claim: SvNext, Buf, Text, Val, May, Quo. -/
import Derived.Test.YtgnhhialddlknaaGreatDoorGuardApartCardP3
import Derived.Maps.RangeRun
import Derived.KernelRfl
import Derived.Test.YtgnhhialddlknaaGreatDoorProg
set_option linter.all false
section
namespace Go.Sv
open M
structure NxI where
 ops:Array Oper
 r:List Oper
 d:Nat
 iid:Nat
 n:Nat
 seen:List Nat
 m:List (List UInt8×V1)
 k:List KI
 mid:Nat
 mv:Bool
def nxInfo (N:Nat) (k:List KI) (st:St):Option NxI:=match k with
 | .code (.region _ ops false)::k=>match ops.toList,opsOk N ops.toList with
  | o::r,true=>match o.guard,o.dst,o.op with
   | none,some d,.next (.tmp t) false=>match look st.tm t with
    | some (.v (.c (.ptr iid 0)))=>match look st.hp iid with
     | some (.ob (.mi mid n seen))=>match look st.hp mid with
      | some (.ob (.ms m))=>some ⟨ops,r,d,iid,n,seen,m,k,mid,bNat (Nat.beq iid mid)⟩
      | _=>none
     | _=>none
    | _=>none
   | _,_,_=>none
  | _,_=>none
 | _=>none
where bNat:Bool→Bool
 | true=>false
 | false=>true
def nxOk (o:Option NxI):Bool:=match o with
 | some I=>I.mv
 | none=>false
def nxM (o:Option NxI):List (List UInt8×V1):=match o with
 | some I=>I.m
 | none=>[]
def nxS (o:Option NxI):List Nat:=match o with
 | some I=>I.seen
 | none=>[]
def nxN (o:Option NxI):Nat:=match o with
 | some I=>I.n
 | none=>0
def nxK (o:Option NxI):List KI:=match o with
 | some I=>I.k
 | none=>[]
def nxSt (I:NxI) (st:St) (j:Nat) (key:List UInt8) (v:V1):St :=
 (st.set (.bk I.iid) (.bk (.ob (.mi I.mid I.n (j::I.seen))))).set (.tm I.d) (.tv (.tup [.c (.bool true),.c (.str key),v]))
def nxSt0 (I:NxI) (st:St):St:=st.set (.tm I.d) (.tv (.tup [.c (.bool false)]))
def nxRun (P:Program) (G:Nat→Option (List Cell)) (N base:Nat) (o:Option NxI) (f:NxI→St):Option Out:=match o with
 | some I=>runOps (envOf P N I.ops.toList ({}:Ann P G)) [] base 1 I.r (f I)
 | none=>none
def nxOut (o:Option Out) (I:Option NxI) (base:Nat):St:=match I with
 | some I=>outSt o I.ops base
 | none=>⟨[],[],0⟩
def noE (o:Option Out):Bool:=match o with
 | some o=>no1 o.vc
 | none=>false
where no1:List Prop→Bool
 | []=>true
 | _=>false
theorem bNat_eq {b:Bool} (h:nxInfo.bNat b=true):b=false:=by cases b<;>simp_all [nxInfo.bNat]
theorem born_nodup {D:Dat} {m:List (List UInt8×V1)} {es:List MapEntry} (he:EsOk D m es 0):∀ e∈es,∃ j key v,m[j]?=some (key,v)∧e.key = .string ⟨key.toArray⟩∧FlatV D v e.val∧e.born=j∧j<m.length:=by
 intro e hm
 obtain ⟨j,hj,rfl⟩:=List.getElem_of_mem hm
 have hlt:j<m.length:=by rw [← he.1];exact hj
 have hmj:m[j]?=some ((m[j]).1,(m[j]).2):=by rw [List.getElem?_eq_getElem hlt]
 obtain ⟨en,q1,q2,q3,q4⟩:=he.2 j _ _ hmj
 rw [List.getElem?_eq_getElem hj] at q1
 simp only [Option.some.injEq] at q1
 subst q1
 exact ⟨j,_,_,hmj,q2,q3,by omega,hlt⟩
section
variable {P:Program} {G:Nat→Option (List Cell)} {N kn:Nat} {k:List KI} {Q:St→Prop} {st st':St}
theorem Wp.nextM (hI:nxOk (nxInfo N k st)=true) (hn:nxN (nxInfo N k st)=(nxM (nxInfo N k st)).length)
  (step:∀ j key v,(nxM (nxInfo N k st))[j]?=some (key,v)→j∉nxS (nxInfo N k st) →
   ∃ o,nxRun P G N st.nx (nxInfo N k st) (fun I=>nxSt I st j key v)=o∧noE o=true∧outE o=outF o∧Wp P G N kn (nxK (nxInfo N k st)) Q (nxOut o (nxInfo N k st) st.nx))
  (over:(∀ j,j<(nxM (nxInfo N k st)).length→j∈nxS (nxInfo N k st)) →
   ∃ o,nxRun P G N st.nx (nxInfo N k st) (fun I=>nxSt0 I st)=o∧noE o=true∧outE o=outF o∧Wp P G N kn (nxK (nxInfo N k st)) Q (nxOut o (nxInfo N k st) st.nx)) :
  Wp P G N kn k Q st:=by
 generalize hII:nxInfo N k st=I0 at hI hn step over
 cases I0 with
 | none=>simp [nxOk] at hI
 | some I =>
 have hmv:I.mv=true:=hI
 simp only [nxN,nxM,nxS,nxK] at hn step over
 unfold nxInfo at hII
 split at hII<;>try (cases hII)
 rename_i id ops k
 split at hII<;>try (cases hII)
 rename_i o r hops hok
 split at hII<;>try (cases hII)
 rename_i d t hg hdst hop
 split at hII<;>try (cases hII)
 rename_i iid hlt
 split at hII<;>try (cases hII)
 rename_i mid n seen hli
 split at hII<;>try (cases hII)
 rename_i m hlm
 have hne:iid≠mid:=(beq_ne _ _).1 (bNat_eq hmv)
 intro Γ h1 h2 h3 h4 a w hs
 subst h1 h2 h3
 simp only at step over hn
 refine wp_region ?_
 rw [List.range_eq_range',← Array.length_toList,hops]
 have hall:=hok
 obtain ⟨ok1,ok23⟩:=bAnd_eq hok
 obtain ⟨ok2,ok3⟩:=bAnd_eq ok23
 rw [hops] at ok1 ok2
 obtain ⟨D,ρ,h⟩:=hs
 obtain ⟨u,hu,hd⟩:=h.tm t _ hlt
 have hx:a.eval (.tmp t) = .pointer (some ⟨(ρ iid).1,0,none⟩):=by rw [tmps_getD hu];exact hd
 obtain ⟨h0,oi,hbo,ho⟩:=h.hp iid _ hli
 have ho:oi = .mapIter (some (ρ mid).1) n seen.reverse.toArray n:=ho
 subst ho
 obtain ⟨hm0,es,hbm,he⟩:=map_obj h hlm
 have hsz:es.toList.length=m.length:=he.1
 have hsz':es.size=m.length:=by rw [← hsz];simp
 have hdN:d<Γ.N:=by
  have:=allLt_lt ok2 d (by simp [dstL,hdst])
  exact this
 have hops0:ops[0]?=some o:=by
  have:ops.toList[0]?=some o:=by rw [hops];rfl
  simpa using this
 have hdr:ops.toList.drop (0+1)=r:=by rw [hops];rfl
 have hold:∀ x∈es.toList,x.born<n:=by
  intro x hx
  obtain ⟨j,_,_,_,_,_,hb,hj⟩:=born_nodup he x hx
  rw [hb,hn];exact hj
 have fin:∀ (v:Value) (w':World) (s1:St) (oo:Option Out),(Instr.next (a.eval (.tmp t)) false o.type).run Γ.P w = .ok v w' →
   Sat Γ (fun id=>id<st.nx) (fun x=>x=d) D ρ s1 (a.put (some d) v) w' →
   runOps (envOf Γ.P Γ.N ops.toList ({}:Ann Γ.P Γ.G)) [] st.nx 1 r s1=oo→noE oo=true→outE oo=outF oo→Wp Γ.P Γ.G Γ.N kn k Q (outSt oo ops st.nx) →
   wpOps Γ.P ops (fun e a' w'=>∃ st',post Γ k Q e st'∧Sat0 Γ st' a' w') (List.range' 0 (o::r).length) a w:=by
  intro v w' s1 oo hrun hsat hro hnoe hef hwp
  cases oo with
  | none=>simp [noE] at hnoe
  | some out =>
   simp only [List.length_cons,List.range'_succ]
   have hw:Region.wanted o (yielded ops a.tmps)=true:=by simp [Region.wanted,hg]
   simp only [wpOps,hops0,hw,if_true]
   left
   unfold Oper.wp
   have hex:(execOp a.eval o).run Γ.P w = .ok (.value v) w':=by
    unfold execOp
    rw [hop]
    simp only [Sem.run_bind,hrun,Result.andThen_ok,Sem.run_pure]
   rw [hex]
   simp only [Oper.upon_value]
   rw [hdst]
   simp only [outE,outF,Prod.mk.injEq] at hef
   refine run_text (Γ:=Γ) (E:=envOf Γ.P Γ.N ops.toList ({}:Ann Γ.P Γ.G)) rfl rfl (cs:=[]) rfl hall (base:=st.nx) r (0+1) s1 _ w' out hdr hro ?_ hef.1 hef.2 ⟨D,ρ,?_⟩ ?_
   ·intro p hp
    cases hv:out.vc with
    | nil=>rw [hv] at hp; cases hp
    | cons q l=>simp [noE,noE.no1,hv] at hnoe
   ·refine hsat.mono (fun id h => ?_) (fun x hx => ?_)
    ·unfold sSet;omega
    ·subst hx
     exact ⟨0,by omega,o,by rw [hops];rfl,hdst⟩
   ·intro a' w'' h
    refine ⟨_,hwp Γ rfl rfl rfl h4,?_⟩
    simp only [outSt,len_eq]
    refine SatE.done (fun id h => ?_) h
    unfold sSet at h
    have:(0+1)+r.length=ops.toList.length:=by rw [hops];simp;omega
    rw [this] at h;exact h
 rcases run_next_at (P:=Γ.P) w o.type (ρ iid).1 (ρ mid).1 n n seen.reverse.toArray es es.size hbo hbm hold (Nat.le_refl _) with ⟨hl0,hrun⟩ | ⟨e,hmem,w1,hw1,hrun⟩
 ·
  have hallseen:∀ j,j<m.length→j∈seen:=by
   intro j hj
   have hmj:m[j]?=some ((m[j]).1,(m[j]).2):=by rw [List.getElem?_eq_getElem hj]
   obtain ⟨en,q1,q2,q3,q4⟩:=he.2 j _ _ hmj
   have hin:en∈es.toList:=List.mem_of_getElem? q1
   have hse:=all_seen es seen.reverse.toArray hl0 en hin
   have:en.born=j:=by omega
   rw [this] at hse
   simpa using hse
  obtain ⟨oo,p1,p2,p3,p4⟩:=over hallseen
  refine fin _ _ _ oo (by rw [hx];exact hrun) ?_ p1 p2 p3 p4
  refine h.put (W':=fun x=>x=d) hdN (fun hh=>hh) (fun t ht=>ht.elim) (v := .tup [.c (.bool false)]) ⟨_,rfl,rfl,fun j x hj => ?_⟩ (fun j x hj => ?_)
  ·match j,hj with
   | 0,hj=>simp at hj; subst hj; exact ⟨_,rfl,rfl⟩
   | j+1,hj=>simp at hj
  ·match j,hj with
   | 0,hj=>simp at hj; subst hj; trivial
   | j+1,hj=>simp at hj
 ·obtain ⟨hem,hes⟩:=mem_left hmem
  obtain ⟨j,key,v,hmj,q2,q3,q4,hjl⟩:=born_nodup he e hem
  have hns:j∉seen:=by
   intro hh
   have:seen.reverse.toArray.contains e.born=true:=by simp [q4,hh]
   rw [this] at hes;cases hes
  obtain ⟨oo,p1,p2,p3,p4⟩:=step j key v hmj hns
  have hs1:Sat Γ (fun id=>id<st.nx) (fun _=>False) D ρ st a w1:=by
   rcases hw1 with rfl | rfl
   ·exact h
   ·exact h.drew
  have hbo1:w1.heap[(ρ iid).1]?=some (.mapIter (some (ρ mid).1) n seen.reverse.toArray n):=by
   rcases hw1 with rfl | rfl
   ·exact hbo
   ·exact hbo
  have hone:=(setObj_run (P:=Γ.P) hbo1 trivial (o' := .mapIter (some (ρ mid).1) n (seen.reverse.toArray.push e.born) es.size))
  have hid:=h.idH iid _ hli
  have hup:=hs1.upd hli h0 hone.2 (b' := .ob (.mi mid n (j::seen))) ⟨h0,_,hone.2.at_,by
   show Obj.mapIter _ _ _ _=Obj.mapIter _ _ _ _
   rw [q4]
   congr 1
   ·simp
   ·omega⟩ hid.2
  refine fin _ _ _ oo (by rw [hx];exact hrun) ?_ p1 p2 p3 p4
  refine hup.put (W':=fun x=>x=d) hdN (fun hh=>hh) (fun t ht=>ht.elim) (v := .tup [.c (.bool true),.c (.str key),v]) ⟨_,rfl,rfl,fun i x hi => ?_⟩ (fun i x hi => ?_)
  ·match i,hi with
   | 0,hi=>simp at hi; subst hi; exact ⟨_,rfl,rfl⟩
   | 1,hi=>simp at hi; subst hi; exact ⟨_,rfl,q2⟩
   | 2,hi=>simp at hi; subst hi; exact ⟨_,rfl,q3.1 ρ⟩
   | i+3,hi=>simp at hi
  ·match i,hi with
   | 0,hi=>simp at hi; subst hi; trivial
   | 1,hi=>simp at hi; subst hi; trivial
   | 2,hi=>simp at hi; subst hi; exact q3.2 _
   | i+3,hi=>simp at hi
def Nx (P:Program) (G:Nat→Option (List Cell)) (N kn:Nat) (k:List KI) (Q:St→Prop) (st:St) (f:NxI→St):Prop :=
 ∃ o,nxRun P G N st.nx (nxInfo N k st) f=o∧noE o=true∧outE o=outF o∧Wp P G N kn (nxK (nxInfo N k st)) Q (nxOut o (nxInfo N k st) st.nx)
theorem Nx.mk {f:NxI→St} (h1:noE (nxRun P G N st.nx (nxInfo N k st) f)=true) (h2:outE (nxRun P G N st.nx (nxInfo N k st) f)=outF (nxRun P G N st.nx (nxInfo N k st) f))
  (h3:Wp P G N kn (nxK (nxInfo N k st)) Q (nxOut (nxRun P G N st.nx (nxInfo N k st) f) (nxInfo N k st) st.nx)):Nx P G N kn k Q st f:=⟨_,rfl,h1,h2,h3⟩
theorem Wp.nextK (m:List (List UInt8×V1)) (seen:List Nat) (hI:nxOk (nxInfo N k st)=true) (hm:nxM (nxInfo N k st)=m) (hs:nxS (nxInfo N k st)=seen) (hn:nxN (nxInfo N k st)=m.length)
  (step:∀ j key v,m[j]?=some (key,v)→j∉seen→Nx P G N kn k Q st (fun I=>nxSt I st j key v))
  (over:(∀ j,j<m.length→j∈seen)→Nx P G N kn k Q st (fun I=>nxSt0 I st)):Wp P G N kn k Q st:=by
 subst hm hs
 exact Wp.nextM hI hn step over
theorem seen_more {n j:Nat} {seen:List Nat} (hd:seen.Nodup) (hl:∀ x∈seen,x<n) (hj:j<n) (hns:j∉seen):(j::seen).Nodup∧(∀ x∈j::seen,x<n)∧n-(j::seen).length<n-seen.length:=by
 have h1:(j::seen).Nodup:=List.nodup_cons.2 ⟨hns,hd⟩
 have h2:∀ x∈j::seen,x<n:=fun x hx=>by
  rcases List.mem_cons.1 hx with rfl | h
  ·exact hj
  ·exact hl x h
 have h3:=nodup_le h1 h2
 refine ⟨h1,h2,?_⟩
 simp only [List.length_cons] at h3 ⊢
 omega
end
end Go.Sv
end
section
open Go Go.Sv
namespace Go.Proofs.Tw
attribute [local irreducible] Wp FinQ resV Ent Pur Go.Sv.Fn Sat0
set_option maxRecDepth 100000
theorem mixed:Tryz.prog.follows .mixedOrders=true:=by kernel_rfl
variable {G:Nat→Option (List Cell)}
theorem cc_a:FnB Tryz.prog G 240 [.box 224 [.nilptr,.nilsl]] [.c (.ptr 0 0)] [] [(0,.box 224 [.ptr 0 0,.nilsl])]:=by
 refine zf Tryz.func240 ?_
 refine zg [] [true] [true=true] rfl ?_
 exact zb []
theorem cc_b (n:Nat) (l:List UInt8):FnB Tryz.prog G 240 [.box 224 [.ptr 0 0,.row 1 1 0 n],.row 5 1 n (bytesF l)] [.c (.ptr 0 0)] [] [(0,.box 224 [.ptr 0 0,.row 1 1 0 n]),(1,.row 5 1 n (bytesF l))]:=by
 refine zf Tryz.func240 ?_
 refine zg [] [false,false] [false=false,false=false] ⟨rfl,rfl⟩ ?_
 exact zb []
theorem wb_a (c:UInt8):FnB Tryz.prog G 196 [.box 224 [.nilptr,.nilsl]] [.c (.ptr 0 0),.c (.int .u8 (c.toNat:Int))] [.c .nilif] [(0,.box 224 [.ptr 0 0,.row 1 1 0 1]),(1,.row 5 1 1 (bytesF [c]))]:=by
 refine zf Tryz.func196 ?_
 refine zg [(1,{cs:=[(1,cb [0] cc_a)]}),(2,{bs:=[(7,.row 5 1 1 (bytesF [c]))]})] [] [1*1≤140737488355328,BlkEqv (.row 5 1 1 (catF 0 (fun _ _ => .nilif) (fun i j=>nthD [.int .u8 (c.toNat:Int)] ((0+i)*1+j)))) (.row 5 1 1 (bytesF [c])),1≤1] ⟨by decide,?_,Nat.le_refl _⟩ ?_
 ·refine BlkEqv.row_ext rfl fun i hi j hj => ?_
  obtain ⟨rfl,rfl⟩:i=0∧j=0:=by omega
  rfl
 exact zb [161]
theorem wb_b (n:Nat) (l:List UInt8) (hn:n=l.length) (hm:n+1≤140737488355328) (c:UInt8):FnB Tryz.prog G 196 [.box 224 [.ptr 0 0,.row 1 1 0 n],.row 5 1 n (bytesF l)] [.c (.ptr 0 0),.c (.int .u8 (c.toNat:Int))] [.c .nilif]
  [(0,.box 224 [.ptr 0 0,.row 1 2 0 (n+1)]),(2,.row 5 1 (n+1) (bytesF (l++[c])))]:=by
 refine zf Tryz.func196 ?_
 refine zg [(1,{cs:=[(1,cb [0,1] (cc_b n l))]}),(2,{bs:=[(7,.row 5 1 (n+1) (bytesF (l++[c])))]})] [] [(n+1)*1≤140737488355328,BlkEqv (.row 5 1 (n+1) (catF n (bytesF l) (fun i j=>nthD [.int .u8 (c.toNat:Int)] ((0+i)*1+j)))) (.row 5 1 (n+1) (bytesF (l++[c]))),n≤n,1≤1] ⟨by omega,?_,Nat.le_refl _,Nat.le_refl _⟩ ?_
 ·refine BlkEqv.row_ext rfl fun i hi j hj => ?_
  rw [← catF_bytes l [c] hn]
  unfold catF
  split
  ·rfl
  ·obtain ⟨h1,rfl⟩:i=n∧j=0:=by omega
   subst h1
   rw [Nat.sub_self];rfl
 exact zb [162]
theorem ws_b (n:Nat) (l:List UInt8) (hn:n=l.length) (s:List UInt8) (hm:n+s.length≤140737488355328):FnB Tryz.prog G 255 [.box 224 [.ptr 0 0,.row 1 1 0 n],.row 5 1 n (bytesF l)] [.c (.ptr 0 0),.c (.str s)] [.c (.int .i64 s.length),.c .nilif]
  [(0,.box 224 [.ptr 0 0,.row 1 2 0 (n+s.length)]),(2,.row 5 1 (n+s.length) (bytesF (l++s)))]:=by
 refine zf Tryz.func255 ?_
 refine zg [(1,{cs:=[(1,cb [0,1] (cc_b n l))]}),(2,{bs:=[(6,.row 5 1 (n+s.length) (bytesF (l++s)))]})] [] [(n+s.length)*1≤140737488355328,BlkEqv (.row 5 1 (n+s.length) (catF n (bytesF l) (bytesF s))) (.row 5 1 (n+s.length) (bytesF (l++s))),n≤n] ⟨by omega,?_,Nat.le_refl _⟩ ?_
 ·exact BlkEqv.row_ext rfl fun i hi j hj=>catF_bytes l s hn i j
 exact zb [162]
theorem str_b (n:Nat) (l:List UInt8) (hn:n=l.length) (h0:0<n) (hm:n≤140737488355328):FnB Tryz.prog G 197 [.box 224 [.ptr 0 0,.row 1 1 0 n],.row 5 1 n (bytesF l)] [.c (.ptr 0 0)] [.c (.str l)]
  []:=by
 refine zf Tryz.func197 ?_
 refine zg [(1,{fm:=[(10,.c (.str l))]})] [] [0<n,(0:Int)<(n:Int),n≤n,(n:Int)≤9223372036854775807,areBytes (bytesF l) 0 n,EqvI (.c (.str (byteL (bytesF l) 0 n))) (.c (.str l)),EqvD (.c (.str (byteL (bytesF l) 0 n))) (.c (.str l))] ⟨h0,by omega,Nat.le_refl _,by omega,areBytes_F _ _ _,by rw [byteL_F l hn];exact fun _ h=>h,by rw [byteL_F l hn];exact fun _ _ _ h=>h⟩ ?_
 exact zb []
end Go.Proofs.Tw
end
section
open Go Go.Sv
namespace Go.Proofs.Tw
attribute [local irreducible] Wp FinQ resV Ent Pur Go.Sv.Fn Sat0
set_option maxRecDepth 100000
variable {G:Nat→Option (List Cell)}
theorem width_pos (s:ByteArray) (pos:Nat):1≤(Utf8.decode s pos).2:=by
 unfold Utf8.decode
 simp only
 repeat' split
 all_goals (show 1≤_;simp)
theorem runeW_pos (s:List UInt8) (pos:Nat):1≤runeW s pos:=width_pos _ _
def validN (s:List UInt8):Nat→Nat→Bool
 | 0,_=>true
 | n+1,pos=>if pos<s.length then (if runeAt s pos==65533 then false else validN s n (pos+runeW s pos)) else true
def validT (s:List UInt8):Bool:=validN s s.length 0
theorem valid_ok (s:List UInt8):Pur Tryz.prog G 232 [.c (.str s)] [.c (.bool (validT s))]:=by
 refine zp Tryz.func232 ?_
 refine z0 [] [] ?_
 refine zl (fun (x:Nat×Nat)=>⟨[(6,.v (.c (.ptr 0 0)))],[(0,.ob (.it s x.1))],16⟩) (fun x=>validT s=validN s x.2 x.1∧s.length-x.1≤x.2) (fun x=>x.2) (0,s.length) ⟨rfl,Nat.le_refl _⟩ ?_ [(0,32)]
 rintro ⟨pos,n⟩ L ⟨h1,h2⟩ again
 by_cases hp:pos<s.length
 ·obtain ⟨n,rfl⟩:∃ m,n=m+1:=⟨n-1,by simp only at h2;omega⟩
  have hw:=runeW_pos s pos
  simp only [validN,if_pos hp] at h1
  refine zg [(2,{grd:=[(0,true)]})] [true] [pos<s.length,true=true] ⟨hp,rfl⟩ ?_
  refine zc (runeAt s pos==65533) (fun h => ?_) (fun h => ?_)
  ·refine z0 [] [] ?_
   exact zS [.c (.bool false)] (by rw [h1,if_pos h])
  ·refine z0 [] [] ?_
   exact za [(0,0)] (again _ (pos+runeW s pos,n) ⟨by rw [h1,if_neg (by simp [h])],by simp only at h2 ⊢;omega⟩ (by simp only;omega))
 ·refine zg [(2,{grd:=[(0,false)]})] [false] [s.length≤pos,false=false] ⟨by omega,rfl⟩ ?_
  exact zS [.c (.bool true)] (by rw [h1];cases n<;>simp [validN,hp])
end Go.Proofs.Tw
end
section
open Go Go.Sv
namespace Go.Proofs.Tw
attribute [local irreducible] Wp FinQ resV Ent Pur Go.Sv.Fn Sat0
set_option maxRecDepth 100000
variable {G:Nat→Option (List Cell)}
inductive JV
 | mk (kind:Int) (b:Bool) (n:Int) (s:List UInt8) (names:List (List UInt8)) (kids:List JV)
def JV.kind:JV→Int | .mk k _ _ _ _ _=>k
def JV.b:JV→Bool | .mk _ b _ _ _ _=>b
def JV.n:JV→Int | .mk _ _ n _ _ _=>n
def JV.s:JV→List UInt8 | .mk _ _ _ s _ _=>s
def JV.names:JV→List (List UInt8) | .mk _ _ _ _ ns _=>ns
def JV.kids:JV→List JV | .mk _ _ _ _ _ ks=>ks
def JV.nil:JV := .mk 0 false 0 [] [] []
def encS (l:List (List UInt8)):Cell := .sl 1 l.length (fun i j=>nthD [.str (l.getD i [])] j)
mutual
def cellsJ:JV→List Cell
 | .mk k b n s ns ks=>[.int .i64 k,.bool b,.int .i64 n,.str s,encS ns,.sl 6 ks.length (fun i j=>nthD (cellsL ks i) j)]
def cellsL:List JV→Nat→List Cell
 | [],_=>[]
 | x::_,0=>cellsJ x
 | _::r,i+1=>cellsL r i
end
def kidC (ks:List JV) (i j:Nat):Cell:=nthD (cellsL ks i) j
def encJ (v:JV):List Cell:=[.int .i64 v.kind,.bool v.b,.int .i64 v.n,.str v.s,encS v.names,.sl 6 v.kids.length (kidC v.kids)]
theorem cellsJ_eq (v:JV):cellsJ v=encJ v:=by cases v;rw [cellsJ];rfl
theorem cellsL_eq:∀ (ks:List JV) (i:Nat),i<ks.length→cellsL ks i=encJ (ks.getD i .nil)
 | [],i,h=>by simp at h
 | x::r,0,h=>by rw [cellsL,cellsJ_eq]; rfl
 | x::r,i+1,h=>by rw [cellsL,cellsL_eq r i (by simpa using h)]; rfl
theorem kid_eq {ks:List JV} {i:Nat} (hi:i<ks.length):[kidC ks i 0,kidC ks i 1,kidC ks i 2,kidC ks i 3,kidC ks i 4,kidC ks i 5]=encJ (ks.getD i .nil):=by
 simp only [kidC,cellsL_eq ks i hi];rfl
theorem kid_den {ks:List JV} {i:Nat} (hi:i<ks.length):EqvD (.agg [kidC ks i 0,kidC ks i 1,kidC ks i 2,kidC ks i 3,kidC ks i 4,kidC ks i 5]) (.agg (encJ (ks.getD i .nil))):=by
 rw [kid_eq hi];exact fun _ _ _ h=>h
def okAt (l:List (List UInt8)) (i:Nat):Bool := !((l.take i).contains (l.getD i []))&&validT (l.getD i [])
def namesOk (l:List (List UInt8)):Bool:=(List.range l.length).all (okAt l)
def seenM (l:List (List UInt8)) (k:Nat):List (List UInt8×V1):=(l.take k).map fun s=>(s,.c (.bool true))
theorem seen_get (l:List (List UInt8)) (k:Nat) (s:List UInt8):mget (seenM l k) s (.c (.bool false)) = .c (.bool ((l.take k).contains s)):=by
 unfold seenM
 induction l.take k with
 | nil=>rfl
 | cons x r ih =>
  simp only [List.map_cons,mget,List.contains_cons]
  cases hb:s==x with
  | true=>simp
  | false=>simpa using ih
theorem seen_set (l:List (List UInt8)) (k:Nat) (hk:k<l.length) (h:(l.take k).contains (l.getD k [])=false):mset (seenM l k) (l.getD k []) (.c (.bool true))=seenM l (k+1):=by
 have e:l.take (k+1)=l.take k++[l.getD k []]:=by
  rw [List.take_succ];simp [List.getD,hk]
 unfold seenM
 rw [e,List.map_append]
 revert h
 generalize l.take k=m
 induction m with
 | nil=>intro _; rfl
 | cons x r ih =>
  intro h
  simp only [List.contains_cons,Bool.or_eq_false_iff] at h
  simp only [List.map_cons,mset,h.1,List.cons_append,Bool.false_eq_true,if_false,ih h.2]
theorem all_range_false {n:Nat} {p:Nat→Bool} {k:Nat} (hk:k<n) (h:p k=false):(List.range n).all p=false:=by
 rw [List.all_eq_false];exact ⟨k,by simpa using hk,by simp [h]⟩
theorem all_range_true {n:Nat} {p:Nat→Bool} (h:∀ i,i<n→p i=true):(List.range n).all p=true:=by
 rw [List.all_eq_true];exact fun x hx=>h x (by simpa using hx)
def namedInv (v:JV) (k:Nat):St:=⟨[(1,.v (.c (.ptr 0 0))),(3,.v (.c (.map 1))),(8,.v (.c (encS v.names))),(9,.v (.c (.int .i64 (v.names.length:Int)))),(10,.v (.c (.int .i64 (k:Int))))],[(0,.box 53 (encJ v)),(1,.ob (.ms (seenM v.names k)))],32⟩
theorem named_ok (v:JV) (hl:v.names.length<4611686018427387904):Pur Tryz.prog G 290 [.agg (encJ v)] [.c (.bool (namesOk v.names&&(v.names.length:Int)==(v.kids.length:Int)))]:=by
 refine zp Tryz.func290 ?_
 refine z0 [] [] ?_
 refine zl (namedInv v) (fun k=>k≤v.names.length∧∀ i,i<k→okAt v.names i=true) (fun k=>v.names.length-k) 0 ⟨Nat.zero_le _,fun i hi=>absurd hi (Nat.not_lt_zero i)⟩ ?_ [(0,0),(1,32)]
 rintro k L ⟨hk,hall⟩ again
 refine z0 [] [] ?_
 refine zc (decide ((k:Int)<(v.names.length:Int))) (fun h => ?_) (fun h => ?_)
 ·have hk':k<v.names.length:=by simpa using h
  have hin:0≤(k:Int)∧(k:Int)<(v.names.length:Int):=by omega
  have hg:=seen_get v.names k (v.names.getD k [])
  refine zg [(5,{fm:=[(2,.c (.bool ((v.names.take k).contains (v.names.getD k []))))],cs:=[(5,pc (valid_ok (v.names.getD k [])))]})] [] [0≤(k:Int)∧(k:Int)<(v.names.length:Int),EqvI (mget (seenM v.names k) (v.names.getD k []) (.c (.bool false))) (.c (.bool ((v.names.take k).contains (v.names.getD k [])))),EqvD (mget (seenM v.names k) (v.names.getD k []) (.c (.bool false))) (.c (.bool ((v.names.take k).contains (v.names.getD k []))))] ⟨hin,by rw [hg];exact fun _ h=>h,by rw [hg];exact fun _ _ _ h=>h⟩ ?_
  refine zc (cond ((v.names.take k).contains (v.names.getD k [])) true (!validT (v.names.getD k []))) (fun h => ?_) (fun h => ?_)
  ·refine z0 [] [] ?_
   have hn:okAt v.names k=false:=by
    unfold okAt
    cases h1:(v.names.take k).contains (v.names.getD k [])<;>cases h2:validT (v.names.getD k [])<;>simp_all
   exact zS [.c (.bool false)] (by rw [show namesOk v.names=false from all_range_false hk' hn];rfl)
  ·have hc:(v.names.take k).contains (v.names.getD k [])=false∧validT (v.names.getD k [])=true:=by
    cases h1:(v.names.take k).contains (v.names.getD k [])<;>cases h2:validT (v.names.getD k [])<;>simp_all
   refine zg [(7,{bs:=[(2,.ob (.ms (seenM v.names (k+1))))]})] [] [BlkEqv (.ob (.ms (mset (seenM v.names k) (v.names.getD k []) (.c (.bool true))))) (.ob (.ms (seenM v.names (k+1)))),inR .i64 ((k:Int)+1)] ⟨by rw [seen_set v.names k hk' hc.1];exact BlkEqv.refl _,i6⟩ ?_
   have hall':∀ i,i<k+1→okAt v.names i=true:=fun i hi=>by
    rcases Nat.lt_or_ge i k with hlt | hge
    ·exact hall i hlt
    ·have:i=k:=by omega
     subst this
     unfold okAt;rw [hc.1,hc.2];rfl
   exact za [(0,0),(1,1)] (again _ (k+1) ⟨hk',hall'⟩ (by show v.names.length-(k+1)<v.names.length-k;omega))
 ·refine z0 [] [] ?_
  have hn:namesOk v.names=true:=all_range_true fun i hi=>hall i (by simp at h;omega)
  exact zS [.c (.bool ((v.names.length:Int)==(v.kids.length:Int)))] (by rw [hn];rfl)
end Go.Proofs.Tw
end
section
open Go Go.Sv
namespace Go.Proofs.Tw
attribute [local irreducible] Wp FinQ resV Ent Pur Go.Sv.Fn Sat0
set_option maxRecDepth 100000
variable {G:Nat→Option (List Cell)}
def a1 (v:JV):Bool:=cond (decide (v.kind<1)) true (decide (v.kind>6))
def a2 (v:JV):Bool:=cond v.b (v.kind != 2) false
def a3 (v:JV):Bool:=cond (v.n != 0) (v.kind != 3) false
def a4 (v:JV):Bool:=cond (decide (v.n < -9007199254740992)) true (decide (v.n>9007199254740992))
def a5 (v:JV):Bool:=cond (!(v.s==[])) (v.kind != 4) false
def listed (v:JV):Bool:=cond (v.kind==5) true (v.kind==6)
def a6 (v:JV):Bool:=cond (decide ((v.kids.length:Int)>0)) (!(listed v)) false
def a7 (v:JV):Bool:=cond (decide ((v.names.length:Int)>0)) (v.kind != 6) false
def namedJ (v:JV):Bool:=namesOk v.names&&(v.names.length:Int)==(v.kids.length:Int)
def a8 (v:JV):Bool:=cond (validT v.s) (cond (v.kind != 6) true (namedJ v)) false
def aloneJ (v:JV):Bool := !(a1 v||a2 v||a3 v||a4 v||a5 v||a6 v||a7 v)&&a8 v
theorem alone_ok (v:JV) (hl:v.names.length<4611686018427387904):Pur Tryz.prog G 271 [.agg (encJ v)] [.c (.bool (aloneJ v))]:=by
 refine zp Tryz.func271 ?_
 refine z0 [] [] ?_
 refine zc (a1 v) (fun h => ?_) (fun h => ?_)
 ·refine zg [] [true] [a1 v=true] h ?_
  exact zS [.c (.bool false)] (by simp [aloneJ,h])
 have h1:=h
 refine z0 [] [] ?_
 refine zc (a2 v) (fun h => ?_) (fun h => ?_)
 ·refine zg [] [true] [a2 v=true] h ?_
  exact zS [.c (.bool false)] (by simp [aloneJ,h])
 have h2:=h
 refine z0 [] [] ?_
 refine zc (a3 v) (fun h => ?_) (fun h => ?_)
 ·refine zg [] [true] [a3 v=true] h ?_
  exact zS [.c (.bool false)] (by simp [aloneJ,h])
 have h3:=h
 refine z0 [] [] ?_
 refine zc (a4 v) (fun h => ?_) (fun h => ?_)
 ·refine zg [] [true] [a4 v=true] h ?_
  exact zS [.c (.bool false)] (by simp [aloneJ,h])
 have h4:=h
 refine z0 [] [] ?_
 refine zc (a5 v) (fun h => ?_) (fun h => ?_)
 ·refine zg [] [true] [a5 v=true] h ?_
  exact zS [.c (.bool false)] (by simp [aloneJ,h])
 have h5:=h
 refine z0 [] [] ?_
 refine zc (a6 v) (fun h => ?_) (fun h => ?_)
 ·refine zg [] [true] [a6 v=true] h ?_
  exact zS [.c (.bool false)] (by simp [aloneJ,h])
 have h6:=h
 refine z0 [] [] ?_
 refine zc (a7 v) (fun h => ?_) (fun h => ?_)
 ·refine z0 [] [] ?_
  exact zS [.c (.bool false)] (by simp [aloneJ,h])
 have h7:=h
 refine z0 [(10,{cs:=[(2,pc (valid_ok v.s)),(9,pc (named_ok v hl))]})] [] ?_
 exact zS [.c (.bool (a8 v))] (by simp [aloneJ,h1,h2,h3,h4,h5,h6,h7])
mutual
def mayJ:JV→Int→Bool
 | .mk k b n s ns ks,d=>aloneJ (.mk k b n s ns ks)&&(cond (k != 5) (k != 6) false||cond (decide (d<8)) (!(anyNot ks (d+1))) false)
def anyNot:List JV→Int→Bool
 | [],_=>false
 | x::r,d => !(mayJ x d)||anyNot r d
end
theorem mayJ_eq (v:JV) (d:Int):mayJ v d=(aloneJ v&&(cond (v.kind != 5) (v.kind != 6) false||cond (decide (d<8)) (!(anyNot v.kids (d+1))) false)):=by cases v;rw [mayJ];rfl
theorem anyNot_eq (ks:List JV) (d:Int):anyNot ks d=ks.any (fun x => !(mayJ x d)):=by
 induction ks with
 | nil=>rw [anyNot]; rfl
 | cons x r ih=>rw [anyNot,ih]; rfl
def ixF {α:Type} (p:α→Bool) (l:List α):Int:=match l.findIdx? p with
 | some i=>(i:Int)
 | none => -1
theorem ixF_some {α:Type} {p:α→Bool} {l:List α} {k:Nat} {d:α} (hk:k<l.length) (hall:∀ i,i<k→p (l.getD i d)=false) (h:p (l.getD k d)=true):ixF p l=(k:Int):=by
 have:l.findIdx? p=some k:=by
  rw [List.findIdx?_eq_some_iff_getElem]
  refine ⟨hk,by simpa [List.getD,hk] using h,fun j hj => ?_⟩
  have:=hall j hj
  simpa [List.getD,show j<l.length from by omega] using this
 unfold ixF;rw [this]
theorem ixF_none {α:Type} {p:α→Bool} {l:List α} {d:α} (hall:∀ i,i<l.length→p (l.getD i d)=false):ixF p l = -1:=by
 have:l.findIdx? p=none:=by
  rw [List.findIdx?_eq_none_iff]
  intro x hx
  obtain ⟨i,hi,rfl⟩:=List.getElem_of_mem hx
  have:=hall i hi
  simpa [List.getD,hi] using this
 unfold ixF;rw [this]
theorem ixF_any {α:Type} (p:α→Bool) (l:List α):decide (ixF p l≥0)=l.any p:=by
 unfold ixF
 cases h:l.findIdx? p with
 | none =>
  rw [List.findIdx?_eq_none_iff] at h
  have:l.any p=false:=by rw [List.any_eq_false];intro x hx;simp [h x hx]
  rw [this];rfl
 | some i =>
  rw [List.findIdx?_eq_some_iff_getElem] at h
  obtain ⟨hi,h1,_⟩:=h
  have:l.any p=true:=by rw [List.any_eq_true];exact ⟨l[i],List.getElem_mem hi,h1⟩
  rw [this];simp
theorem up1 {k:Nat} {q:Nat→Prop} (hall:∀ i,i<k→q i) (h:q k):∀ i,i<k+1→q i:=fun i hi=>by
 rcases Nat.lt_or_ge i k with hlt | hge
 ·exact hall i hlt
 ·have:i=k:=by omega
  subst this;exact h
def bxI (d:Int):Blk := .box 3 [.int .i64 d]
def idxInv (ks:List JV) (d:Int) (k:Nat):St:=⟨[(0,.v (.c (.sl 6 ks.length (kidC ks)))),(1,.v (.c (clo1 273 (.ptr 0 0)))),(7,.v (.c (.int .i64 (ks.length:Int)))),(8,.v (.c (.int .i64 (k:Int))))],[(0,bxI d)],1⟩
theorem idx_ok (ks:List JV) (d:Int) (p:JV→Bool) (hl:ks.length<4611686018427387904)
  (hp:∀ x∈ks,FnB Tryz.prog G 273 [bxI d] [.agg (encJ x),.c (.ptr 0 0)] [.c (.bool (p x))] [(0,bxI d)]) :
  FnB Tryz.prog G 291 [bxI d] [.c (.sl 6 ks.length (kidC ks)),.c (clo1 273 (.ptr 0 0))] [.c (.int .i64 (ixF p ks))] [(0,bxI d)]:=by
 refine zf Tryz.func291 ?_
 refine z0 [] [] ?_
 refine zl (idxInv ks d) (fun k=>k≤ks.length∧∀ i,i<k→p (ks.getD i .nil)=false) (fun k=>ks.length-k) 0 ⟨Nat.zero_le _,fun i hi=>absurd hi (Nat.not_lt_zero i)⟩ ?_
 rintro k L ⟨hk,hall⟩ again
 refine z0 [] [] ?_
 refine zc (decide ((k:Int)<(ks.length:Int))) (fun h => ?_) (fun h => ?_)
 ·have hk':k<ks.length:=by simpa using h
  have hin:0≤(k:Int)∧(k:Int)<(ks.length:Int):=by omega
  have hm:ks.getD k .nil∈ks:=by simp [List.getD,hk']
  refine zg [(4,{fm:=[(4,.agg (encJ (ks.getD k .nil)))],cs:=[(5,cb [0] (hp _ hm))]})] [] [0≤(k:Int)∧(k:Int)<(ks.length:Int),EqvD (.agg [kidC ks k 0,kidC ks k 1,kidC ks k 2,kidC ks k 3,kidC ks k 4,kidC ks k 5]) (.agg (encJ (ks.getD k .nil)))] ⟨hin,kid_den hk'⟩ ?_
  refine zc (p (ks.getD k .nil)) (fun h => ?_) (fun h => ?_)
  ·rw [ixF_some hk' hall h]
   refine z0 [] [] ?_
   exact zb []
  ·refine zg [] [] [inR .i64 ((k:Int)+1)] (i6) ?_
   exact za [] (again _ (k+1) ⟨hk',up1 hall h⟩ (by show ks.length-(k+1)<ks.length-k;omega))
 ·rw [ixF_none (d := .nil) (fun i hi=>hall i (by simp at h;omega))]
  refine z0 [] [] ?_
  exact zb []
theorem cont_ok (ks:List JV) (d:Int) (p:JV→Bool) (hl:ks.length<4611686018427387904)
  (hp:∀ x∈ks,FnB Tryz.prog G 273 [bxI d] [.agg (encJ x),.c (.ptr 0 0)] [.c (.bool (p x))] [(0,bxI d)]) :
  FnB Tryz.prog G 272 [bxI d] [.c (.sl 6 ks.length (kidC ks)),.c (clo1 273 (.ptr 0 0))] [.c (.bool (ks.any p))] [(0,bxI d)]:=by
 refine zf Tryz.func272 ?_
 rw [← ixF_any]
 refine z0 [(1,{cs:=[(2,cb [0] (idx_ok ks d p hl hp))]})] [] ?_
 exact zb []
theorem may1_ok (v:JV) (d:Int) (h0 : -4611686018427387904<d) (h1:d<4611686018427387904) (r:Bool) (h:Pur Tryz.prog G 241 [.agg (encJ v),.c (.int .i64 (d+1))] [.c (.bool r)]) :
  FnB Tryz.prog G 273 [bxI d] [.agg (encJ v),.c (.ptr 0 0)] [.c (.bool (!r))] [(0,bxI d)]:=by
 refine zf Tryz.func273 ?_
 refine zg [(1,{cs:=[(3,pc h)]})] [] [inR .i64 (d+1)] (i6) ?_
 exact zb []
inductive Small:JV→Prop
 | mk {v:JV} (h1:v.names.length<4611686018427387904) (h2:v.kids.length<4611686018427387904) (h3:∀ x∈v.kids,Small x):Small v
theorem may_ok {v:JV} (hs:Small v):∀ d:Int,-1000<d→d<1000→Pur Tryz.prog G 241 [.agg (encJ v),.c (.int .i64 d)] [.c (.bool (mayJ v d))]:=by
 induction hs with
 | mk hn hk hkids ih =>
 rename_i v
 intro d h0 h1
 refine zp Tryz.func241 ?_
 refine z0 [(1,{cs:=[(1,pc (alone_ok v hn))]})] [] ?_
 rw [mayJ_eq]
 refine zc (!(aloneJ v)) (fun h => ?_) (fun h => ?_)
 ·refine z0 [] [] ?_
  exact zS [.c (.bool false)] (by simp at h;simp [h])
 have ha:aloneJ v=true:=by simpa using h
 refine z0 [] [] ?_
 refine zc (cond (v.kind != 5) (v.kind != 6) false) (fun h => ?_) (fun h => ?_)
 ·refine z0 [] [] ?_
  exact zS [.c (.bool true)] (by rw [ha,h];rfl)
 have hm:=h
 by_cases hd:d<8
 ·have hp:∀ x∈v.kids,FnB Tryz.prog G 273 [bxI d] [.agg (encJ x),.c (.ptr 0 0)] [.c (.bool (!(mayJ x (d+1))))] [(0,bxI d)]:=fun x hx=>may1_ok x d oM oM _ (ih x hx (d+1) oM oM)
  have hdt:decide (d<8)=true:=by simpa using hd
  refine zg [(5,{grd:=[(3,true),(4,true),(5,true),(6,true),(7,true)],fm:=[(5,.c (clo1 273 (.ptr 16 0)))],cs:=[(6,cb [16] (cont_ok v.kids d _ hk hp))]})] [] [decide (d<8)=true,decide (d<8)=true,decide (d<8)=true,EqvI (.c (cloRaw 273 [.c (.ptr 16 0)])) (.c (clo1 273 (.ptr 16 0))),EqvD (.c (cloRaw 273 [.c (.ptr 16 0)])) (.c (clo1 273 (.ptr 16 0))),decide (d<8)=true,decide (d<8)=true] ⟨hdt,hdt,hdt,clo1_I _ _,clo1_D _ _,hdt,hdt⟩ ?_
  exact zS [.c (.bool (cond (decide (d<8)) (!(v.kids.any fun x => !(mayJ x (d+1)))) false))] (by rw [ha,hm,anyNot_eq];rfl)
 ·have hdf:decide (d<8)=false:=by simpa using hd
  refine zg [(5,{grd:=[(3,false),(4,false),(5,false),(6,false),(7,false),(8,false)]})] [] [decide (d<8)=false,decide (d<8)=false,decide (d<8)=false,decide (d<8)=false,decide (d<8)=false,decide (d<8)=false] ⟨hdf,hdf,hdf,hdf,hdf,hdf⟩ ?_
  exact zS [.c (.bool false)] (by rw [ha,hm,hdf];rfl)
theorem May_ok {v:JV} (hs:Small v):Pur Tryz.prog G 198 [.agg (encJ v)] [.c (.bool (mayJ v 0))]:=by
 refine zp Tryz.func198 ?_
 refine z0 [(1,{cs:=[(1,pc (may_ok hs 0 oM oM))]})] [] ?_
 exact zr
end Go.Proofs.Tw
end
section
open Go Go.Sv
namespace Go.Proofs.Tw
attribute [local irreducible] Wp FinQ resV Ent Pur Go.Sv.Fn Sat0
set_option maxRecDepth 100000
variable {G:Nat→Option (List Cell)}
def hexT:List UInt8:=[48,49,50,51,52,53,54,55,56,57,97,98,99,100,101,102]
def qByte (c:UInt8):List UInt8:=if c==34||c==92 then [92,c] else if c<32 then [92,117,48,48,hexT.getD (c.toNat / 16) 0,hexT.getD (c.toNat%16) 0] else [c]
def quotedT (s:List UInt8):List UInt8:=34::(s.flatMap qByte++[34])
def sh4 (n:Nat):Int:=(n:Int).fdiv (2^(min (4:Int).toNat 8))
def lo4 (n:Nat):Int:=bitsI .and .u8 (n:Int) 15
def hi1 (i:Int):Int:=IntKind.u8.wrap (i+1)
def dig (i:Int):List UInt8:=(hexT.take (hi1 i).toNat).drop i.toNat
theorem dig_ok:∀ n:Nat,n<32→(0≤sh4 n∧sh4 n≤hi1 (sh4 n)∧hi1 (sh4 n)≤16)∧(0≤lo4 n∧lo4 n≤hi1 (lo4 n)∧hi1 (lo4 n)≤16)∧dig (sh4 n)=[hexT.getD (n / 16) 0]∧dig (lo4 n)=[hexT.getD (n%16) 0]:=by decide
theorem cond_or (a b:Bool):cond a true b=(a||b):=by cases a<;>rfl
theorem byte_eq {c:UInt8} {n:Nat} (hn:n<256):((c.toNat:Int)==(n:Int))=(c==UInt8.ofNat n):=by
 cases h:c==UInt8.ofNat n with
 | true =>
  have:c=UInt8.ofNat n:=by simpa using h
  subst this
  simp [UInt8.toNat_ofNat',Nat.mod_eq_of_lt hn]
 | false =>
  have hne:c≠UInt8.ofNat n:=by simpa using h
  rw [beq_eq_false_iff_ne]
  intro e
  apply hne
  apply UInt8.toNat_inj.1
  rw [UInt8.toNat_ofNat',Nat.mod_eq_of_lt hn]
  omega
def quoInv (s:List UInt8) (x:Nat×Nat×List UInt8):St:=⟨[(0,.v (.c (.str s))),(3,.v (.c (.ptr 0 0))),(8,.v (.c (.int .i64 (s.length:Int)))),(9,.v (.c (.int .i64 (x.1:Int))))],[(0,.box 224 [.ptr 0 0,.row 1 1 0 x.2.1]),(1,.row 5 1 x.2.1 (bytesF x.2.2))],16⟩
theorem quoted_ok (s:List UInt8) (hs:(quotedT s).length≤140737488355328):Pur Tryz.prog G 243 [.c (.str s)] [.c (.str (quotedT s))]:=by
 have hlen:s.length≤(s.flatMap qByte).length:=by
  clear hs
  induction s with
  | nil=>simp
  | cons c r ih =>
   have:1≤(qByte c).length:=by unfold qByte;split<;>(try split)<;>simp
   simp only [List.flatMap_cons,List.length_append,List.length_cons];omega
 simp only [quotedT,List.length_cons,List.length_append,List.length_nil] at hs
 refine zp Tryz.func243 ?_
 refine z0 [(2,{cs:=[(0,cb [16] (wb_a 34))]})] [] ?_
 refine zl (quoInv s) (fun x=>x.1≤s.length∧x.2.1=x.2.2.length∧x.2.2=34::(s.take x.1).flatMap qByte) (fun x=>s.length-x.1) (0,1,[34]) ⟨Nat.zero_le _,rfl,by simp⟩ ?_ [(0,16),(1,32)]
 rintro ⟨k,n,l⟩ L ⟨hk,hn,hl⟩ again
 simp only at hk hn hl
 refine z0 [] [] ?_
 refine zc (decide ((k:Int)<(s.length:Int))) (fun h => ?_) (fun h => ?_)
 ·have hk':k<s.length:=by simpa using h
  have hin:0≤(k:Int)∧(k:Int)<(s.length:Int):=by omega
  obtain ⟨c,hc⟩:∃ c,c=s.getD k 0:=⟨_,rfl⟩
  have htk:s.take (k+1)=s.take k++[c]:=by rw [hc,List.take_succ];simp [List.getD,hk']
  have hst:s=s.take k++c::s.drop (k+1):=by
   have:=List.take_append_drop (k+1) s
   rw [htk] at this
   simpa using this.symm
  have hbound:n+(qByte c).length+1≤140737488355328:=by
   have e:(s.flatMap qByte).length=((s.take k).flatMap qByte).length+(qByte c).length+((s.drop (k+1)).flatMap qByte).length:=by
    conv=>lhs;rw [hst]
    simp only [List.flatMap_append,List.flatMap_cons,List.length_append];omega
   rw [hl] at hn
   simp only [List.length_cons] at hn
   omega
  have hnext:l++qByte c=34::(s.take (k+1)).flatMap qByte:=by
   rw [htk,hl];simp
  have hl1:1≤(qByte c).length:=by unfold qByte;split<;>(try split)<;>simp
  refine zg [] [] [0≤(k:Int)∧(k:Int)<(s.length:Int)] hin ?_
  refine zc (cond (((s.getD k 0).toNat:Int)==34) true (((s.getD k 0).toNat:Int)==92)) (fun h => ?_) (fun h => ?_)
  ·rw [← hc] at h
   have hb:(c==34||c==92)=true:=by
    have e1:=byte_eq (c:=c) (n:=34) oM
    have e2:=byte_eq (c:=c) (n:=92) oM
    rw [show ((c.toNat:Int)==34)=(c==34) from e1,show ((c.toNat:Int)==92)=(c==92) from e2] at h
    exact (cond_or _ _).symm.trans h
   have hq:qByte c=[92,c]:=by unfold qByte;rw [if_pos hb]
   rw [hq] at hbound hnext
   simp only [List.length_cons,List.length_nil] at hbound
   refine zg [(9,{cs:=[(0,cb [0,1] (wb_b n l hn oM 92))]}),(10,{cs:=[(1,cb [0,240] (wb_b (n+1) (l++[92]) (by rw [hn];simp) oM (s.getD k 0)))]})] [] [inR .i64 ((k:Int)+1)] (i6) ?_
   exact za [(1,272)] (again _ (k+1,n+1+1,l++[92]++[s.getD k 0]) ⟨hk',by rw [hn];simp,by rw [← hc,List.append_assoc];exact hnext⟩ (by show s.length-(k+1)<s.length-k;omega))
  rw [← hc] at h
  have hb:(c==34||c==92)=false:=by
   have e1:=byte_eq (c:=c) (n:=34) oM
   have e2:=byte_eq (c:=c) (n:=92) oM
   rw [show ((c.toNat:Int)==34)=(c==34) from e1,show ((c.toNat:Int)==92)=(c==92) from e2] at h
   exact (cond_or _ _).symm.trans h
  refine z0 [] [] ?_
  refine zc (decide (((s.getD k 0).toNat:Int)<32)) (fun h => ?_) (fun h => ?_)
  ·have hlt:c.toNat<32:=by rw [← hc] at h;simp at h;omega
   have hq:qByte c=[92,117,48,48,hexT.getD (c.toNat / 16) 0,hexT.getD (c.toNat%16) 0]:=by
    unfold qByte;rw [if_neg (by simp [hb]),if_pos (show c<32 from hlt)]
   obtain ⟨d1,d2,d3,d4⟩:=dig_ok c.toNat hlt
   have hqd:([92,117,48,48]++dig (sh4 c.toNat))++dig (lo4 c.toNat)=qByte c:=by rw [d3,d4,hq];rfl
   rw [hc] at d1 d2 d3 d4 hqd hbound hnext
   refine zg [(12,{fm:=[(13,.c (.str (qByte (s.getD k 0))))],cs:=[(14,cb [0,1] (ws_b n l hn (qByte (s.getD k 0)) oM))]})] [] [(0:Int)≤4,(0:Int)≤4,0≤sh4 (s.getD k 0).toNat∧sh4 (s.getD k 0).toNat≤hi1 (sh4 (s.getD k 0).toNat)∧hi1 (sh4 (s.getD k 0).toNat)≤16,4+(dig (sh4 (s.getD k 0).toNat)).length≤9223372036854775807,0≤lo4 (s.getD k 0).toNat∧lo4 (s.getD k 0).toNat≤hi1 (lo4 (s.getD k 0).toNat)∧hi1 (lo4 (s.getD k 0).toNat)≤16,EqvI (.c (.str (([92,117,48,48]++dig (sh4 (s.getD k 0).toNat))++dig (lo4 (s.getD k 0).toNat)))) (.c (.str (qByte (s.getD k 0)))),EqvD (.c (.str (([92,117,48,48]++dig (sh4 (s.getD k 0).toNat))++dig (lo4 (s.getD k 0).toNat)))) (.c (.str (qByte (s.getD k 0)))),([92,117,48,48]++dig (sh4 (s.getD k 0).toNat)).length+(dig (lo4 (s.getD k 0).toNat)).length≤9223372036854775807,inR .i64 ((k:Int)+1)] ⟨by decide,by decide,d1,by rw [d3];show 4+1≤_;decide,d2,by rw [hqd];exact fun _ h=>h,by rw [hqd];exact fun _ _ _ h=>h,by rw [d3,d4];show 5+1≤_;decide,i6⟩ ?_
   exact za [(1,512)] (again _ (k+1,n+(qByte (s.getD k 0)).length,l++qByte (s.getD k 0)) ⟨hk',by rw [hn];simp,hnext⟩ (by show s.length-(k+1)<s.length-k;omega))
  ·have hlt:¬ c.toNat<32:=by rw [← hc] at h;simp at h;omega
   have hq:qByte c=[c]:=by
    unfold qByte;rw [if_neg (by simp [hb]),if_neg (show ¬ c<32 from hlt)]
   rw [hq] at hbound hnext
   simp only [List.length_cons,List.length_nil] at hbound
   refine zg [(7,{cs:=[(1,cb [0,1] (wb_b n l hn oM (s.getD k 0)))]})] [] [inR .i64 ((k:Int)+1)] (i6) ?_
   exact za [(1,304)] (again _ (k+1,n+1,l++[s.getD k 0]) ⟨hk',by rw [hn];simp,by rw [← hc];exact hnext⟩ (by show s.length-(k+1)<s.length-k;omega))
 ·have hke:k=s.length:=by simp at h;omega
  have hl2:l++[34]=quotedT s:=by rw [hl,hke];simp [quotedT]
  have hn2:n+1≤140737488355328:=by
   rw [hl,hke] at hn
   simp only [List.take_length,List.length_cons] at hn
   omega
  refine z0 [(14,{cs:=[(0,cb [0,1] (wb_b n l hn hn2 34))]}),(15,{cs:=[(0,cb [0,32] (str_b (n+1) (l++[34]) (by rw [hn];simp) oM hn2))]})] [] ?_
  exact zS [.c (.str (l++[34]))] (by rw [hl2])
end Go.Proofs.Tw
end
