/- Own texts for this claim: Jp1, Rp0, Dec7, Dec8, Prs, Hp20, Rp1, Jq1, Jq2, Jq3, Jq4, Jp2, Jq5, Jq6. -/
import Derived.Test.YtkhpjdkikncjiaaGreatDoorReplyParsesCardP3
import Derived.Test.YtkhpjdkikncjiaaGreatDoorReplyParsesCardP6
import Derived.Lib.ItoaLen
import Derived.Test.YtkhpjdkikncjiaaGreatDoorReplyParsesCardP5
set_option linter.all false
section
open Go Go.Sv Go.RowKit
namespace Go.Proofs.Tw
attribute [local irreducible] Wp FinQ resV Ent Pur Go.Sv.Fn Sat0
set_option maxRecDepth 100000
set_option maxHeartbeats 4000000
variable {G:Nat→Option (List Cell)}
def ReadsJ (s:List UInt8) (f:Nat→JV×Nat×Int) (x:JV):Prop:=∀ (p:Nat) (r:List UInt8),s.drop p=printJ x++r→digitB (r.headD 0)=false→f p=(x,p+(printJ x).length,0)
def partO (obj:Bool) (nm:List UInt8) (x:JV):List UInt8:=if obj then quotedT nm++[58]++printJ x else printJ x
theorem item_of {s:List UInt8} {f:Nat→JV×Nat×Int} {obj:Bool} {x:JV} {nm:List UInt8} {ns0:List (List UInt8)} {c:UInt8} {p:Nat} {r:List UInt8} (hf:ReadsJ s f x) (hn:obj=true→validT nm=true∧ns0.contains nm=false)
  (hc:digitB c=false) (h:s.drop p=partO obj nm x++c::r):(nameO obj s p ns0).1=(if obj then ns0++[nm] else ns0)∧(nameO obj s p ns0).2.2=0∧f (nameO obj s p ns0).2.1=(x,p+(partO obj nm x).length,0):=by
 cases obj with
 | false =>
  refine ⟨rfl,rfl,?_⟩
  exact hf p (c::r) h hc
 | true =>
  obtain ⟨h1,h2⟩:=hn rfl
  have e:partO true nm x=quotedT nm++([58]++printJ x):=by unfold partO;simp
  rw [e,List.append_assoc] at h
  have ht:=textR_of h1 h
  have hd:=drop_add h
  rw [List.append_assoc] at hd
  have hd':s.drop (p+(quotedT nm).length)=58::(printJ x++c::r):=hd
  have hw:wantR s (p+(quotedT nm).length) 58=(p+(quotedT nm).length+1,0):=by
   unfold wantR
   rw [skP_of hd' dC,atB_of hd',if_pos dC]
  have hN:nameO true s p ns0=(ns0++[nm],p+(quotedT nm).length+1,0):=by
   show nameR s p ns0=_
   unfold nameR
   rw [ht,if_pos rfl,if_neg (by rw [h2];decide),hw]
  rw [hN]
  refine ⟨rfl,rfl,?_⟩
  have:=hf (p+(quotedT nm).length+1) (c::r) (at_drop hd').2.2 hc
  rw [this,e]
  simp [Nat.add_assoc,Nat.add_comm,Nat.add_left_comm]
theorem partsJ_cons (obj:Bool) (ns:List (List UInt8)) (x:JV) (r:List JV):partsJ (if obj then 6 else 5) ns (x::r)=partO obj (ns.headD []) x::partsJ (if obj then 6 else 5) ns.tail r:=by
 rw [partsJ];cases obj<;>rfl
theorem partsJ_len (k:Int):∀ (ks:List JV) (ns:List (List UInt8)),(partsJ k ns ks).length=ks.length
 | [],ns=>by rw [partsJ]; rfl
 | x::r,ns=>by rw [partsJ,List.length_cons,partsJ_len k r,List.length_cons]
theorem joinT_len (l:List (List UInt8)):l.length≤(Lib.joinTail [44] l).length:=by
 unfold Lib.joinTail
 induction l with
 | nil=>simp
 | cons x r ih=>simp only [List.map_cons,List.flatten_cons,List.length_append,List.length_cons,List.length_nil]; omega
theorem joinT_cons (x:List UInt8) (r:List (List UInt8)):Lib.joinTail [44] (x::r)=44::(x++Lib.joinTail [44] r):=by
 unfold Lib.joinTail;simp
theorem manyR_of {s:List UInt8} {f:Nat→JV×Nat×Int} {obj:Bool} {e r:List UInt8}:∀ (ks:List JV) (x:JV) (ns:List (List UInt8)) (n p:Nat) (ns0:List (List UInt8)) (ks0:List JV),(∀ y∈x::ks,ReadsJ s f y) →
  (obj=true→ns.length=ks.length+1∧(∀ t∈ns,validT t=true)∧(ns0++ns).Nodup)→(obj=false→ns=[])→ks.length<n →
  s.drop p=Lib.join (partsJ (if obj then 6 else 5) ns (x::ks)) [44]++endC obj::r →
  manyR f obj s n p ns0 ks0=(ns0++ns,ks0++x::ks,p+(Lib.join (partsJ (if obj then 6 else 5) ns (x::ks)) [44]).length+1,0)
 | ks,x,ns,0,p,ns0,ks0,hf,h1,h2,hn,h=>by omega
 | ks,x,ns,n+1,p,ns0,ks0,hf,h1,h2,hn,h=>by
  have hE:digitB (endC obj)=false:=by cases obj<;>decide
  have hB:blankB (endC obj)=false:=by cases obj<;>decide
  have hq:obj=true→validT (ns.headD [])=true∧ns0.contains (ns.headD [])=false:=fun ho=>by
   obtain ⟨q1,q2,q3⟩:=h1 ho
   cases ns with
   | nil=>simp at q1
   | cons a t =>
    refine ⟨q2 a (by simp),?_⟩
    have:=(List.nodup_append.1 q3).2.2
    rw [Bool.eq_false_iff]
    intro hc
    exact this a (by simpa using hc) a (by simp) rfl
  rw [partsJ_cons,Lib.join_cons] at h ⊢
  rw [List.append_assoc] at h
  have hns:(if obj then ns0++[ns.headD []] else ns0)++ns.tail=ns0++ns:=by
   cases obj with
   | false=>rw [h2 rfl]; rfl
   | true =>
    obtain ⟨q1,q2,q3⟩:=h1 rfl
    cases ns with
    | nil=>simp at q1
    | cons a t=>simp
  rw [manyR]
  rcases ks with _ | ⟨y,ks⟩
  ·rw [partsJ] at h ⊢
   have h':s.drop p=partO obj (ns.headD []) x++endC obj::r:=h
   obtain ⟨i1,i2,i3⟩:=item_of (hf x (by simp)) hq hE h'
   have hd:=drop_add h'
   have ht:ns.tail=[]:=by
    cases obj with
    | false=>rw [h2 rfl]; rfl
    | true =>
     obtain ⟨q1,_,_⟩:=h1 rfl
     cases ns with
     | nil=>rfl
     | cons a t=>simp at q1; simpa using q1
   rw [ht,List.append_nil] at hns
   rw [i1,i2,i3,if_pos rfl,if_pos rfl,skP_of hd hB,atB_of hd,if_pos (by simp),hns]
   have e0:Lib.joinTail [44] []=[]:=rfl
   rw [e0,List.append_nil]
  ·rw [partsJ_cons,joinT_cons] at h ⊢
   rw [List.cons_append] at h
   obtain ⟨i1,i2,i3⟩:=item_of (hf x (by simp)) hq dC h
   have hd:=drop_add h
   rw [i1,i2,i3,if_pos rfl,if_pos rfl,skP_of hd dC,atB_of hd,atB_of hd,if_neg (by cases obj<;>decide),if_pos dC]
   have hd2:=(at_drop hd).2.2
   have ih:=manyR_of (s:=s) (f:=f) (obj:=obj) (e:=e) (r:=r) ks y ns.tail n (p+(partO obj (ns.headD []) x).length+1) (if obj then ns0++[ns.headD []] else ns0) (ks0++[x]) (fun z hz=>hf z (by simp at hz ⊢;exact .inr hz))
    (fun ho=>by
     obtain ⟨q1,q2,q3⟩:=h1 ho
     subst ho
     cases ns with
     | nil=>simp at q1
     | cons a t =>
      refine ⟨by simpa using q1,fun t' ht'=>q2 t' (by simp at ht' ⊢;exact .inr ht'),?_⟩
      simpa using q3) (fun ho=>by rw [h2 ho];rfl) (by simp at hn;omega) (by rw [partsJ_cons,Lib.join_cons];exact hd2)
   rw [ih,hns,partsJ_cons,Lib.join_cons]
   simp [Nat.add_assoc,Nat.add_comm,Nat.add_left_comm]
theorem namesOk_nodup {l:List (List UInt8)} (h:namesOk l=true):(∀ t∈l,validT t=true)∧l.Nodup:=by
 have hx:∀ i,i<l.length→okAt l i=true:=fun i hi=>by
  unfold namesOk at h
  rw [List.all_eq_true] at h
  exact h i (by simpa using hi)
 refine ⟨fun t ht => ?_,?_⟩
 ·obtain ⟨i,hi,rfl⟩:=List.getElem_of_mem ht
  have:=hx i hi
  unfold okAt at this
  simp only [Bool.and_eq_true] at this
  rw [List.getD_eq_getElem?_getD,List.getElem?_eq_getElem hi] at this
  exact this.2
 ·unfold List.Nodup
  rw [List.pairwise_iff_getElem]
  intro i j hi hj hij he
  have:=hx j hj
  unfold okAt at this
  simp only [Bool.and_eq_true,Bool.not_eq_true'] at this
  have h1:=this.1
  rw [Bool.eq_false_iff] at h1
  apply h1
  rw [List.contains_iff_mem,List.getD_eq_getElem?_getD,List.getElem?_eq_getElem hj,Option.getD_some]
  rw [← he]
  exact List.mem_take_iff_getElem.2 ⟨i,by omega,rfl⟩
theorem alone_parts {k:Int} {b:Bool} {n:Int} {t:List UInt8} {ns:List (List UInt8)} {ks:List JV} (h:aloneJ (.mk k b n t ns ks)=true):1≤k∧k≤6∧(k≠2→b=false)∧(k≠3→n=0)∧(-9007199254740992≤n∧n≤9007199254740992)∧(k≠4→t=[]) ∧
  (k≠5→k≠6→ks=[])∧(k≠6→ns=[])∧validT t=true∧(k=6→namesOk ns=true∧ns.length=ks.length):=by
 unfold aloneJ at h
 simp only [Bool.and_eq_true,Bool.not_eq_true',Bool.or_eq_false_iff] at h
 obtain ⟨⟨⟨⟨⟨⟨⟨p1,p2⟩,p3⟩,p4⟩,p5⟩,p6⟩,p7⟩,p8⟩:=h
 replace p1:(bif decide (k<1) then true else decide (k>6))=false:=p1
 replace p2:(bif b then k != 2 else false)=false:=p2
 replace p3:(bif n != 0 then k != 3 else false)=false:=p3
 replace p4:(bif decide (n < -9007199254740992) then true else decide (n>9007199254740992))=false:=p4
 replace p5:(bif !t==[] then k != 4 else false)=false:=p5
 replace p6:(bif decide ((ks.length:Int)>0) then !bif k==5 then true else k==6 else false)=false:=p6
 replace p7:(bif decide ((ns.length:Int)>0) then k != 6 else false)=false:=p7
 replace p8:(bif validT t then bif k != 6 then true else namesOk ns&&(ns.length:Int)==(ks.length:Int) else false)=true:=p8
 have c1:1≤k:=by
  rcases Int.lt_or_le k 1 with hk | hk
  ·rw [decide_eq_true hk] at p1;cases p1
  ·exact hk
 have c2:k≤6:=by
  rw [decide_eq_false (show ¬ k<1 by omega)] at p1
  have:=of_decide_eq_false p1;omega
 refine ⟨c1,c2,fun hk => ?_,fun hk => ?_,?_,fun hk => ?_,fun h5 h6 => ?_,fun hk => ?_,?_,fun hk => ?_⟩
 ·cases b
  ·rfl
  ·have:(k != 2)=true:=by simpa using hk
   rw [this] at p2;cases p2
 ·by_cases e:n=0
  ·exact e
  ·rw [show (n != 0)=true by simpa using e,show (k != 3)=true by simpa using hk] at p3;cases p3
 ·rcases Int.lt_or_le n (-9007199254740992) with hn | hn
  ·rw [decide_eq_true hn] at p4;cases p4
  ·rw [decide_eq_false (show ¬ n < -9007199254740992 by omega)] at p4
   have:=of_decide_eq_false p4;omega
 ·by_cases e:t=[]
  ·exact e
  ·rw [show (t==[])=false by simpa using e,show (k != 4)=true by simpa using hk] at p5;cases p5
 ·cases ks with
  | nil=>rfl
  | cons x r =>
   rw [decide_eq_true (show ((x::r).length:Int)>0 by rw [List.length_cons];omega),show (k==5)=false by simpa using h5,show (k==6)=false by simpa using h6] at p6;cases p6
 ·cases ns with
  | nil=>rfl
  | cons x r =>
   rw [decide_eq_true (show ((x::r).length:Int)>0 by rw [List.length_cons];omega),show (k != 6)=true by simpa using hk] at p7;cases p7
 ·cases hv:validT t
  ·rw [hv] at p8;cases p8
  ·rfl
 ·subst hk
  cases hv:validT t
  ·rw [hv] at p8;cases p8
  ·rw [hv] at p8
   have:(namesOk ns&&(ns.length:Int)==(ks.length:Int))=true:=p8
   simp only [Bool.and_eq_true,beq_iff_eq] at this
   exact ⟨this.1,by omega⟩
theorem listR_of {s:List UInt8} {f:Nat→JV×Nat×Int} {obj:Bool} {p:Nat} {ns:List (List UInt8)} {ks:List JV} {r:List UInt8} (hf:∀ y∈ks,ReadsJ s f y) (h1:obj=true→ns.length=ks.length∧(∀ t∈ns,validT t=true)∧ns.Nodup)
  (h2:obj=false→ns=[]) (hk:∀ y∈ks,∃ c t,printJ y=c::t∧blankB c=false∧c≠93) {o:UInt8} (h:s.drop p=o::(Lib.join (partsJ (if obj then 6 else 5) ns ks) [44]++endC obj::r)) :
  listR f false obj s p=(.mk (if obj then 6 else 5) false 0 [] ns ks,p+(Lib.join (partsJ (if obj then 6 else 5) ns ks) [44]).length+2,0):=by
 have hB:blankB (endC obj)=false:=by cases obj<;>decide
 obtain ⟨g1,g2,g3⟩:=at_drop h
 unfold listR
 cases ks with
 | nil =>
  rw [partsJ] at g3 ⊢
  have g3':s.drop (p+1)=endC obj::r:=g3
  have hns:ns=[]:=by
   cases obj with
   | false=>exact h2 rfl
   | true=>have:=(h1 rfl).1; simpa using this
  rw [skP_of g3' hB,atB_of g3',if_pos (by simp),hns];rfl
 | cons x ks =>
  obtain ⟨c,t,e,hc,hd⟩:∃ c t,s.drop (p+1)=c::t∧blankB c=false∧c≠endC obj:=by
   rw [g3,partsJ_cons,Lib.join_cons]
   obtain ⟨c,t,e1,e2,e3⟩:=hk x (by simp)
   cases obj with
   | false=>exact ⟨c,_,by show (printJ x++_)++_=_; rw [e1]; rfl,e2,e3⟩
   | true=>exact ⟨34,_,rfl,by decide,by decide⟩
  have hm:=manyR_of (s:=s) (f:=f) (obj:=obj) (e:=[]) (r:=r) ks x ns (s.length+1) (p+1) [] [] hf (fun ho=>by obtain ⟨q1,q2,q3⟩:=h1 ho;exact ⟨by simpa using q1,q2,by simpa using q3⟩) h2
   (by
    have:=congrArg List.length g3
    rw [partsJ_cons,Lib.join_cons] at this
    have hj:=joinT_len (partsJ (if obj then 6 else 5) ns.tail ks)
    rw [partsJ_len] at hj
    simp at this
    omega) g3
  rw [skP_of e hc,atB_of e,if_neg (by simpa using hd),if_neg dC,hm]
  unfold manyJ
  simp [Nat.add_assoc,Nat.add_comm,Nat.add_left_comm]
  omega
theorem head_val {v:JV} {d:Int} (h:mayJ v d=true):∃ c t,printJ v=c::t∧blankB c=false∧c≠93:=by
 obtain ⟨k,b,n,t,ns,ks⟩:=v
 rw [mayJ] at h
 simp only [Bool.and_eq_true] at h
 obtain ⟨c1,c2,-,-,-,-,-⟩:=alone_parts h.1
 rw [printJ]
 by_cases e1:k=1
 ·subst e1;exact ⟨110,_,rfl,by decide,by decide⟩
 by_cases e2:k=2
 ·subst e2
  cases b
  ·exact ⟨102,_,rfl,by decide,by decide⟩
  ·exact ⟨116,_,rfl,by decide,by decide⟩
 by_cases e3:k=3
 ·subst e3
  rw [if_neg dC,if_neg dC,if_pos dC]
  by_cases hn:n<0
  ·obtain ⟨m,rfl⟩:∃ m:Nat,n = -(m:Int):=⟨n.natAbs,by omega⟩
   exact ⟨45,_,Lib.itoa_neg m oM,by decide,by decide⟩
  ·obtain ⟨m,rfl⟩:∃ m:Nat,n=(m:Int):=⟨n.natAbs,by omega⟩
   rw [Lib.itoa_nonneg]
   cases hq:Lib.decDigits m with
   | nil=>exact (dec_ne m hq).elim
   | cons c d =>
    have hdc:digitB c=true:=by have:=dec_all m;rw [hq] at this;simp at this;exact this.1
    exact ⟨c,d,rfl,by have:=byte_all (fun c => !digitB c || !blankB c) kR c;rw [hdc] at this;simpa using this,fun e=>by rw [e] at hdc;revert hdc;decide⟩
 by_cases e4:k=4
 ·subst e4;exact ⟨34,_,rfl,by decide,by decide⟩
 by_cases e6:k=6
 ·subst e6;exact ⟨123,_,rfl,by decide,by decide⟩
 ·have e5:k=5:=by omega
  subst e5;exact ⟨91,_,rfl,by decide,by decide⟩
def subR (s:List UInt8):Nat→Nat→JV×Nat×Int
 | 0=>fun _=>(.nil,0,3)
 | k+1=>valR s k
theorem valR_eq (s:List UInt8) (k p:Nat):valR s k p =
  if s.length≤skP s p then (.nil,skP s p,3)
  else if s.getD (skP s p) 0=110 then (if wordB s (skP s p) [110,117,108,108] then (.mk 1 false 0 [] [] [],skP s p+4,0) else (.mk 1 false 0 [] [] [],skP s p,3))
  else if s.getD (skP s p) 0=116 then (if wordB s (skP s p) [116,114,117,101] then (.mk 2 true 0 [] [] [],skP s p+4,0) else (.mk 2 true 0 [] [] [],skP s p,3))
  else if s.getD (skP s p) 0=102 then (if wordB s (skP s p) [102,97,108,115,101] then (.mk 2 false 0 [] [] [],skP s p+5,0) else (.mk 2 false 0 [] [] [],skP s p,3))
  else if s.getD (skP s p) 0=34 then (.mk 4 false 0 (textR s (skP s p)).1 [] [],(textR s (skP s p)).2)
  else if s.getD (skP s p) 0=91 then listR (subR s k) (k==0) false s (skP s p)
  else if s.getD (skP s p) 0=123 then listR (subR s k) (k==0) true s (skP s p)
  else if s.getD (skP s p) 0=45∨digitB (s.getD (skP s p) 0)=true then (.mk 3 false (numR s (skP s p)).1 [] [] [],(numR s (skP s p)).2)
  else (.nil,skP s p,3):=by
 cases k<;>rw [valR]<;>rfl
theorem wordB_of {s w r:List UInt8} {p:Nat} (h:s.drop p=w++r):wordB s p w=true:=by
 unfold wordB;rw [h,List.take_left];simp
theorem leaf_of {s:List UInt8} {K:Nat} {k:Int} {b:Bool} {n:Int} {t:List UInt8} {ns:List (List UInt8)} {ks:List JV} {p:Nat} {r:List UInt8} (h5:k≠5∧k≠6) (ha:aloneJ (.mk k b n t ns ks)=true)
  (hd:s.drop p=printJ (.mk k b n t ns ks)++r) (hr:digitB (r.headD 0)=false):valR s K p=(.mk k b n t ns ks,p+(printJ (.mk k b n t ns ks)).length,0):=by
 obtain ⟨c1,c2,q2,q3,q0,q4,q56,q6,qv,qn⟩:=alone_parts ha
 have hks:=q56 h5.1 h5.2
 have hns:=q6 h5.2
 subst hks hns
 by_cases e1:k=1
 ·subst e1
  have hb0:=q2 oM
  have hn0:=q3 oM
  have ht0:=q4 oM
  subst hb0 hn0 ht0
  rw [printJ] at hd ⊢
  have hd':s.drop p=[110,117,108,108]++r:=hd
  obtain ⟨a1,a2,_⟩:=at_drop hd'
  rw [valR_eq,skP_of hd' dC,a2,if_neg oM,if_pos rfl,wordB_of hd',if_pos rfl];rfl
 by_cases e2:k=2
 ·subst e2
  have hn0:=q3 oM
  have ht0:=q4 oM
  subst hn0 ht0
  rw [printJ] at hd ⊢
  cases b
  ·have hd':s.drop p=[102,97,108,115,101]++r:=hd
   obtain ⟨a1,a2,_⟩:=at_drop hd'
   rw [valR_eq,skP_of hd' dC,a2,if_neg oM,if_neg dC,if_neg dC,if_pos rfl,wordB_of hd',if_pos rfl];rfl
  ·have hd':s.drop p=[116,114,117,101]++r:=hd
   obtain ⟨a1,a2,_⟩:=at_drop hd'
   rw [valR_eq,skP_of hd' dC,a2,if_neg oM,if_neg dC,if_pos rfl,wordB_of hd',if_pos rfl];rfl
 by_cases e3:k=3
 ·subst e3
  have hb0:=q2 oM
  have ht0:=q4 oM
  subst hb0 ht0
  have e:printJ (.mk 3 false n [] [] [])=Lib.itoa n:=by rw [printJ];rfl
  rw [e] at hd ⊢
  obtain ⟨g1,g2,g3⟩:=numR_of q0.1 q0.2 hd hr
  have hbl:blankB (s.getD p 0)=false:=by
   rcases g3 with g3 | g3
   ·rw [g3];rfl
   ·have:=byte_all (fun c => !digitB c || !blankB c) kR (s.getD p 0);rw [g3] at this;simpa using this
  have hne:∀ c:UInt8,(c==45||digitB c)=false→s.getD p 0≠c:=fun c hc e=>by
   rw [e] at g3
   rcases g3 with g3 | g3
   ·rw [g3] at hc;cases hc
   ·rw [g3] at hc;simp at hc
  rw [valR_eq,skP_no (fun _=>hbl),if_neg oM,if_neg (hne _ dC),if_neg (hne _ dC),if_neg (hne _ dC),if_neg (hne _ dC),if_neg (hne _ dC),if_neg (hne _ dC),if_pos g3,g1]
 ·have e4:k=4:=by omega
  subst e4
  have hb0:=q2 oM
  have hn0:=q3 oM
  subst hb0 hn0
  have e:printJ (.mk 4 false 0 t [] [])=quotedT t:=by rw [printJ];rfl
  rw [e] at hd ⊢
  have hd':s.drop p=34::(t.flatMap qByte++[34]++r):=hd
  obtain ⟨a1,a2,_⟩:=at_drop hd'
  rw [valR_eq,skP_of hd' dC,a2,if_neg oM,if_neg dC,if_neg dC,if_neg dC,if_pos rfl,textR_of qv hd]
theorem valR_of (s:List UInt8):∀ (k:Nat) (v:JV),k≤8→mayJ v (8-(k:Int))=true→ReadsJ s (valR s k) v:=by
 intro k
 induction k with
 | zero =>
  rintro ⟨k,b,n,t,ns,ks⟩ hk h p r hd hr
  have hh:=h
  rw [mayJ] at h
  simp only [Bool.and_eq_true] at h
  obtain ⟨ha,hb⟩:=h
  have h5:k≠5∧k≠6:=by
   refine ⟨fun e => ?_,fun e => ?_⟩<;>subst e<;>(revert hb;show (false||(bif decide (8-((0:Nat):Int)<8) then !anyNot ks (8-((0:Nat):Int)+1) else false))=true→False;rw [decide_eq_false oM];intro h;cases h)
  exact leaf_of h5 ha hd hr
 | succ m ih =>
  rintro ⟨k,b,n,t,ns,ks⟩ hk h p r hd hr
  have hh:=h
  rw [mayJ] at h
  simp only [Bool.and_eq_true] at h
  obtain ⟨ha,hb⟩:=h
  by_cases h5:k≠5∧k≠6
  ·exact leaf_of h5 ha hd hr
  ·obtain ⟨c1,c2,q2,q3,q0,q4,q56,q6,qv,qn⟩:=alone_parts ha
   have hkids:∀ y∈ks,mayJ y (8-(m:Int))=true:=by
    intro y hy
    have hb':anyNot ks (8-((m+1:Nat):Int)+1)=false:=by
     have e:(k != 5&&k != 6)=false∨True := .inr trivial
     rcases (show k=5∨k=6 by omega) with rfl | rfl<;>
     ·rw [decide_eq_true (show 8-((m+1:Nat):Int)<8 by omega)] at hb
      simpa using hb
    rw [anyNot_eq,List.any_eq_false] at hb'
    have:=hb' y hy
    rw [show 8-((m+1:Nat):Int)+1=8-(m:Int) by omega] at this
    simpa using this
   have hR:∀ y∈ks,ReadsJ s (valR s m) y:=fun y hy=>ih y oM (hkids y hy)
   have hH:∀ y∈ks,∃ c t,printJ y=c::t∧blankB c=false∧c≠93:=fun y hy=>head_val (hkids y hy)
   have hb0:=q2 oM
   have hn0:=q3 oM
   have ht0:=q4 oM
   subst hb0 hn0 ht0
   by_cases e6:k=6
   ·subst e6
    obtain ⟨g1,g2⟩:=qn rfl
    obtain ⟨g3,g4⟩:=namesOk_nodup g1
    have e:printJ (.mk 6 false 0 [] ns ks)=123::(Lib.join (partsJ (if true then 6 else 5) ns ks) [44]++[endC true]):=by rw [printJ];rfl
    rw [e] at hd ⊢
    have hd':s.drop p=123::(Lib.join (partsJ (if true then 6 else 5) ns ks) [44]++endC true::r):=by rw [hd];simp
    have hL:=listR_of (f:=valR s m) (obj:=true) hR (fun _=>⟨g2,g3,g4⟩) (fun e=>by cases e) hH hd'
    obtain ⟨a1,a2,_⟩:=at_drop hd'
    rw [valR_eq,skP_of hd' dC,a2,if_neg oM,if_neg dC,if_neg dC,if_neg dC,if_neg dC,if_neg dC,if_pos rfl]
    refine Eq.trans hL ?_
    simp [Nat.add_assoc]
   ·have e5:k=5:=by omega
    subst e5
    have hns:=q6 dC
    subst hns
    have e:printJ (.mk 5 false 0 [] [] ks)=91::(Lib.join (partsJ (if false then 6 else 5) [] ks) [44]++[endC false]):=by rw [printJ];rfl
    rw [e] at hd ⊢
    have hd':s.drop p=91::(Lib.join (partsJ (if false then 6 else 5) [] ks) [44]++endC false::r):=by rw [hd];simp
    have hL:=listR_of (f:=valR s m) (obj:=false) hR (fun e=>by cases e) (fun _=>rfl) hH hd'
    obtain ⟨a1,a2,_⟩:=at_drop hd'
    rw [valR_eq,skP_of hd' dC,a2,if_neg oM,if_neg dC,if_neg dC,if_neg dC,if_neg dC,if_pos rfl]
    refine Eq.trans hL ?_
    simp [Nat.add_assoc]
theorem parse_print_J {v:JV} (h:mayJ v 0=true):parseJ (printT v)=(v,0):=by
 have e:printT v=printJ v:=by unfold printT;rw [if_pos h]
 rw [e]
 have:=valR_of (printJ v) 8 v (Nat.le_refl _) h 0 [] (by simp) dC
 unfold parseJ
 rw [this,if_pos rfl,if_neg]
 have:=skP_le (printJ v) (0+(printJ v).length)
 show ¬ skP (printJ v) (0+(printJ v).length)<(printJ v).length
 omega
end Go.Proofs.Tw
end
section
open Go Go.Sv
namespace Go.Proofs.Tw
set_option maxRecDepth 100000
set_option maxHeartbeats 4000000
theorem may_leafV {k:Int} {b:Bool} {n:Int} {t:List UInt8} {d:Int} (h5:k≠5∧k≠6) (ha:aloneJ (.mk k b n t [] [])=true):mayJ (.mk k b n t [] []) d=true:=by
 rw [mayJ,ha,show (k != 5)=true by simpa using h5.1,show (k != 6)=true by simpa using h5.2];rfl
theorem may_leaf (ns:List Int) (k:Int) (a:Nat) (d:Int):mayJ (leafT ns k a).1 d=true:=by
 unfold leafT
 split
 ·exact may_leafV dC kR
 ·split
  ·show mayJ (boolJ _) d=true
   cases (nextV ns a 2==1)
   ·exact may_leafV dC kR
   ·exact may_leafV dC kR
  ·split
   ·show mayJ (intJ _) d=true
    refine may_leafV dC ?_
    have hi:∀ m:Nat,m<8→aloneJ (intJ (ints8.getD m 0))=true:=by
     intro m hm
     have:(List.range 8).all (fun m=>aloneJ (intJ (ints8.getD m 0)))=true:=by kernel_rfl
     exact List.all_eq_true.1 this m (by simpa using hm)
    rcases Nat.lt_or_ge (nextV ns a 8).toNat 8 with h | h
    ·exact hi _ h
    ·have e:ints8.getD (nextV ns a 8).toNat 0=0:=by rw [List.getD_eq_getElem?_getD,List.getElem?_eq_none (by exact h)];rfl
     rw [e]
     exact (by kernel_rfl:aloneJ (intJ 0)=true)
   ·show mayJ (textJ _) d=true
    have hm:=pick_in txt11 ns a dC
    have hl:txt11.all (fun t=>aloneJ (textJ t))=true:=by kernel_rfl
    exact may_leafV dC (List.all_eq_true.1 hl _ hm)
theorem namesOk_of {l:List (List UInt8)} (h1:∀ t∈l,validT t=true) (h2:l.Nodup):namesOk l=true:=by
 unfold namesOk
 rw [List.all_eq_true]
 intro i hi
 have hi:i<l.length:=by simpa using hi
 unfold okAt
 rw [List.getD_eq_getElem?_getD,List.getElem?_eq_getElem hi,Option.getD_some,h1 _ (List.getElem_mem hi),Bool.and_true,Bool.not_eq_true',Bool.eq_false_iff]
 intro hc
 rw [List.contains_iff_mem,List.mem_take_iff_getElem] at hc
 obtain ⟨j,hj,e⟩:=hc
 have:=List.pairwise_iff_getElem.1 h2 j i oM hi oM
 exact this e
def NmK (i:Nat) (l:List (List UInt8)):Prop:=(∀ x∈l,∃ t∈nam4,∃ j,i<j∧j≤3∧x=t++[UInt8.ofNat (48+j)])∧l.Nodup
theorem may_kids (f:Nat→JV×Nat) (d:Int) (hf:∀ a,mayJ (f a).1 d=true) (ns:List Int) (obj:Bool):∀ (i a:Nat) (nm:List (List UInt8)) (ks:List JV),i≤3→NmK i nm→(obj=true→nm.length=ks.length)→(obj=false→nm=[])→(∀ x∈ks,mayJ x d=true) →
  NmK 0 (kidsT f ns obj i a nm ks).1∧(obj=true→(kidsT f ns obj i a nm ks).1.length=(kidsT f ns obj i a nm ks).2.1.length)∧(obj=false→(kidsT f ns obj i a nm ks).1=[])∧∀ x∈(kidsT f ns obj i a nm ks).2.1,mayJ x d=true
 | 0,a,nm,ks,h0,h1,h2,h3,h4=>⟨h1,h2,h3,h4⟩
 | i+1,a,nm,ks,h0,h1,h2,h3,h4=>by
  unfold kidsT
  have h4':∀ x∈ks++[(f (if obj then nextA ns a 4 else a)).1],mayJ x d=true:=by
   intro x hx
   rcases List.mem_append.1 hx with hx | hx
   ·exact h4 x hx
   ·rcases List.mem_singleton.1 hx with rfl;exact hf _
  cases obj with
  | true =>
   refine may_kids f d hf ns true i _ _ _ oM ?_ (fun _ => ?_) (fun h=>by cases h) h4'
   ·rw [if_pos rfl]
    refine ⟨fun x hx => ?_,?_⟩
    ·rcases List.mem_append.1 hx with hx | hx
     ·obtain ⟨t,ht,j,q1,q2,q3⟩:=h1.1 x hx
      exact ⟨t,ht,j,by omega,q2,q3⟩
     ·rcases List.mem_singleton.1 hx with rfl
      exact ⟨_,pick_mem4 ns a,i+1,by omega,h0,rfl⟩
    ·refine List.nodup_append.2 ⟨h1.2,by simp,fun x hx y hy e => ?_⟩
     rcases List.mem_singleton.1 hy with rfl
     obtain ⟨t,ht,j,q1,q2,q3⟩:=h1.1 x hx
     rw [q3] at e
     have e:=congrArg List.getLast? e
     simp only [List.getLast?_append,List.getLast?_singleton,Option.some_or,Option.some.injEq] at e
     have e:=congrArg UInt8.toNat e
     simp only [UInt8.toNat_ofNat'] at e
     omega
   ·rw [if_pos rfl,List.length_append,List.length_append,h2 rfl];rfl
  | false =>
   refine may_kids f d hf ns false i _ _ _ oM ?_ (fun h=>by cases h) (fun _=>h3 rfl) h4'
   rw [h3 rfl]
   exact ⟨fun x hx=>(by cases hx),List.Pairwise.nil⟩
theorem may_many {k:Int} (hk:k=5∨k=6) {ns:List (List UInt8)} {ks:List JV} {d:Int} (hd:d<8) (h1:NmK 0 ns) (h2:k=6→ns.length=ks.length) (h3:k=5→ns=[]) (h4:∀ x∈ks,mayJ x (d+1)=true):mayJ (.mk k false 0 [] ns ks) d=true:=by
 have hv:(nam4.all fun t=>(List.range 4).all fun j=>validT (t++[UInt8.ofNat (48+j)]))=true:=by kernel_rfl
 have hn:namesOk ns=true:=namesOk_of (fun x hx=>by
  obtain ⟨t,ht,j,q1,q2,rfl⟩:=h1.1 x hx
  exact List.all_eq_true.1 (List.all_eq_true.1 hv t ht) j sO) h1.2
 have hk2:(ks.any fun x => !mayJ x (d+1))=false:=by
  rw [List.any_eq_false]
  intro x hx
  rw [h4 x hx];decide
 rw [mayJ,anyNot_eq,hk2,decide_eq_true hd]
 rcases hk with rfl | rfl
 ·rw [h3 rfl]
  have:aloneJ (.mk 5 false 0 [] [] ks)=true:=by
   unfold aloneJ a6 a7 a8
   show (!(false||false||false||false||false||(bif decide ((ks.length:Int)>0) then !true else false)||(bif decide ((0:Int)>0) then true else false))&&true)=true
   cases decide ((ks.length:Int)>0)<;>rfl
  rw [this];rfl
 ·have:aloneJ (.mk 6 false 0 [] ns ks)=true:=by
   unfold aloneJ a6 a7 a8
   show (!(false||false||false||false||false||(bif decide ((ks.length:Int)>0) then !true else false)||(bif decide ((ns.length:Int)>0) then false else false))&&(bif validT [] then bif false then true else (namesOk ns&&(ns.length:Int)==(ks.length:Int)) else false))=true
   rw [hn,h2 rfl,show validT []=true from rfl]
   cases decide ((ks.length:Int)>0)<;>simp
  rw [this];rfl
theorem may_val (ns:List Int):∀ (n a:Nat) (d:Int),d+n≤8→mayJ (valT ns n a).1 d=true
 | 0,a,d,h=>may_leaf ns _ _ d
 | n+1,a,d,h=>by
  unfold valT
  split
  ·exact may_leaf ns _ _ d
  ·have r4:=nextV_rng ns (nextA ns a 9) 4 dC
   obtain ⟨k1,k2,k3,k4⟩:=may_kids (valT ns n) (d+1) (fun a=>may_val ns n a (d+1) oM) ns (decide (nextV ns a 9>6)) (nextV ns (nextA ns a 9) 4).toNat (nextA ns (nextA ns a 9) 4) [] [] oM ⟨fun x hx=>(by cases hx),List.Pairwise.nil⟩ (fun _=>rfl) (fun _=>rfl) (fun x hx=>(by cases hx))
   by_cases hg:nextV ns a 9>6
   ·rw [decide_eq_true hg] at k1 k2 k3 k4 ⊢
    rw [if_pos hg]
    exact may_many (.inr rfl) oM k1 (fun _=>k2 rfl) (fun h=>by cases h) k4
   ·rw [decide_eq_false hg] at k1 k2 k3 k4 ⊢
    rw [if_neg hg]
    exact may_many (.inl rfl) oM k1 (fun h=>by cases h) (fun _=>k3 rfl) k4
theorem tell_may {r:RT} (hs:statedT r.status=true) (hh:headT r.head r.body=true) (ha:(aheadT (toldM r)).length≤2048):mayTell r=true:=by
 unfold mayTell
 rw [hs,mayM_eq,show (toldM r).head=r.head from rfl,show (toldM r).body=r.body from rfl,hh,decide_eq_true oM];rfl
theorem ahead_le (r:RT) (h0:0≤r.status) (h1:r.status≤1000) {n:Nat} (hb:r.body.length≤5000) (hf:(r.head.flatMap fieldL).length≤n) (hn:n≤1900):(aheadT (toldM r)).length≤2048:=by
 have hi:(Lib.itoa r.status).length≤21:=Lib.itoa_length_le _ oM oM
 have hr:=reason_len r.status
 have hb2:(Lib.itoa (r.body.length:Int)).length≤21:=Lib.itoa_length_le _ oM oM
 unfold aheadT headN lenL toldM
 simp only [List.take_length,List.length_append,List.length_cons,List.length_nil]
 split
 ·simp only [List.length_nil];omega
 ·simp only [List.length_append,List.length_cons,List.length_nil];omega
end Go.Proofs.Tw
end
section
open Go Go.Sv Go.RowKit
namespace Go.Proofs.Tw
attribute [local irreducible] Wp FinQ resV Ent Pur Go.Sv.Fn Sat0
set_option maxRecDepth 100000
set_option maxHeartbeats 4000000
variable {G:Nat→Option (List Cell)}
def hexI (c:UInt8):Int:=if 48≤c∧c≤57 then (c.toNat:Int)-48 else if 65≤c∧c≤70 then (c.toNat:Int)-55 else -1
theorem hexI_cases (c:UInt8):(48≤c.toNat∧c.toNat≤57∧hexI c=(c.toNat:Int)-48)∨(65≤c.toNat∧c.toNat≤70∧hexI c=(c.toNat:Int)-55)∨(¬ (48≤c.toNat∧c.toNat≤57)∧¬ (65≤c.toNat∧c.toNat≤70)∧hexI c = -1):=by
 unfold hexI
 have e1:(48≤c∧c≤57)↔(48≤c.toNat∧c.toNat≤57):=by
  rw [UInt8.le_iff_toNat_le,UInt8.le_iff_toNat_le];exact Iff.rfl
 have e2:(65≤c∧c≤70)↔(65≤c.toNat∧c.toNat≤70):=by
  rw [UInt8.le_iff_toNat_le,UInt8.le_iff_toNat_le];exact Iff.rfl
 by_cases h1:48≤c.toNat∧c.toNat≤57
 ·rw [if_pos (e1.2 h1)];exact .inl ⟨h1.1,h1.2,rfl⟩
 ·rw [if_neg (fun h=>h1 (e1.1 h))]
  by_cases h2:65≤c.toNat∧c.toNat≤70
  ·rw [if_pos (e2.2 h2)];exact .inr (.inl ⟨h2.1,h2.2,rfl⟩)
  ·rw [if_neg (fun h=>h2 (e2.1 h))];exact .inr (.inr ⟨h1,h2,rfl⟩)
theorem digit7_ok (c:UInt8):Pur Tryz.prog G 219 [.c (.int .u8 (c.toNat:Int))] [.c (.int .i64 (hexI c))]:=by
 refine zp Tryz.func219 ?_
 rcases hexI_cases c with ⟨h1,h2,h⟩ | ⟨h1,h2,h⟩ | ⟨h1,h2,h⟩
 ·rw [h]
  have ht:(bif decide ((c.toNat:Int)≥48) then decide ((c.toNat:Int)≤57) else false)=true:=by rw [decide_eq_true oM,decide_eq_true oM];rfl
  have ew:EqvD (.c (.int .u8 (IntKind.u8.wrap ((c.toNat:Int)-48)))) (.c (.int .u8 ((c.toNat:Int)-48))):=eqvD_of (by rw [wrap8 oM oM])
  have ew2:EqvD (.c (.int .i64 (IntKind.i64.wrap ((c.toNat:Int)-48)))) (.c (.int .i64 ((c.toNat:Int)-48))):=eqvD_of (by rw [wrap64 oM oM])
  refine zg [(2,{fm:=[(1,.c (.int .u8 ((c.toNat:Int)-48))),(2,.c (.int .i64 ((c.toNat:Int)-48)))]})] [true] [(bif decide ((c.toNat:Int)≥(48:Int)) then decide ((c.toNat:Int)≤(57:Int)) else false)=true,EqvI (.c (.int .u8 (IntKind.u8.wrap ((c.toNat:Int)-(48:Int))))) (.c (.int .u8 ((c.toNat:Int)-(48:Int)))),EqvD (.c (.int .u8 (IntKind.u8.wrap ((c.toNat:Int)-(48:Int))))) (.c (.int .u8 ((c.toNat:Int)-(48:Int)))),EqvI (.c (.int .i64 (IntKind.i64.wrap ((c.toNat:Int)-(48:Int))))) (.c (.int .i64 ((c.toNat:Int)-(48:Int)))),EqvD (.c (.int .i64 (IntKind.i64.wrap ((c.toNat:Int)-(48:Int))))) (.c (.int .i64 ((c.toNat:Int)-(48:Int))))] ⟨aS,fun _ _=>trivial,aS,fun _ _=>trivial,(show EqvD (.c (.int .i64 (IntKind.i64.wrap ((↑c.toNat:Int)-(48:Int))))) (.c (.int .i64 ((↑c.toNat:Int)-(48:Int)))) from aS)⟩ ?_
  exact zr
 ·rw [h]
  have ht:(bif decide ((c.toNat:Int)≥48) then decide ((c.toNat:Int)≤57) else false)=false:=by rw [decide_eq_false (show ¬ (c.toNat:Int)≤57 by omega)];simp
  have ht2:(bif decide ((c.toNat:Int)≥65) then decide ((c.toNat:Int)≤70) else false)=true:=by rw [decide_eq_true oM,decide_eq_true oM];rfl
  have ew:EqvD (.c (.int .u8 (IntKind.u8.wrap ((c.toNat:Int)-65)))) (.c (.int .u8 ((c.toNat:Int)-65))):=eqvD_of (by rw [wrap8 oM oM])
  have ew2:EqvD (.c (.int .i64 (IntKind.i64.wrap ((c.toNat:Int)-65)))) (.c (.int .i64 ((c.toNat:Int)-65))):=eqvD_of (by rw [wrap64 oM oM])
  have ew3:EqvD (.c (.int .i64 ((c.toNat:Int)-65+10))) (.c (.int .i64 ((c.toNat:Int)-55))):=eqvD_of (by rw [show (c.toNat:Int)-65+10=(c.toNat:Int)-55 by omega])
  refine zg [(4,{fm:=[(1,.c (.int .u8 ((c.toNat:Int)-65))),(2,.c (.int .i64 ((c.toNat:Int)-65))),(3,.c (.int .i64 ((c.toNat:Int)-55)))]})] [false,true] [(bif decide ((c.toNat:Int)≥(48:Int)) then decide ((c.toNat:Int)≤(57:Int)) else false)=false,(bif decide ((c.toNat:Int)≥(65:Int)) then decide ((c.toNat:Int)≤(70:Int)) else false)=true,EqvI (.c (.int .u8 (IntKind.u8.wrap ((c.toNat:Int)-(65:Int))))) (.c (.int .u8 ((c.toNat:Int)-(65:Int)))),EqvD (.c (.int .u8 (IntKind.u8.wrap ((c.toNat:Int)-(65:Int))))) (.c (.int .u8 ((c.toNat:Int)-(65:Int)))),EqvI (.c (.int .i64 (IntKind.i64.wrap ((c.toNat:Int)-(65:Int))))) (.c (.int .i64 ((c.toNat:Int)-(65:Int)))),EqvD (.c (.int .i64 (IntKind.i64.wrap ((c.toNat:Int)-(65:Int))))) (.c (.int .i64 ((c.toNat:Int)-(65:Int)))),EqvI (.c (.int .i64 ((c.toNat:Int)-(65:Int)+(10:Int)))) (.c (.int .i64 ((c.toNat:Int)-(55:Int)))),EqvD (.c (.int .i64 ((c.toNat:Int)-(65:Int)+(10:Int)))) (.c (.int .i64 ((c.toNat:Int)-(55:Int)))),inR .i64 ((c.toNat:Int)-(65:Int)+(10:Int))] ⟨aS,aS,fun _ _=>trivial,aS,fun _ _=>trivial,aS,fun _ _=>trivial,aS,i6⟩ ?_
  exact zr
 ·rw [h]
  have ht:(bif decide ((c.toNat:Int)≥48) then decide ((c.toNat:Int)≤57) else false)=false:=by
   by_cases hh:(c.toNat:Int)≥48
   ·rw [decide_eq_true hh,decide_eq_false (show ¬ (c.toNat:Int)≤57 by omega)];rfl
   ·rw [decide_eq_false hh];rfl
  have ht2:(bif decide ((c.toNat:Int)≥65) then decide ((c.toNat:Int)≤70) else false)=false:=by
   by_cases hh:(c.toNat:Int)≥65
   ·rw [decide_eq_true hh,decide_eq_false (show ¬ (c.toNat:Int)≤70 by omega)];rfl
   ·rw [decide_eq_false hh];rfl
  refine zg [] [false,false] [(bif decide ((c.toNat:Int)≥(48:Int)) then decide ((c.toNat:Int)≤(57:Int)) else false)=false,(bif decide ((c.toNat:Int)≥(65:Int)) then decide ((c.toNat:Int)≤(70:Int)) else false)=false] ⟨aS,(show (bif decide ((↑c.toNat:Int)≥(65:Int)) then decide ((↑c.toNat:Int)≤(70:Int)) else false)=false from aS)⟩ ?_
  exact zr
def decL (form:Bool):List UInt8→Option (List UInt8)
 | []=>some []
 | c::r=>if plainB c then (decL form r).map (c::·) else if form&&c==43 then (decL form r).map (32::·) else if c==37 then match r with
  | a::b::t=>if hexI a≥0∧hexI b≥0 then (decL form t).map (UInt8.ofNat (hexI a*16+hexI b).toNat::·) else none
  | _=>none
  else none
def decT (form:Bool) (s:List UInt8):List UInt8×Int:=match decL form s with
 | none=>([],3)
 | some t=>if pctT form t=s then (t,0) else ([],3)
theorem decL_plain {form:Bool} {c:UInt8} {r:List UInt8} (h:plainB c=true):decL form (c::r)=(decL form r).map (c::·):=by
 rw [decL.eq_def];simp only [h,if_true]
theorem decL_plus {form:Bool} {c:UInt8} {r:List UInt8} (h:plainB c=false) (h2:(form&&c==43)=true):decL form (c::r)=(decL form r).map (32::·):=by
 rw [decL.eq_def];simp only [h,h2,if_true];rfl
theorem decL_bad {form:Bool} {c:UInt8} {r:List UInt8} (h:plainB c=false) (h2:(form&&c==43)=false) (h3:(c==37)=false):decL form (c::r)=none:=by
 rw [decL.eq_def];simp only [h,h2,h3];rfl
theorem decL_hex {form:Bool} {a b:UInt8} {t:List UInt8} (ha:hexI a≥0) (hb:hexI b≥0):decL form (37::a::b::t)=(decL form t).map (UInt8.ofNat (hexI a*16+hexI b).toNat::·):=by
 rw [decL.eq_def]
 have h1:plainB 37=false:=rfl
 have h2:(form&&(37:UInt8)==43)=false:=by cases form<;>rfl
 simp only [h1,h2]
 rw [if_neg dC,if_neg dC,if_pos dC,if_pos ⟨ha,hb⟩]
theorem decL_hex_no {form:Bool} {r:List UInt8} (h:∀ a b t,r=a::b::t→¬ (hexI a≥0∧hexI b≥0)):decL form (37::r)=none:=by
 rw [decL.eq_def]
 have h1:plainB 37=false:=rfl
 have h2:(form&&(37:UInt8)==43)=false:=by cases form<;>rfl
 simp only [h1,h2]
 rw [if_neg dC,if_neg dC,if_pos dC]
 match r,h with
 | [],_=>rfl
 | [a],_=>rfl
 | a::b::t,h=>exact if_neg (h a b t rfl)
theorem hexI_rng (c:UInt8) : -1≤hexI c∧hexI c≤15:=by
 rcases hexI_cases c with ⟨h1,h2,h⟩ | ⟨h1,h2,h⟩ | ⟨h1,h2,h⟩<;>omega
theorem map_app (o:Option (List UInt8)) (acc:List UInt8) (c:UInt8):((o.map (c::·)).map (acc++·))=o.map ((acc++[c])++·):=by
 cases o<;>simp
theorem dec7_ok (s:List UInt8) (form:Bool) (hl:s.length≤10000000000):Pur Tryz.prog G 178 [.c (.str s),.c (.bool form)] [.c (.str (decT form s).1),.c (.int .i64 (decT form s).2)]:=by
 refine zp Tryz.func178 ?_
 refine z0 [] [] ?_
 refine Wp.loopK kR (fun (x:Nat×Nat×List UInt8)=>⟨[(0,.v (.c (.str s))),(1,.v (.c (.bool form))),(6,.v (.c (.row 1 64 0 x.2.1))),(7,.v (.c (.int .i64 (x.1:Int))))],[(64,.row 5 1 x.2.1 (bytesF x.2.2))],80⟩) (fun x=>x.1≤s.length∧x.2.1=x.2.2.length∧x.2.1≤x.1∧decL form s=(decL form (s.drop x.1)).map (x.2.2++·)) (fun x=>s.length-x.1) (0,0,[]) (Ent.trans (Ent.empT (t:=6) (sz:=1) (e:=5) (f:=(bytesF [])) dC kR rfl) (Ent.of [] kR kR kR trivial)) ⟨Nat.zero_le _,rfl,Nat.le_refl _,(show decL form s=(decL form s).map ([]++·) by generalize decL form s=o;cases o<;>rfl)⟩ ?_
 rintro ⟨k,n,l⟩ L ⟨hk,hn,hnk,hq⟩ again
 simp only at hk hn hnk hq
 rcases Nat.lt_or_ge k s.length with hlt | hge
 ·rw [dropS s k hlt] at hq
  have c0:=plain6_ok (G:=G) (s.getD k 0)
  have h43:(bif form then ((s.getD k 0).toNat:Int)==43 else false)=(form&&s.getD k 0==43):=by
   rw [Bool.cond_false_right,show (((s.getD k 0).toNat:Int)==43)=(s.getD k 0==43) from ibeq _ 43]
  have h37:(((s.getD k 0).toNat:Int)==37)=(s.getD k 0==37):=ibeq _ 37
  cases hp:plainB (s.getD k 0) with
  | true =>
   rw [hp] at c0
   rw [decL_plain hp,map_app] at hq
   have e1:BlkEqv (.row 5 1 (n+1) (catF n (bytesF l) (fun i j=>nthD [.int .u8 ((s.getD k 0).toNat:Int)] ((0+i)*1+j)))) (.row 5 1 (n+1) (bytesF (l++[s.getD k 0]))):=bytes_app l [s.getD k 0] hn
   have hn':n+1=(l++[s.getD k 0]).length:=by simp [hn]
   clear h43 h37 hp
   refine zg [(8,{bs:=[(3,.row 5 1 (n+1) (bytesF (l++[s.getD k 0])))]}),(7,{cs:=[(1,pc c0)]})] [true,true] [decide ((k:Int)<(s.length:Int))=true,(0:Int)≤(k:Int)∧(k:Int)<(s.length:Int),true=true,(n+1)*1≤140737488355328,BlkEqv (.row 5 (1:Nat) (n+(1:Nat)) (catF n (bytesF l) fun i j=>nthD [.int .u8 (↑(s.getD k (0:UInt8)).toNat:Int)] (((0:Nat)+i)*(1:Nat)+j))) (.row 5 (1:Nat) (n+(1:Nat)) (bytesF (l++[s.getD k (0:UInt8)]))),n≤n,0+1≤1,inR .i64 ((k:Int)+1)] ⟨sO,oM,rfl,oM,aS,oM,oM,i6⟩ ?_
   exact za [(64,304)] (again _ (k+1,n+1,l++[s.getD k 0]) ⟨aS,⟨aS,⟨sO,aS⟩⟩⟩ oM)
  | false =>
   rw [hp] at c0
   cases hf:(form&&s.getD k 0==43) with
   | true =>
    rw [hf] at h43
    rw [decL_plus hp hf,map_app] at hq
    have e1:BlkEqv (.row 5 1 (n+1) (catF n (bytesF l) (fun i j=>nthD [.int .u8 (32:Int)] ((0+i)*1+j)))) (.row 5 1 (n+1) (bytesF (l++[32]))):=bytes_app l [32] hn
    have hn':n+1=(l++[32]).length:=by simp [hn]
    clear h37 hp hf
    refine zg [(10,{bs:=[(2,.row 5 1 (n+1) (bytesF (l++[32])))]}),(7,{cs:=[(1,pc c0)]})] [true,false,true] [decide ((k:Int)<(s.length:Int))=true,(0:Int)≤(k:Int)∧(k:Int)<(s.length:Int),false=false,(bif form then (↑(s.getD k (0:UInt8)).toNat:Int)==(43:Int) else false)=true,(n+1)*1≤140737488355328,BlkEqv (.row 5 (1:Nat) (n+(1:Nat)) (catF n (bytesF l) fun i j=>nthD [.int .u8 32] (((0:Nat)+i)*(1:Nat)+j))) (.row 5 (1:Nat) (n+(1:Nat)) (bytesF (l++[(32:UInt8)]))),n≤n,0+1≤1,inR .i64 ((k:Int)+1)] ⟨sO,oM,rfl,aS,oM,aS,oM,oM,i6⟩ ?_
    exact za [(64,384)] (again _ (k+1,n+1,l++[32]) ⟨aS,⟨aS,⟨sO,aS⟩⟩⟩ oM)
   | false =>
    rw [hf] at h43
    cases h3:(s.getD k 0==37) with
    | false =>
     rw [h3] at h37
     rw [decL_bad hp hf h3] at hq
     have hT:decT form s=([],3):=by unfold decT;rw [hq];rfl
     rw [hT]
     have ht:(bif bif bif ((s.getD k 0).toNat:Int)==37 then decide ((k:Int)+2<(s.length:Int)) else false then decide (hexI (s.getD (k+1) 0)≥0) else false then decide (hexI (s.getD (k+2) 0)≥0) else false)=false:=by rw [h37];rfl
     have c1:=digit7_ok (G:=G) (s.getD (k+1) 0)
     have c2:=digit7_ok (G:=G) (s.getD (k+2) 0)
     clear hp hf h3 hT hq again
     refine zg [(7,{cs:=[(1,pc c0)]}),(11,{cs:=[(14,pc c1),(22,pc c2)]})] [true,false,false,false] [decide ((k:Int)<(s.length:Int))=true,(0:Int)≤(k:Int)∧(k:Int)<(s.length:Int),false=false,(bif form then (↑(s.getD k (0:UInt8)).toNat:Int)==(43:Int) else false)=false,((↑(s.getD k (0:UInt8)).toNat:Int)==(37:Int))=true→inR .i64 ((k:Int)+(2:Int)),(bif (↑(s.getD k (0:UInt8)).toNat:Int)==(37:Int) then decide ((k:Int)+(2:Int)<(s.length:Int)) else false)=true→inR .i64 ((k:Int)+(1:Int)),(bif (↑(s.getD k (0:UInt8)).toNat:Int)==(37:Int) then decide ((k:Int)+(2:Int)<(s.length:Int)) else false)=true→(0:Int)≤(k:Int)+(1:Int)∧(k:Int)+(1:Int)<(s.length:Int),(bif bif (↑(s.getD k (0:UInt8)).toNat:Int)==(37:Int) then decide ((k:Int)+(2:Int)<(s.length:Int)) else false then decide (hexI (s.getD (k+(1:Nat)) (0:UInt8))≥(0:Int)) else false)=true→inR .i64 ((k:Int)+(2:Int)),(bif bif (↑(s.getD k (0:UInt8)).toNat:Int)==(37:Int) then decide ((k:Int)+(2:Int)<(s.length:Int)) else false then decide (hexI (s.getD (k+(1:Nat)) (0:UInt8))≥(0:Int)) else false)=true→(0:Int)≤(k:Int)+(2:Int)∧(k:Int)+(2:Int)<(s.length:Int),(bif bif bif (↑(s.getD k (0:UInt8)).toNat:Int)==(37:Int) then decide ((k:Int)+(2:Int)<(s.length:Int)) else false then decide (hexI (s.getD (k+(1:Nat)) (0:UInt8))≥(0:Int)) else false then decide (hexI (s.getD (k+(2:Nat)) (0:UInt8))≥(0:Int)) else false)=false] ⟨sO,oM,rfl,aS,(fun _=>i6),(fun _=>i6),sO,(fun _=>i6),sO,(show (bif bif bif (↑(s.getD k (0:UInt8)).toNat:Int)==(37:Int) then decide ((↑k:Int)+(2:Int)<(↑s.length:Int)) else false then decide (hexI (s.getD (k+(1:Nat)) (0:UInt8))≥(0:Int)) else false then decide (hexI (s.getD (k+(2:Nat)) (0:UInt8))≥(0:Int)) else false)=false from aS)⟩ ?_
     exact zr
    | true =>
     rw [h3] at h37
     have hc:=eq_of_beq h3
     have c1:=digit7_ok (G:=G) (s.getD (k+1) 0)
     have c2:=digit7_ok (G:=G) (s.getD (k+2) 0)
     have r1:=hexI_rng (s.getD (k+1) 0)
     have r2:=hexI_rng (s.getD (k+2) 0)
     by_cases h2:k+2<s.length
     ·have hd1:s.drop (k+1)=s.getD (k+1) 0::s.getD (k+2) 0::s.drop (k+2+1):=by rw [dropS s (k+1) oM,dropS s (k+1+1) oM]
      rw [hd1] at hq
      have hlt2:decide ((k:Int)+2<(s.length:Int))=true:=by simp;omega
      by_cases hh:hexI (s.getD (k+1) 0)≥0∧hexI (s.getD (k+2) 0)≥0
      ·rw [hc,decL_hex hh.1 hh.2,map_app] at hq
       have ht:(bif bif bif ((s.getD k 0).toNat:Int)==37 then decide ((k:Int)+2<(s.length:Int)) else false then decide (hexI (s.getD (k+1) 0)≥0) else false then decide (hexI (s.getD (k+2) 0)≥0) else false)=true:=by rw [h37,hlt2,decide_eq_true hh.1,decide_eq_true hh.2];rfl
       obtain ⟨z,hz⟩:∃ z:Nat,hexI (s.getD (k+1) 0)*16+hexI (s.getD (k+2) 0)=(z:Int):=Int.eq_ofNat_of_zero_le oM
       have hz2:z<256:=by omega
       have hzo:UInt8.ofNat (hexI (s.getD (k+1) 0)*16+hexI (s.getD (k+2) 0)).toNat=UInt8.ofNat z:=by rw [hz];rfl
       rw [hzo] at hq
       have hzn:((UInt8.ofNat z).toNat:Int)=(z:Int):=by rw [UInt8.toNat_ofNat'];omega
       have e0:EqvD (.c (.int .u8 (IntKind.u8.wrap (hexI (s.getD (k+1) 0)*16+hexI (s.getD (k+2) 0))))) (.c (.int .u8 ((UInt8.ofNat z).toNat:Int))):=eqvD_of (by rw [hz,hzn,wrap8 oM oM])
       have e1:BlkEqv (.row 5 1 (n+1) (catF n (bytesF l) (fun i j=>nthD [.int .u8 ((UInt8.ofNat z).toNat:Int)] ((0+i)*1+j)))) (.row 5 1 (n+1) (bytesF (l++[UInt8.ofNat z]))):=bytes_app l [UInt8.ofNat z] hn
       have hn':n+1=(l++[UInt8.ofNat z]).length:=by simp [hn]
       have e2:EqvD (.c (.int .i64 ((k:Int)+2))) (.c (.int .i64 ((k+2:Nat):Int))):=eqvD_of (by rw [show (k:Int)+2=((k+2:Nat):Int) by omega])
       clear hp hf h3 hd1 hzo hzn
       refine zg [(12,{cs:=[(5,pc c1),(11,pc c2)],fm:=[(13,.c (.int .u8 ((UInt8.ofNat z).toNat:Int)))],bs:=[(15,.row 5 1 (n+1) (bytesF (l++[UInt8.ofNat z])))]}),(13,{fm:=[(1,.c (.int .i64 ((k+2:Nat):Int)))]}),(7,{cs:=[(1,pc c0)]}),(11,{cs:=[(14,pc c1),(22,pc c2)]})] [true,false,false,true] [decide ((k:Int)<(s.length:Int))=true,(0:Int)≤(k:Int)∧(k:Int)<(s.length:Int),false=false,(bif form then (↑(s.getD k (0:UInt8)).toNat:Int)==(43:Int) else false)=false,((↑(s.getD k (0:UInt8)).toNat:Int)==(37:Int))=true→inR .i64 ((k:Int)+(2:Int)),(bif (↑(s.getD k (0:UInt8)).toNat:Int)==(37:Int) then decide ((k:Int)+(2:Int)<(s.length:Int)) else false)=true→inR .i64 ((k:Int)+(1:Int)),(bif (↑(s.getD k (0:UInt8)).toNat:Int)==(37:Int) then decide ((k:Int)+(2:Int)<(s.length:Int)) else false)=true→(0:Int)≤(k:Int)+(1:Int)∧(k:Int)+(1:Int)<(s.length:Int),(bif bif (↑(s.getD k (0:UInt8)).toNat:Int)==(37:Int) then decide ((k:Int)+(2:Int)<(s.length:Int)) else false then decide (hexI (s.getD (k+(1:Nat)) (0:UInt8))≥(0:Int)) else false)=true→inR .i64 ((k:Int)+(2:Int)),(bif bif (↑(s.getD k (0:UInt8)).toNat:Int)==(37:Int) then decide ((k:Int)+(2:Int)<(s.length:Int)) else false then decide (hexI (s.getD (k+(1:Nat)) (0:UInt8))≥(0:Int)) else false)=true→(0:Int)≤(k:Int)+(2:Int)∧(k:Int)+(2:Int)<(s.length:Int),(bif bif bif (↑(s.getD k (0:UInt8)).toNat:Int)==(37:Int) then decide ((k:Int)+(2:Int)<(s.length:Int)) else false then decide (hexI (s.getD (k+(1:Nat)) (0:UInt8))≥(0:Int)) else false then decide (hexI (s.getD (k+(2:Nat)) (0:UInt8))≥(0:Int)) else false)=true,inR .i64 ((k:Int)+1),(0:Int)≤(k:Int)+(1:Int)∧(k:Int)+(1:Int)<(s.length:Int),inR .i64 (hexI (s.getD (k+(1:Nat)) (0:UInt8))*(16:Int)),inR .i64 ((k:Int)+2),(0:Int)≤(k:Int)+(2:Int)∧(k:Int)+(2:Int)<(s.length:Int),inR .i64 (hexI (s.getD (k+(1:Nat)) (0:UInt8))*(16:Int)+hexI (s.getD (k+(2:Nat)) (0:UInt8))),EqvI (.c (.int .u8 (IntKind.u8.wrap (hexI (s.getD (k+(1:Nat)) (0:UInt8))*(16:Int)+hexI (s.getD (k+(2:Nat)) (0:UInt8)))))) (.c (.int .u8 (↑(UInt8.ofNat z).toNat:Int))),EqvD (.c (.int .u8 (IntKind.u8.wrap (hexI (s.getD (k+(1:Nat)) (0:UInt8))*(16:Int)+hexI (s.getD (k+(2:Nat)) (0:UInt8)))))) (.c (.int .u8 (↑(UInt8.ofNat z).toNat:Int))),(n+1)*1≤140737488355328,BlkEqv (.row 5 (1:Nat) (n+(1:Nat)) (catF n (bytesF l) fun i j=>nthD [.int .u8 (↑(UInt8.ofNat z).toNat:Int)] (((0:Nat)+i)*(1:Nat)+j))) (.row 5 (1:Nat) (n+(1:Nat)) (bytesF (l++[UInt8.ofNat z]))),n≤n,0+1≤1,EqvI (.c (.int .i64 ((k:Int)+(2:Int)))) (.c (.int .i64 (↑(k+(2:Nat)):Int))),EqvD (.c (.int .i64 ((k:Int)+(2:Int)))) (.c (.int .i64 (↑(k+(2:Nat)):Int))),inR .i64 ((k:Int)+2),inR .i64 ((↑(k+(2:Nat)):Int)+(1:Int))] ⟨sO,oM,rfl,aS,(fun _=>i6),(fun _=>i6),oM,(fun _=>i6),oM,aS,i6,oM,i6,i6,oM,i6,fun _ _=>trivial,aS,oM,aS,oM,oM,fun _ _=>trivial,aS,i6,i6⟩ ?_
       exact za [(64,1008)] (again _ (k+2+1,n+1,l++[UInt8.ofNat z]) ⟨aS,⟨aS,⟨sO,aS⟩⟩⟩ oM)
      ·rw [hc,decL_hex_no (fun a b t e=>by cases e;exact hh)] at hq
       have hT:decT form s=([],3):=by unfold decT;rw [hq];rfl
       rw [hT]
       have ht:(bif bif bif ((s.getD k 0).toNat:Int)==37 then decide ((k:Int)+2<(s.length:Int)) else false then decide (hexI (s.getD (k+1) 0)≥0) else false then decide (hexI (s.getD (k+2) 0)≥0) else false)=false:=by
        rw [h37,hlt2]
        by_cases ha:hexI (s.getD (k+1) 0)≥0
        ·rw [decide_eq_true ha,decide_eq_false (fun hb=>hh ⟨ha,hb⟩)];rfl
        ·rw [decide_eq_false ha];rfl
       clear hp hf h3 hT hq again
       refine zg [(7,{cs:=[(1,pc c0)]}),(11,{cs:=[(14,pc c1),(22,pc c2)]})] [true,false,false,false] [decide ((k:Int)<(s.length:Int))=true,(0:Int)≤(k:Int)∧(k:Int)<(s.length:Int),false=false,(bif form then (↑(s.getD k (0:UInt8)).toNat:Int)==(43:Int) else false)=false,((↑(s.getD k (0:UInt8)).toNat:Int)==(37:Int))=true→inR .i64 ((k:Int)+(2:Int)),(bif (↑(s.getD k (0:UInt8)).toNat:Int)==(37:Int) then decide ((k:Int)+(2:Int)<(s.length:Int)) else false)=true→inR .i64 ((k:Int)+(1:Int)),(bif (↑(s.getD k (0:UInt8)).toNat:Int)==(37:Int) then decide ((k:Int)+(2:Int)<(s.length:Int)) else false)=true→(0:Int)≤(k:Int)+(1:Int)∧(k:Int)+(1:Int)<(s.length:Int),(bif bif (↑(s.getD k (0:UInt8)).toNat:Int)==(37:Int) then decide ((k:Int)+(2:Int)<(s.length:Int)) else false then decide (hexI (s.getD (k+(1:Nat)) (0:UInt8))≥(0:Int)) else false)=true→inR .i64 ((k:Int)+(2:Int)),(bif bif (↑(s.getD k (0:UInt8)).toNat:Int)==(37:Int) then decide ((k:Int)+(2:Int)<(s.length:Int)) else false then decide (hexI (s.getD (k+(1:Nat)) (0:UInt8))≥(0:Int)) else false)=true→(0:Int)≤(k:Int)+(2:Int)∧(k:Int)+(2:Int)<(s.length:Int),(bif bif bif (↑(s.getD k (0:UInt8)).toNat:Int)==(37:Int) then decide ((k:Int)+(2:Int)<(s.length:Int)) else false then decide (hexI (s.getD (k+(1:Nat)) (0:UInt8))≥(0:Int)) else false then decide (hexI (s.getD (k+(2:Nat)) (0:UInt8))≥(0:Int)) else false)=false] ⟨sO,oM,rfl,aS,(fun _=>i6),(fun _=>i6),oM,(fun _=>i6),oM,(show (bif bif bif (↑(s.getD k (0:UInt8)).toNat:Int)==(37:Int) then decide ((↑k:Int)+(2:Int)<(↑s.length:Int)) else false then decide (hexI (s.getD (k+(1:Nat)) (0:UInt8))≥(0:Int)) else false then decide (hexI (s.getD (k+(2:Nat)) (0:UInt8))≥(0:Int)) else false)=false from aS)⟩ ?_
       exact zr
     ·have hno:∀ a b t,s.drop (k+1)=a::b::t→¬ (hexI a≥0∧hexI b≥0):=fun a b t e=>by
       have:=congrArg List.length e
       simp at this
       omega
      rw [hc,decL_hex_no hno] at hq
      have hT:decT form s=([],3):=by unfold decT;rw [hq];rfl
      rw [hT]
      have hlt2:decide ((k:Int)+2<(s.length:Int))=false:=by simp;omega
      have ht:(bif bif bif ((s.getD k 0).toNat:Int)==37 then decide ((k:Int)+2<(s.length:Int)) else false then decide (hexI (s.getD (k+1) 0)≥0) else false then decide (hexI (s.getD (k+2) 0)≥0) else false)=false:=by rw [h37,hlt2];rfl
      clear hp hf h3 hT hq again
      refine zg [(7,{cs:=[(1,pc c0)]}),(11,{cs:=[(14,pc c1),(22,pc c2)]})] [true,false,false,false] [decide ((k:Int)<(s.length:Int))=true,(0:Int)≤(k:Int)∧(k:Int)<(s.length:Int),false=false,(bif form then (↑(s.getD k (0:UInt8)).toNat:Int)==(43:Int) else false)=false,((↑(s.getD k (0:UInt8)).toNat:Int)==(37:Int))=true→inR .i64 ((k:Int)+(2:Int)),(bif (↑(s.getD k (0:UInt8)).toNat:Int)==(37:Int) then decide ((k:Int)+(2:Int)<(s.length:Int)) else false)=true→inR .i64 ((k:Int)+(1:Int)),(bif (↑(s.getD k (0:UInt8)).toNat:Int)==(37:Int) then decide ((k:Int)+(2:Int)<(s.length:Int)) else false)=true→(0:Int)≤(k:Int)+(1:Int)∧(k:Int)+(1:Int)<(s.length:Int),(bif bif (↑(s.getD k (0:UInt8)).toNat:Int)==(37:Int) then decide ((k:Int)+(2:Int)<(s.length:Int)) else false then decide (hexI (s.getD (k+(1:Nat)) (0:UInt8))≥(0:Int)) else false)=true→inR .i64 ((k:Int)+(2:Int)),(bif bif (↑(s.getD k (0:UInt8)).toNat:Int)==(37:Int) then decide ((k:Int)+(2:Int)<(s.length:Int)) else false then decide (hexI (s.getD (k+(1:Nat)) (0:UInt8))≥(0:Int)) else false)=true→(0:Int)≤(k:Int)+(2:Int)∧(k:Int)+(2:Int)<(s.length:Int),(bif bif bif (↑(s.getD k (0:UInt8)).toNat:Int)==(37:Int) then decide ((k:Int)+(2:Int)<(s.length:Int)) else false then decide (hexI (s.getD (k+(1:Nat)) (0:UInt8))≥(0:Int)) else false then decide (hexI (s.getD (k+(2:Nat)) (0:UInt8))≥(0:Int)) else false)=false] ⟨sO,oM,rfl,aS,(fun _=>i6),(fun _=>i6),sO,(fun _=>i6),sO,(show (bif bif bif (↑(s.getD k (0:UInt8)).toNat:Int)==(37:Int) then decide ((↑k:Int)+(2:Int)<(↑s.length:Int)) else false then decide (hexI (s.getD (k+(1:Nat)) (0:UInt8))≥(0:Int)) else false then decide (hexI (s.getD (k+(2:Nat)) (0:UInt8))≥(0:Int)) else false)=false from aS)⟩ ?_
      exact zr
 ·rw [List.drop_of_length_le hge] at hq
  have hq:decL form s=some l:=by rw [hq];simp [decL]
  have ee:byteL (bytesF l) 0 n=l:=byteL_F l hn
  have ea:areBytes (bytesF l) 0 n:=areBytes_F _ _ _
  have ef:EqvD (.c (.str (byteL (bytesF l) 0 n))) (.c (.str l)):=eqvD_of (by rw [ee])
  have c1:=enc7_ok (G:=G) l form oM
  clear again
  by_cases hh:pctT form l=s
  ·have hT:decT form s=(l,0):=by unfold decT;rw [hq];exact if_pos hh
   rw [hT]
   have hb:(!(pctT form l==s))=false:=by rw [hh];simp
   clear hT hq hh
   refine zg [(14,{cs:=[(3,pc c1)],fm:=[(1,.c (.str l))]}),(16,{fm:=[(1,.c (.str l))]})] [false,false] [decide ((k:Int)<(s.length:Int))=false,EqvI (.c (.str (byteL (bytesF l) 0 n))) (.c (.str l)),EqvD (.c (.str (byteL (bytesF l) 0 n))) (.c (.str l)),0+n≤n,areBytes (bytesF l) 0 n,(!pctT form l==s)=false,EqvI (.c (.str (byteL (bytesF l) 0 n))) (.c (.str l)),EqvD (.c (.str (byteL (bytesF l) 0 n))) (.c (.str l)),0+n≤n,areBytes (bytesF l) 0 n] ⟨sO,fun _ _=>trivial,aS,oM,aS,aS,fun _ _=>trivial,aS,oM,(show areBytes (bytesF l) (0:Nat) n from aS)⟩ ?_
   exact zr
  ·have hT:decT form s=([],3):=by unfold decT;rw [hq];exact if_neg hh
   rw [hT]
   have hb:(!(pctT form l==s))=true:=by simp [hh]
   clear hT hq hh
   refine zg [(14,{cs:=[(3,pc c1)],fm:=[(1,.c (.str l))]})] [false,true] [decide ((k:Int)<(s.length:Int))=false,EqvI (.c (.str (byteL (bytesF l) 0 n))) (.c (.str l)),EqvD (.c (.str (byteL (bytesF l) 0 n))) (.c (.str l)),0+n≤n,areBytes (bytesF l) 0 n,(!pctT form l==s)=true] ⟨sO,fun _ _=>trivial,aS,oM,aS,(show (!pctT form l==s)=true from aS)⟩ ?_
   exact zr
def ptN (p:List UInt8):List UInt8×Int:=decT true (Lib.cut p [61]).1
def ptV (p:List UInt8):List UInt8×Int:=decT true (Lib.cut p [61]).2.1
def ptF (p:List UInt8):FT:=⟨(ptN p).1,(ptV p).1⟩
def ptBad (p:List UInt8):Bool:=bif bif bif !(Lib.cut p [61]).2.2 then true else (ptN p).2 != 0 then true else (ptV p).2 != 0 then true else (ptN p).1==[]
def partsP:List (List UInt8)→List FT→List FT×Int
 | [],acc=>(acc,0)
 | p::r,acc=>if ptBad p then ([],3) else if (fGet acc (ptF p).name).isSome then ([],6) else partsP r (acc++[ptF p])
def parseF (s:List UInt8):List FT×Int:=if s=[] then ([],0) else if (Lib.split s [38]).length>24 then ([],7) else partsP (Lib.split s [38]) []
theorem parse10_ok (s:List UInt8) (hl:s.length<1000000000):Pur Tryz.prog G 129 [.c (.str s)] [.c (encH (parseF s).1),.c (.int .i64 (parseF s).2)]:=by
 refine zp Tryz.func129 ?_
 have hnil:EqvD (.c .nilsl) (.c (encH [])):=nil_eqv _ _
 unfold parseF
 by_cases h0:s=[]
 ·rw [if_pos h0]
  have hb:(s==[])=true:=by rw [h0];rfl
  refine zg [(2,{fm:=[(0,.c (encH []))]})] [true] [(s==[])=true,EqvI (.c .nilsl) (.c (encH [])),EqvD (.c .nilsl) (.c (encH []))] ⟨aS,fun _ _=>trivial,(show EqvD (.c .nilsl) (.c (encH [])) from aS)⟩ ?_
  exact zr
 rw [if_neg h0]
 have hb:(s==[])=false:=by simpa using h0
 have c1:=parts_ok (G:=G) s [38] hl (by simp) dC
 have hel:=split_el s [38]
 generalize Lib.split s [38]=l at c1 hel
 by_cases h1:l.length>24
 ·rw [if_pos h1]
  have ht:decide ((l.length:Int)>24)=true:=by simp;omega
  refine zg [(5,{fm:=[(0,.c (encH []))]}),(3,{cs:=[(1,pc c1)]})] [false,true] [(s==[])=false,decide ((l.length:Int)>24)=true,EqvI (.c .nilsl) (.c (encH [])),EqvD (.c .nilsl) (.c (encH []))] ⟨aS,aS,fun _ _=>trivial,(show EqvD (.c .nilsl) (.c (encH [])) from aS)⟩ ?_
  exact zr
 rw [if_neg h1]
 have hgt:decide ((l.length:Int)>24)=false:=by simp;omega
 refine zg [(3,{cs:=[(1,pc c1)]})] [false,false] [(s==[])=false,decide ((l.length:Int)>24)=false] ⟨hb,hgt⟩ ?_
 refine Wp.loopK kR (fun (x:Nat×Nat×List FT)=>⟨[(4,.v (.c (.sl 1 l.length (strsF l)))),(5,.v (.c (.row 2 192 0 x.2.1))),(6,.v (.c (.int .i64 (x.1:Int))))],[(192,.row 55 2 x.2.1 (rowF encF .nil x.2.2))],208⟩) (fun x=>x.1≤l.length∧x.2.1=x.2.2.length∧x.2.1≤x.1∧partsP l []=partsP (l.drop x.1) x.2.2) (fun x=>l.length-x.1) (0,0,[]) (Ent.trans (Ent.empT (t:=5) (sz:=2) (e:=55) (f:=(rowF encF .nil [])) dC kR rfl) (Ent.of [] kR kR kR trivial)) ⟨Nat.zero_le _,rfl,Nat.le_refl _,rfl⟩ ?_
 rintro ⟨k,n,acc⟩ L ⟨hk,hn,hm,hq⟩ again
 simp only at hk hn hm hq
 rcases Nat.lt_or_ge k l.length with hlt | hge
 ·rw [dropM l [] k hlt,partsP] at hq
  have hp:=hel k
  have hc:=cut_len (l.getD k []) [61]
  have c2:=cut6_ok (G:=G) (l.getD k []) [61] oM (by simp) dC
  have c3:Pur Tryz.prog G 178 [.c (.str (Lib.cut (l.getD k []) [61]).1),.c (.bool true)] [.c (.str (ptN (l.getD k [])).1),.c (.int .i64 (ptN (l.getD k [])).2)]:=dec7_ok _ true oM
  have c4:Pur Tryz.prog G 178 [.c (.str (Lib.cut (l.getD k []) [61]).2.1),.c (.bool true)] [.c (.str (ptV (l.getD k [])).1),.c (.int .i64 (ptV (l.getD k [])).2)]:=dec7_ok _ true oM
  have c5:Pur Tryz.prog G 102 [.c (.sl 2 n (fldF acc)),.c (.str (ptN (l.getD k [])).1)] [.c (.bool (fGet acc (ptF (l.getD k [])).name).isSome)]:=has10_n acc n _ hn oM
  cases hbad:ptBad (l.getD k []) with
  | true =>
   rw [hbad,if_pos rfl] at hq
   rw [hq]
   unfold ptBad at hbad
   clear hq again
   refine zg [(14,{fm:=[(0,.c (encH []))]}),(10,{cs:=[(4,pc c2)]}),(11,{cs:=[(1,pc c3)]}),(12,{cs:=[(1,pc c4)]})] [true,true] [decide ((k:Int)<(l.length:Int))=true,(0:Int)≤(k:Int)∧(k:Int)<(l.length:Int),(bif bif bif !(Lib.cut (l.getD k []) [(61:UInt8)]).2.snd then true else (ptN (l.getD k [])).2 != (0:Int) then true else (ptV (l.getD k [])).2 != (0:Int) then true else (ptN (l.getD k [])).1==[])=true,EqvI (.c .nilsl) (.c (encH [])),EqvD (.c .nilsl) (.c (encH []))] ⟨sO,oM,aS,fun _ _=>trivial,(show EqvD (.c .nilsl) (.c (encH [])) from aS)⟩ ?_
   exact zr
  | false =>
   rw [hbad,if_neg dC] at hq
   unfold ptBad at hbad
   cases hg:(fGet acc (ptF (l.getD k [])).name).isSome with
   | true =>
    rw [hg,if_pos rfl] at hq
    rw [hg] at c5
    rw [hq]
    clear hq again hg
    refine zg [(16,{fm:=[(0,.c (encH []))]}),(10,{cs:=[(4,pc c2)]}),(11,{cs:=[(1,pc c3)]}),(12,{cs:=[(1,pc c4)]}),(15,{cs:=[(2,lc [192] [.row 55 2 n fun i j=>nthD [.str (acc.getD i .nil).name,.str (acc.getD i .nil).value] j] [.c (.row 2 0 0 n),.c (.str (ptN (l.getD k [])).1)] c5 kR kR kR (show 0+n≤n from oM))]})] [true,false,true] [decide ((k:Int)<(l.length:Int))=true,(0:Int)≤(k:Int)∧(k:Int)<(l.length:Int),(bif bif bif !(Lib.cut (l.getD k []) [(61:UInt8)]).2.snd then true else (ptN (l.getD k [])).2 != (0:Int) then true else (ptV (l.getD k [])).2 != (0:Int) then true else (ptN (l.getD k [])).1==[])=false,true=true,EqvI (.c .nilsl) (.c (encH [])),EqvD (.c .nilsl) (.c (encH []))] ⟨sO,oM,aS,rfl,fun _ _=>trivial,(show EqvD (.c .nilsl) (.c (encH [])) from aS)⟩ ?_
    exact zr
   | false =>
    rw [hg,if_neg dC] at hq
    rw [hg] at c5
    have e1:BlkEqv (.row 55 2 (n+1) (catF n (rowF encF .nil acc) (fun i j=>nthD (encF (ptF (l.getD k []))) ((0+i)*2+j)))) (.row 55 2 (n+1) (rowF encF .nil (acc++[ptF (l.getD k [])]))):=enc_app acc _ hn
    have q2:n+1=(acc++[ptF (l.getD k [])]).length:=by simp [hn]
    clear hg
    refine zg [(17,{bs:=[(5,.row 55 2 (n+1) (rowF encF .nil (acc++[ptF (l.getD k [])])))]}),(10,{cs:=[(4,pc c2)]}),(11,{cs:=[(1,pc c3)]}),(12,{cs:=[(1,pc c4)]}),(15,{cs:=[(2,lc [192] [.row 55 2 n fun i j=>nthD [.str (acc.getD i .nil).name,.str (acc.getD i .nil).value] j] [.c (.row 2 0 0 n),.c (.str (ptN (l.getD k [])).1)] c5 kR kR kR (show 0+n≤n from oM))]})] [true,false,false] [decide ((k:Int)<(l.length:Int))=true,(0:Int)≤(k:Int)∧(k:Int)<(l.length:Int),(bif bif bif !(Lib.cut (l.getD k []) [(61:UInt8)]).2.snd then true else (ptN (l.getD k [])).2 != (0:Int) then true else (ptV (l.getD k [])).2 != (0:Int) then true else (ptN (l.getD k [])).1==[])=false,false=false,(n+1)*32≤140737488355328,BlkEqv (.row 55 2 (n+1) (catF n (fun i j=>nthD [.str (acc.getD i .nil).name,.str (acc.getD i .nil).value] j) fun i j=>nthD [.str (ptN (l.getD k [])).1,.str (ptV (l.getD k [])).1] ((0+i)*2+j))) (.row 55 2 (n+1) (rowF encF FT.nil (acc++[ptF (l.getD k [])]))),n≤n,0+1≤1,inR .i64 ((k:Int)+1)] ⟨sO,oM,aS,rfl,oM,aS,oM,oM,i6⟩ ?_
    exact za [(192,1072)] (again _ (k+1,n+1,acc++[ptF (l.getD k [])]) ⟨aS,⟨aS,⟨sO,aS⟩⟩⟩ oM)
 ·rw [List.drop_of_length_le hge,partsP] at hq
  rw [hq]
  subst hn
  clear hq again
  refine Wp.ent' kR (Ent.pubT (e:=55) (sz:=2) (id:=192) (t:=5) (off:=0) (m:=acc.length) (n:=acc.length) (f:=(rowF encF .nil acc)) (m':=acc.length) (f':=(fun i j=>nthD (encF (acc.getD i .nil)) j)) kR kR oM rfl (fun i _ j _=>by rw [Nat.zero_add];rfl) rfl) ?_
  refine zg [] [false] [decide ((k:Int)<(l.length:Int))=false] (oN sO) ?_
  exact zr
def splitB (s:List UInt8):Bool:=bif !pathT (Lib.cut s [63]).1 then true else bif (Lib.cut s [63]).2.2 then (Lib.cut s [63]).2.1==[] else false
def splitU (s:List UInt8):List UInt8×List FT×Int:=if s.length>1024 then ([],[],4) else if splitB s then ([],[],3) else if (parseF (Lib.cut s [63]).2.1).2=0 then ((Lib.cut s [63]).1,(parseF (Lib.cut s [63]).2.1).1,0) else ([],[],(parseF (Lib.cut s [63]).2.1).2)
theorem split11_ok (s:List UInt8) (hl:s.length<1000000000):Pur Tryz.prog G 74 [.c (.str s)] [.c (.str (splitU s).1),.c (encH (splitU s).2.1),.c (.int .i64 (splitU s).2.2)]:=by
 refine zp Tryz.func74 ?_
 have hnil:EqvD (.c .nilsl) (.c (encH [])):=nil_eqv _ _
 have hc:=cut_len s [63]
 have c1:=cut6_ok (G:=G) s [63] oM dC dC
 have c2:=path11_ok (G:=G) (Lib.cut s [63]).1 oM
 have c3:=parse10_ok (G:=G) (Lib.cut s [63]).2.1 oM
 unfold splitU splitB
 generalize Lib.cut s [63]=C at *
 by_cases h1:s.length>1024
 ·rw [if_pos h1]
  have ht:decide ((s.length:Int)>1024)=true:=by simp;omega
  refine zg [(2,{fm:=[(1,.c (encH []))]})] [true] [decide ((s.length:Int)>1024)=true,EqvI (.c .nilsl) (.c (encH [])),EqvD (.c .nilsl) (.c (encH []))] ⟨aS,fun _ _=>trivial,(show EqvD (.c .nilsl) (.c (encH [])) from aS)⟩ ?_
  exact zr
 rw [if_neg h1]
 have ht:decide ((s.length:Int)>1024)=false:=by simp;omega
 cases hb:(bif !pathT C.1 then true else bif C.2.2 then C.2.1==[] else false) with
 | true =>
  rw [if_pos rfl]
  refine zg [(5,{fm:=[(1,.c (encH []))]}),(3,{cs:=[(1,pc c1)]}),(4,{cs:=[(1,pc c2)]})] [false,true] [decide ((s.length:Int)>1024)=false,(bif !pathT C.1 then true else bif C.2.snd then C.2.fst==[] else false)=true,EqvI (.c .nilsl) (.c (encH [])),EqvD (.c .nilsl) (.c (encH []))] ⟨aS,aS,fun _ _=>trivial,(show EqvD (.c .nilsl) (.c (encH [])) from aS)⟩ ?_
  exact zr
 | false =>
  rw [if_neg dC]
  by_cases h2:(parseF C.2.1).2=0
  ·rw [if_pos h2]
   rw [h2] at c3
   refine zg [(3,{cs:=[(1,pc c1)]}),(4,{cs:=[(1,pc c2)]}),(6,{cs:=[(1,pc c3)]})] [false,false,false] [decide ((s.length:Int)>1024)=false,(bif !pathT C.1 then true else bif C.2.snd then C.2.fst==[] else false)=false,((0:Int) != (0:Int))=false] ⟨aS,aS,rfl⟩ ?_
   exact zr
  ·rw [if_neg h2]
   have ht2:((parseF C.2.1).2 != 0)=true:=bne_iff_ne.2 h2
   generalize (parseF C.2.1).2=e at *
   clear h2
   refine zg [(8,{fm:=[(2,.c (encH []))]}),(3,{cs:=[(1,pc c1)]}),(4,{cs:=[(1,pc c2)]}),(6,{cs:=[(1,pc c3)]})] [false,false,true] [decide ((s.length:Int)>1024)=false,(bif !pathT C.1 then true else bif C.2.snd then C.2.fst==[] else false)=false,(e != (0:Int))=true,EqvI (.c .nilsl) (.c (encH [])),EqvD (.c .nilsl) (.c (encH []))] ⟨aS,aS,aS,fun _ _=>trivial,(show EqvD (.c .nilsl) (.c (encH [])) from aS)⟩ ?_
   exact zr
theorem hexU_back (c:UInt8):hexI (hexU.getD (c.toNat / 16) 0)=((c.toNat / 16:Nat):Int)∧hexI (hexU.getD (c.toNat%16) 0)=((c.toNat%16:Nat):Int):=by
 have:=byte_all (fun c=>decide (hexI (hexU.getD (c.toNat / 16) 0)=((c.toNat / 16:Nat):Int)∧hexI (hexU.getD (c.toNat%16) 0)=((c.toNat%16:Nat):Int))) kR c
 exact of_decide_eq_true this
theorem decL_pctB (c:UInt8) (r:List UInt8):decL true (pctB true c++r)=(decL true r).map (c::·):=by
 unfold pctB
 cases hp:plainB c with
 | true=>rw [if_pos rfl]; exact decL_plain hp
 | false =>
  rw [if_neg dC]
  cases h2:(true&&c==32) with
  | true =>
   rw [if_pos rfl]
   have hc:c=32:=by simpa using h2
   subst hc
   exact decL_plus rfl rfl
  | false =>
   rw [if_neg dC]
   obtain ⟨a,b⟩:=hexU_back c
   rw [List.cons_append,List.cons_append,List.cons_append,List.nil_append,decL_hex (by rw [a];omega) (by rw [b];omega),a,b]
   have:(((c.toNat / 16:Nat):Int)*16+((c.toNat%16:Nat):Int)).toNat=c.toNat:=by omega
   rw [this]
   have hc:UInt8.ofNat c.toNat=c:=by simp
   rw [hc]
theorem decL_pct:∀ t:List UInt8,decL true (pctT true t)=some t
 | []=>rfl
 | c::r=>by
  have ih:=decL_pct r
  unfold pctT at ih ⊢
  rw [List.flatMap_cons,decL_pctB,ih]
  rfl
theorem decT_pct (t:List UInt8):decT true (pctT true t)=(t,0):=by
 unfold decT
 rw [decL_pct]
 exact if_pos rfl
theorem pct_no (s:List UInt8):(pctT true s).all (fun b=>tgB b&&(!(b==38)&&(!(b==61) && !(b==63))))=true:=by
 have hb:∀ c:UInt8,(pctB true c).all (fun b=>tgB b&&(!(b==38)&&(!(b==61) && !(b==63))))=true:=byte_all _ kR
 unfold pctT
 rw [List.all_eq_true]
 intro b h
 obtain ⟨c,hc,h⟩:=List.mem_flatMap.1 h
 exact List.all_eq_true.1 (hb c) b h
theorem pct_mem {s:List UInt8} {b:UInt8} (h:b∈pctT true s):tgB b=true∧b≠38∧b≠61∧b≠63:=by
 have:=List.all_eq_true.1 (pct_no s) b h
 simp only [Bool.and_eq_true,Bool.not_eq_true',beq_eq_false_iff_ne] at this
 exact this
theorem fieldQ_cut (f:FT):Lib.cut (fieldQ f) [61]=(pctT true f.name,pctT true f.value,true) :=
 cut_at (pctT true f.name) (pctT true f.value) [] 61 (fun h=>(pct_mem h).2.2.1 rfl)
theorem pt_field {f:FT} (h:f.name≠[]):ptBad (fieldQ f)=false∧ptF (fieldQ f)=f:=by
 unfold ptBad ptF ptN ptV
 rw [fieldQ_cut,decT_pct,decT_pct]
 refine ⟨?_,rfl⟩
 have:(f.name==[])=false:=by simpa using h
 show (bif bif bif !true then true else (0:Int) != 0 then true else (0:Int) != 0 then true else f.name==[])=false
 rw [this];rfl
theorem partsP_all:∀ (l acc:List FT),(∀ f∈l,f.name≠[])→(acc++l).Pairwise (fun x y=>x.name≠y.name)→partsP (l.map fieldQ) acc=(acc++l,0)
 | [],acc,_,_=>by simp [partsP]
 | f::l,acc,h,hp=>by
  obtain ⟨h1,h2⟩:=pt_field (h f (by simp))
  have hn:(fGet acc f.name).isSome=false:=by
   cases hg:(fGet acc f.name).isSome with
   | false=>rfl
   | true =>
    rw [← fGet_con,List.contains_iff_mem] at hg
    obtain ⟨g,hg1,hg2⟩:=List.mem_map.1 hg
    rw [List.pairwise_append] at hp
    exact (hp.2.2 g hg1 f (by simp) hg2).elim
  rw [List.map_cons,partsP,h1,if_neg dC,h2,hn,if_neg dC,partsP_all l (acc++[f]) (fun g hg=>h g (by simp [hg])) (by simpa using hp)]
  simp
theorem parseF_print {l:List FT} (h:∀ f∈l,f.name≠[]) (hp:l.Pairwise (fun x y=>x.name≠y.name)) (hn:l.length≤24):parseF (printQ l)=(l,0):=by
 cases l with
 | nil=>rfl
 | cons x r =>
  have hs:Lib.split (printQ (x::r)) [38]=(x::r).map fieldQ:=split_join 38 [] _ (by simp) (by
   intro y hy hc
   obtain ⟨f,hf,rfl⟩:=List.mem_map.1 hy
   unfold fieldQ at hc
   simp only [List.mem_append,List.mem_singleton] at hc
   rcases hc with (hc | hc) | hc
   ·exact (pct_mem hc).2.1 rfl
   ·exact absurd hc dC
   ·exact (pct_mem hc).2.1 rfl)
  have hne:printQ (x::r)≠[]:=by
   intro e
   have:=fieldQ_le (x::r) (k:=0) (by simp)
   rw [e] at this
   have h2:1≤(fieldQ x).length:=by rw [fieldQ_len];omega
   simp [List.getD] at this
   rw [this] at h2
   simp at h2
  unfold parseF
  rw [if_neg hne,hs,if_neg (by rw [List.length_map];omega)]
  exact partsP_all (x::r) [] h (by simpa using hp)
theorem unlike_gen {l:List FT} (h1:∀ f∈l,f.name≠[]) (h2:l.Pairwise (fun x y=>x.name≠y.name)):unlikeQ l=true:=by
 unfold unlikeQ
 rw [List.all_eq_true]
 intro i hi
 have hi:=List.mem_range.1 hi
 unfold okQ
 have ht:=h1 _ (getD_mem hi)
 have ht:((l.getD i .nil).name==[])=false:=by simpa using ht
 rw [ht,Bool.not_false,Bool.true_and,← fGet_isIn,← fGet_con]
 cases hc:((l.take i).map (·.name)).contains (l.getD i .nil).name with
 | false=>rfl
 | true =>
  rw [List.contains_iff_mem] at hc
  obtain ⟨f,hf,he⟩:=List.mem_map.1 hc
  obtain ⟨j,hj,rfl⟩:=List.getElem_of_mem hf
  rw [List.length_take] at hj
  have:=List.pairwise_iff_getElem.1 h2 j i oM hi oM
  rw [List.getElem_take] at he
  refine (this ?_).elim
  rw [he]
  simp [List.getD,hi]
theorem fldsN_pw (ns:List Int):∀ (k a:Nat) (l:List FT),((∀ f∈l,f.name≠[])∧l.Pairwise (fun x y=>x.name≠y.name))→(∀ f∈fldsN ns k a l,f.name≠[])∧(fldsN ns k a l).Pairwise (fun x y=>x.name≠y.name)
 | 0,a,l,h=>h
 | k+1,a,l,h=>by
  unfold fldsN
  split
  ·split
   ·exact fldsN_pw ns k _ l h
   ·rename_i hg
    refine fldsN_pw ns k _ _ ⟨fun f hf => ?_,?_⟩
    ·rcases List.mem_append.1 hf with hf | hf
     ·exact h.1 f hf
     ·rw [List.mem_singleton.1 hf]
      exact (by decide:∀ x∈names10,x≠[]) _ (pick_in names10 ns a dC)
    ·rw [List.pairwise_append]
     refine ⟨h.2,List.pairwise_singleton _ _,fun x hx y hy => ?_⟩
     rw [List.mem_singleton.1 hy]
     exact fGet_no (by simpa using hg:(fGet l (pickT names10 ns a)).isSome=false) x hx
  ·exact h
structure UriF (u:UT):Prop where
 hh:hostT u.host=true
 hp:pathT u.path=true
 h1:u.host.length≤20
 h2:u.path.length≤20
 h3:∀ f∈u.query,f.name≠[]
 h4:u.query.Pairwise (fun x y=>x.name≠y.name)
 h5:u.query.length≤6
 h6:(printQ u.query).length≤732
theorem uriT_f (ns:List Int):UriF (uriT ns):=by
 have r:=nextV_rng ns (nextA ns (nextA ns 0 7) 6) 6 dC
 have a:=pick_in hostsU ns 0 dC
 have b:=pick_in pathsU ns (nextA ns 0 7) dC
 have aa:hostsU.all (fun x=>hostT x&&decide (x.length≤20))=true:=kR
 have bb:pathsU.all (fun x=>pathT x&&decide (x.length≤20))=true:=kR
 have aa:=List.all_eq_true.1 aa _ a
 have bb:=List.all_eq_true.1 bb _ b
 rw [Bool.and_eq_true,decide_eq_true_eq] at aa bb
 have c:=fields_small ns (nextV ns (nextA ns (nextA ns 0 7) 6) 6).toNat 0 [] (by intro f hf;cases hf)
 have d:(fldsN ns (nextV ns (nextA ns (nextA ns 0 7) 6) 6).toNat 0 []).length≤6:=by have:=c.1;simp only [List.length_nil] at this;omega
 have e:=query_small _ 6 d c.2
 have p:=fldsN_pw ns (nextV ns (nextA ns (nextA ns 0 7) 6) 6).toNat 0 [] ⟨fun f hf=>(by cases hf),List.Pairwise.nil⟩
 exact ⟨aa.1,bb.1,aa.2,bb.2,p.1,p.2,d,e⟩
theorem UriF.len {u:UT} (h:UriF u):(targetU u).length≤760:=by
 have h2:=h.h2
 have h6:=h.h6
 unfold targetU
 split
 ·omega
 ·simp only [List.length_append,List.length_cons,List.length_nil];omega
theorem UriF.may {u:UT} (h:UriF u):mayU u=true:=by
 have h1:=h.h1
 have h5:=h.h5
 have hl:=h.len
 unfold mayU
 rw [h.hh,h.hp,unlike_gen h.h3 h.h4,decide_eq_true (show (u.query.length:Int)≤24 by omega),decide_eq_true (by simp only [List.length_append,List.length_cons,List.length_nil];omega)]
 rfl
theorem path_no {s:List UInt8} (h:pathT s=true):s.all tgB=true∧(63:UInt8)∉s∧s≠[]:=by
 unfold pathT at h
 simp only [Bool.and_eq_true,decide_eq_true_eq,List.all_eq_true] at h
 obtain ⟨h1,h2,h3⟩:=h
 have hb:∀ c:UInt8,(!pathB c||(tgB c && !(c==63)))=true:=byte_all _ kR
 refine ⟨?_,fun hc => ?_,fun he=>by rw [he] at h2;simp at h2⟩
 ·rw [List.all_eq_true]
  intro c hc
  have:=hb c
  rw [h1 c hc] at this
  simp only [Bool.not_true,Bool.false_or,Bool.and_eq_true] at this
  exact this.1
 ·have:=h1 _ hc
  revert this
  decide
theorem join_mem (c:UInt8):∀ (l:List (List UInt8)) (b:UInt8),b∈Lib.join l [c]→b=c∨∃ x∈l,b∈x
 | [],b,h=>by simp [Lib.join_nil] at h
 | x::r,b,h=>by
  rw [Lib.join_cons] at h
  rcases List.mem_append.1 h with h | h
  ·exact .inr ⟨x,by simp,h⟩
  ·unfold Lib.joinTail at h
   obtain ⟨y,hy,hb⟩:=List.mem_flatten.1 h
   obtain ⟨z,hz,rfl⟩:=List.mem_map.1 hy
   rcases List.mem_append.1 hb with hb | hb
   ·exact .inl (List.mem_singleton.1 hb)
   ·exact .inr ⟨z,by simp [hz],hb⟩
theorem printQ_tg (l:List FT):(printQ l).all tgB=true:=by
 rw [List.all_eq_true]
 intro b hb
 unfold printQ at hb
 rcases join_mem 38 _ b hb with rfl | ⟨x,hx,hb⟩
 ·decide
 ·obtain ⟨f,hf,rfl⟩:=List.mem_map.1 hx
  unfold fieldQ at hb
  simp only [List.mem_append,List.mem_singleton] at hb
  rcases hb with (hb | rfl) | hb
  ·exact (pct_mem hb).1
  ·decide
  ·exact (pct_mem hb).1
theorem UriF.targ {u:UT} (h:UriF u):targT (targetU u)=true:=by
 obtain ⟨p1,p2,p3⟩:=path_no h.hp
 have hl:=h.len
 have hpos:1≤u.path.length:=List.length_pos_iff.2 p3
 unfold targT
 rw [decide_eq_true (show (targetU u).length≤1024 by omega)]
 have h1:1≤(targetU u).length:=by unfold targetU;split<;>(try simp only [List.length_append])<;>omega
 rw [decide_eq_true h1]
 have:(targetU u).all tgB=true:=by
  unfold targetU
  split
  ·exact p1
  ·rw [List.all_append,List.all_append,p1,printQ_tg];rfl
 rw [this]
 rfl
theorem UriF.split {u:UT} (h:UriF u):splitU (targetU u)=(u.path,u.query,0):=by
 obtain ⟨p1,p2,p3⟩:=path_no h.hp
 have hl:=h.len
 have hpf:=parseF_print h.h3 h.h4 (by have:=h.h5;omega)
 have hc:Lib.cut (targetU u) [63]=if u.query.length=0 then (u.path,[],false) else (u.path,printQ u.query,true):=by
  unfold targetU
  by_cases hq:u.query.length=0
  ·rw [if_pos hq,if_pos hq]
   unfold Lib.cut
   rw [idx_no u.path [] 63 p2]
   rfl
  ·rw [if_neg hq,if_neg hq]
   exact cut_at u.path (printQ u.query) [] 63 p2
 unfold splitU splitB
 rw [if_neg oM,hc]
 by_cases hq:u.query.length=0
 ·rw [if_pos hq]
  have hn:u.query=[]:=List.length_eq_zero_iff.1 hq
  rw [show (bif !pathT (u.path,([]:List UInt8),false).1 then true else bif (u.path,([]:List UInt8),false).2.2 then (u.path,([]:List UInt8),false).2.1==[] else false)=false from by show (bif !pathT u.path then true else false)=false;rw [h.hp];rfl,hn]
  rfl
 ·rw [if_neg hq]
  have hne:(printQ u.query==[])=false:=by
   cases hpe:printQ u.query with
   | nil =>
    have hf:=fieldQ_le u.query (k:=0) oM
    rw [hpe] at hf
    have h2:1≤(fieldQ (u.query.getD 0 .nil)).length:=by rw [fieldQ_len];omega
    simp only [List.length_nil] at hf
    omega
   | cons a b=>rfl
  show (if (bif !pathT u.path then true else bif true then printQ u.query==[] else false)=true then _ else _)=_
  rw [h.hp,hne]
  show (if (parseF (printQ u.query)).2=0 then (u.path,(parseF (printQ u.query)).1,0) else _)=_
  rw [hpf]
  rfl
def UT.nil:UT:=⟨[],[],[]⟩
def preU:List UInt8:=[104,116,116,112,115,58,47,47]
def restU (s:List UInt8):List UInt8×List UInt8×Bool:=Lib.cut (s.drop 8) [47]
def parseU (s:List UInt8):UT×Int :=
 if 1024<s.length then (.nil,4) else if (bif decide ((s.length:Int)<8) then true else !(s.take 8==preU)) then (.nil,3)
 else if (bif !(restU s).2.2 then true else !hostT (restU s).1) then (.nil,3)
 else if (splitU (47::(restU s).2.1)).2.2=0 then (⟨(restU s).1,(splitU (47::(restU s).2.1)).1,(splitU (47::(restU s).2.1)).2.1⟩,0) else (.nil,(splitU (47::(restU s).2.1)).2.2)
theorem nilU_den:EqvD (.agg [.str [],.str [],.nilsl]) (.agg (encU .nil)):=agg_eqv (.cons CEq.rfl' (.cons CEq.rfl' (.cons CEq.nil .nil)))
theorem parse11_ok (s:List UInt8) (hl:s.length<1000000000):Pur Tryz.prog G 21 [.c (.str s)] [.agg (encU (parseU s).1),.c (.int .i64 (parseU s).2)]:=by
 refine zp Tryz.func21 ?_
 have e0:=nilU_den
 unfold parseU
 by_cases h1:1024<s.length
 ·rw [if_pos h1]
  have ht:decide ((s.length:Int)>1024)=true:=decide_eq_true oM
  refine zg [(2,{fm:=[(0,.agg (encU .nil))]})] [true] [decide ((s.length:Int)>1024)=true,EqvI (.agg [.str [],.str [],.nilsl]) (.agg (encU UT.nil)),EqvD (.agg [.str [],.str [],.nilsl]) (.agg (encU UT.nil))] ⟨aS,eqvI_flat _ _ kR,(show EqvD (.agg [.str [],.str [],.nilsl]) (.agg (encU UT.nil)) from aS)⟩ ?_
  exact zr
 rw [if_neg h1]
 have ht:decide ((s.length:Int)>1024)=false:=decide_eq_false oM
 cases h2:(bif decide ((s.length:Int)<8) then true else !(s.take 8==preU)) with
 | true =>
  rw [if_pos rfl]
  have h2:(bif decide ((s.length:Int)<8) then true else !(List.drop 0 (List.take 8 s)==[(104:UInt8),116,116,112,115,58,47,47]))=true:=h2
  refine zg [(5,{fm:=[(0,.agg (encU .nil))]})] [false,true] [decide ((s.length:Int)>1024)=false,decide ((s.length:Int)<(8:Int))=false→(0:Int)≤Int.ofNat (0)∧Int.ofNat (0)≤Int.ofNat (8)∧Int.ofNat (8)≤(s.length:Int),(bif decide ((s.length:Int)<(8:Int)) then true else !List.drop (0:Nat) (List.take (8:Nat) s)==[(104:UInt8),116,116,112,115,58,47,47])=true,EqvI (.agg [.str [],.str [],.nilsl]) (.agg (encU UT.nil)),EqvD (.agg [.str [],.str [],.nilsl]) (.agg (encU UT.nil))] ⟨aS,(by simp;done),aS,eqvI_flat _ _ kR,(show EqvD (.agg [.str [],.str [],.nilsl]) (.agg (encU UT.nil)) from aS)⟩ ?_
  exact zr
 | false =>
  rw [if_neg dC]
  have h8:8≤s.length:=by
   rcases Nat.lt_or_ge s.length 8 with h | h
   ·rw [decide_eq_true oM] at h2;cases h2
   ·exact h
  have h2:(bif decide ((s.length:Int)<8) then true else !(List.drop 0 (List.take 8 s)==[(104:UInt8),116,116,112,115,58,47,47]))=false:=h2
  have c1:=cut6_ok (G:=G) ((s.take s.length).drop 8) [47] sO dC dC
  rw [show Lib.cut ((s.take s.length).drop 8) [47]=restU s by rw [List.take_length];rfl] at c1
  have hb:=cut_len (s.drop 8) [47]
  rw [show Lib.cut (s.drop 8) [47]=restU s from rfl,List.length_drop] at hb
  generalize restU s=x at *
  obtain ⟨h,r,b⟩:=x
  simp only at hb c1 ⊢
  have c2:=host11_ok (G:=G) h oM
  cases h3:(bif !b then true else !hostT h) with
  | true =>
   rw [if_pos rfl]
   refine zg [(8,{fm:=[(0,.agg (encU .nil))]}),(6,{cs:=[(3,pc c1)]}),(7,{cs:=[(4,pc c2)]})] [false,false,true] [decide ((s.length:Int)>1024)=false,decide ((s.length:Int)<(8:Int))=false→(0:Int)≤Int.ofNat (0)∧Int.ofNat (0)≤Int.ofNat (8)∧Int.ofNat (8)≤(s.length:Int),(bif decide ((s.length:Int)<(8:Int)) then true else !List.drop (0:Nat) (List.take (8:Nat) s)==[(104:UInt8),116,116,112,115,58,47,47])=false,(0:Int)≤Int.ofNat (8)∧Int.ofNat (8)≤Int.ofNat s.length∧Int.ofNat s.length≤(s.length:Int),(bif !b then true else !hostT h)=true,EqvI (.agg [.str [],.str [],.nilsl]) (.agg (encU UT.nil)),EqvD (.agg [.str [],.str [],.nilsl]) (.agg (encU UT.nil))] ⟨aS,(by simp;done),aS,⟨dC,⟨sO,(by simp;done)⟩⟩,aS,eqvI_flat _ _ kR,(show EqvD (.agg [.str [],.str [],.nilsl]) (.agg (encU UT.nil)) from aS)⟩ ?_
   exact zr
  | false =>
   rw [if_neg dC]
   have c3:=split11_ok (G:=G) (47::r) sO
   generalize splitU (47::r)=y at *
   obtain ⟨p,q,e⟩:=y
   simp only at c3 ⊢
   by_cases h4:e=0
   ·subst h4
    rw [if_pos rfl]
    refine zg [(6,{cs:=[(3,pc c1)]}),(7,{cs:=[(4,pc c2)]}),(9,{cs:=[(2,pc c3)]})] [false,false,false,false] [decide ((s.length:Int)>1024)=false,decide ((s.length:Int)<(8:Int))=false→(0:Int)≤Int.ofNat (0)∧Int.ofNat (0)≤Int.ofNat (8)∧Int.ofNat (8)≤(s.length:Int),(bif decide ((s.length:Int)<(8:Int)) then true else !List.drop (0:Nat) (List.take (8:Nat) s)==[(104:UInt8),116,116,112,115,58,47,47])=false,(0:Int)≤Int.ofNat (8)∧Int.ofNat (8)≤Int.ofNat s.length∧Int.ofNat s.length≤(s.length:Int),(bif !b then true else !hostT h)=false,1+r.length≤9223372036854775807,((0:Int) != (0:Int))=false] ⟨aS,(by simp;done),aS,⟨dC,⟨sO,(by simp;done)⟩⟩,aS,oM,rfl⟩ ?_
    exact zr
   ·rw [if_neg h4]
    have h4:(e != 0)=true:=by simpa using h4
    refine zg [(11,{fm:=[(0,.agg (encU .nil))]}),(6,{cs:=[(3,pc c1)]}),(7,{cs:=[(4,pc c2)]}),(9,{cs:=[(2,pc c3)]})] [false,false,false,true] [decide ((s.length:Int)>1024)=false,decide ((s.length:Int)<(8:Int))=false→(0:Int)≤Int.ofNat (0)∧Int.ofNat (0)≤Int.ofNat (8)∧Int.ofNat (8)≤(s.length:Int),(bif decide ((s.length:Int)<(8:Int)) then true else !List.drop (0:Nat) (List.take (8:Nat) s)==[(104:UInt8),116,116,112,115,58,47,47])=false,(0:Int)≤Int.ofNat (8)∧Int.ofNat (8)≤Int.ofNat s.length∧Int.ofNat s.length≤(s.length:Int),(bif !b then true else !hostT h)=false,1+r.length≤9223372036854775807,(e != (0:Int))=true,EqvI (.agg [.str [],.str [],.nilsl]) (.agg (encU UT.nil)),EqvD (.agg [.str [],.str [],.nilsl]) (.agg (encU UT.nil))] ⟨aS,(by simp;done),aS,⟨dC,⟨sO,(by simp;done)⟩⟩,aS,oM,aS,eqvI_flat _ _ kR,(show EqvD (.agg [.str [],.str [],.nilsl]) (.agg (encU UT.nil)) from aS)⟩ ?_
    exact zr
def sameU (a b:UT):Bool:=bif bif a.host==b.host then a.path==b.path else false then sameF a.query b.query else false
theorem same11_ok (a b:UT) (hl:a.query.length<4611686018427387904):Pur Tryz.prog G 25 [.agg (encU a),.agg (encU b)] [.c (.bool (sameU a b))]:=by
 refine zp Tryz.func25 ?_
 have c:=same_ok (G:=G) a.query b.query hl
 refine z0 [(1,{cs:=[(17,pc c)]})] [] ?_
 exact zr
theorem sameU_refl (a:UT):sameU a a=true:=by unfold sameU;rw [sameF_refl];simp
theorem UriF.parse {u:UT} (h:UriF u):parseU (printU u)=(u,0):=by
 have hm:=h.may
 have hl:=h.len
 have h1:=h.h1
 have hh:=h.hh
 have e:printU u=preU++u.host++targetU u:=by unfold printU;rw [if_pos hm];rfl
 obtain ⟨p1,p2,p3⟩:=path_no h.hp
 obtain ⟨t,hT⟩:∃ t,targetU u=47::t:=by
  have hp:=h.hp
  unfold pathT at hp
  simp only [Bool.and_eq_true,decide_eq_true_eq,beq_iff_eq] at hp
  have hx:∃ t,u.path=47::t:=by
   cases hq:u.path with
   | nil=>exact (p3 hq).elim
   | cons c t=>rw [hq] at hp; exact ⟨t,by rw [show c=47 from hp.2.2]⟩
  obtain ⟨t,hx⟩:=hx
  unfold targetU
  split
  ·exact ⟨t,hx⟩
  ·rw [hx];exact ⟨_,rfl⟩
 have hr:restU (printU u)=(u.host,t,true):=by
  unfold restU
  rw [e,List.append_assoc,show (preU++(u.host++targetU u)).drop 8=u.host++targetU u from List.drop_left (l₁:=preU),hT]
  have hno:(47:UInt8)∉u.host:=by
   unfold hostT at hh
   simp only [Bool.and_eq_true,List.all_eq_true] at hh
   exact fun hc=>by have:=hh.1 _ hc;revert this;decide
  have:=cut_at u.host t [] 47 hno
  simpa using this
 have hlen:(printU u).length=8+u.host.length+(targetU u).length:=by
  rw [e,List.length_append,List.length_append];rfl
 unfold parseU
 rw [hr,if_neg oM,if_neg,if_neg,← hT,h.split,if_pos rfl]
 ·show ¬ ((bif !true then true else !hostT u.host)=true)
  rw [hh];decide
 ·rw [decide_eq_false oM,e,List.append_assoc,show (preU++(u.host++targetU u)).take 8=preU from List.take_left (l₁:=preU)];decide
def rjB (s:List UInt8) (p:Nat) (e:Int):Blk := .box 116 [.str s,.int .i64 (p:Int),.int .i64 e]
theorem fail_0 (s:List UInt8) (p:Nat) (n:Int):FnB Tryz.prog G 71 [rjB s p 0] [.c (.ptr 0 0),.c (.int .i64 n)] [] [(0,rjB s p n)]:=by
 refine zf Tryz.func71 ?_
 refine zg [] [true] [((0:Int)==(0:Int))=true] rfl ?_
 exact zb []
theorem fail_e (s:List UInt8) (p:Nat) (e n:Int) (h:(e==0)=false):FnB Tryz.prog G 71 [rjB s p e] [.c (.ptr 0 0),.c (.int .i64 n)] [] [(0,rjB s p e)]:=by
 refine zf Tryz.func71 ?_
 refine zg [] [false] [(e==(0:Int))=false] (oN aS) ?_
 exact zb []
theorem blanks_ok (s:List UInt8) (p:Nat) (e:Int) (hl:s.length≤1000000000) (hp:p≤s.length):FnB Tryz.prog G 70 [rjB s p e] [.c (.ptr 0 0)] [] [(0,rjB s (skP s p) e)]:=by
 refine zf Tryz.func70 ?_
 refine z0 [] [] ?_
 refine zl (fun (k:Nat)=>⟨[(0,.v (.c (.ptr 0 0)))],[(0,rjB s k e)],1⟩) (fun k=>k≤s.length∧skP s p=skP s k) (fun k=>s.length-k) p ⟨hp,rfl⟩ ?_
 rintro k L ⟨hk,hq⟩ again
 rcases Nat.lt_or_ge k s.length with hlt | hge
 ·have c0:=in6_ok (G:=G) (s.getD k 0) [9,10,13,32] dC
  cases hb:blankB (s.getD k 0) with
  | true =>
   rw [skP_yes hlt hb] at hq
   unfold blankB at hb
   rw [hb] at c0
   clear hb
   refine zg [(0,{cs:=[(20,pc c0)]})] [true] [decide ((k:Int)<(s.length:Int))=true→(0:Int)≤(k:Int)∧(k:Int)<(s.length:Int),(bif decide ((k:Int)<(s.length:Int)) then true else false)=true,inR .i64 ((k:Int)+1)] ⟨oM,sO,i6⟩ ?_
   exact za [] (again _ (k+1) oM oM)
  | false =>
   rw [skP_no (fun _=>hb)] at hq
   rw [hq]
   unfold blankB at hb
   rw [hb] at c0
   clear hb again
   refine zg [(0,{cs:=[(20,pc c0)]})] [false] [decide ((k:Int)<(s.length:Int))=true→(0:Int)≤(k:Int)∧(k:Int)<(s.length:Int),(bif decide ((k:Int)<(s.length:Int)) then false else false)=false] ⟨oM,(show (bif decide ((↑k:Int)<(↑s.length:Int)) then false else false)=false from (by simp;done))⟩ ?_
   exact zb []
 ·rw [skP_no (s:=s) (p:=k) (fun h=>absurd h (Nat.not_lt.2 hge))] at hq
  rw [hq]
  clear again
  have c0:=in6_ok (G:=G) (s.getD k 0) [9,10,13,32] dC
  refine zg [(0,{cs:=[(20,pc c0)]})] [false] [decide ((k:Int)<(s.length:Int))=true→(0:Int)≤(k:Int)∧(k:Int)<(s.length:Int),(bif decide ((k:Int)<(s.length:Int)) then [(9:UInt8),10,13,32].contains (s.getD k (0:UInt8)) else false)=false] ⟨(by simp;done),(show (bif decide ((↑k:Int)<(↑s.length:Int)) then [(9:UInt8),10,13,32].contains (s.getD k (0:UInt8)) else false)=false from sO)⟩ ?_
  exact zb []
theorem atB_b (s:List UInt8) (p:Nat) (c:UInt8):(bif decide ((p:Int)<(s.length:Int)) then ((s.getD p 0).toNat:Int)==(c.toNat:Int) else false)=atB s p c:=by
 unfold atB
 rw [ibeq,show decide ((p:Int)<(s.length:Int))=decide (p<s.length) from decide_eq_decide.2 oM]
 cases decide (p<s.length)<;>rfl
theorem at12_ok (s:List UInt8) (p:Nat) (e:Int) (c:UInt8):FnB Tryz.prog G 121 [rjB s p e] [.c (.ptr 0 0),.c (.int .u8 (c.toNat:Int))] [.c (.bool (atB s p c))] [(0,rjB s p e)]:=by
 refine zf Tryz.func121 ?_
 rw [← atB_b]
 refine zg [] [] [decide ((p:Int)<(s.length:Int))=true→(0:Int)≤(p:Int)∧(p:Int)<(s.length:Int)] (show decide ((↑p:Int)<(↑s.length:Int))=true→(0:Int)≤(↑p:Int)∧(↑p:Int)<(↑s.length:Int) from (by simp;done)) ?_
 exact zb []
def wdB (s:List UInt8) (p:Nat) (w:List UInt8):Bool:=bif decide ((s.length:Int)-(p:Int)<(w.length:Int)) then true else !(List.drop (Int.ofNat p).toNat (List.take (Int.ofNat (p+w.length)).toNat s)==w)
theorem wdB_eq (s:List UInt8) (p:Nat) (w:List UInt8) (hp:p≤s.length):wdB s p w = !wordB s p w:=by
 unfold wdB wordB
 have e:List.drop (Int.ofNat p).toNat (List.take (Int.ofNat (p+w.length)).toNat s)=(s.drop p).take w.length:=by
  show List.drop p (List.take (p+w.length) s)=_
  rw [List.drop_take];congr 1;omega
 rw [e]
 by_cases h:(s.length:Int)-(p:Int)<(w.length:Int)
 ·rw [decide_eq_true h]
  have:((s.drop p).take w.length==w)=false:=by
   rw [beq_eq_false_iff_ne]
   intro h'
   have:=congrArg List.length h'
   simp at this;omega
  rw [this];rfl
 ·rw [decide_eq_false h];rfl
theorem word_yes (s:List UInt8) (p:Nat) (w:List UInt8) (hl:s.length≤1000000000) (hw:w.length≤1000) (hp:p≤s.length) (h:wordB s p w=true):FnB Tryz.prog G 122 [rjB s p 0] [.c (.ptr 0 0),.c (.str w)] [] [(0,rjB s (p+w.length) 0)]:=by
 refine zf Tryz.func122 ?_
 have ht:=wdB_eq s p w hp
 rw [h] at ht
 unfold wdB at ht
 have ht:(bif decide ((s.length:Int)-(p:Int)<(w.length:Int)) then true else !(List.drop (Int.ofNat p).toNat (List.take (Int.ofNat (p+w.length)).toNat s)==w))=false:=ht
 have hle:p+w.length≤s.length:=by
  unfold wordB at h
  have:=congrArg List.length (by simpa using h:(s.drop p).take w.length=w)
  simp at this;omega
 clear h
 refine zg [] [false] [inR .i64 ((s.length:Int)-(p:Int)),decide ((s.length:Int)-(p:Int)<(w.length:Int))=false→inR .i64 ((p:Int)+(w.length:Int)),decide ((s.length:Int)-(p:Int)<(w.length:Int))=false→(0:Int)≤Int.ofNat p∧Int.ofNat p≤Int.ofNat (p+w.length)∧Int.ofNat (p+w.length)≤(s.length:Int),(bif decide ((s.length:Int)-(p:Int)<(w.length:Int)) then true else !List.drop (Int.ofNat p).toNat (List.take (Int.ofNat (p+w.length)).toNat s)==w)=false,inR .i64 ((p:Int)+(w.length:Int))] ⟨i6,(fun _=>i6),sO,aS,i6⟩ ?_
 exact zb []
theorem word_no (s:List UInt8) (p:Nat) (w:List UInt8) (hl:s.length≤1000000000) (hw:w.length≤1000) (hp:p≤s.length) (h:wordB s p w=false):FnB Tryz.prog G 122 [rjB s p 0] [.c (.ptr 0 0),.c (.str w)] [] [(0,rjB s p 3)]:=by
 refine zf Tryz.func122 ?_
 have ht:=wdB_eq s p w hp
 rw [h] at ht
 unfold wdB at ht
 have ht:(bif decide ((s.length:Int)-(p:Int)<(w.length:Int)) then true else !(List.drop (Int.ofNat p).toNat (List.take (Int.ofNat (p+w.length)).toNat s)==w))=true:=ht
 clear h
 refine zg [(1,{cs:=[(1,cb [0] (fail_0 s p (3:Int)))]})] [true] [inR .i64 ((s.length:Int)-(p:Int)),decide ((s.length:Int)-(p:Int)<(w.length:Int))=false→inR .i64 ((p:Int)+(w.length:Int)),decide ((s.length:Int)-(p:Int)<(w.length:Int))=false→(0:Int)≤Int.ofNat p∧Int.ofNat p≤Int.ofNat (p+w.length)∧Int.ofNat (p+w.length)≤(s.length:Int),(bif decide ((s.length:Int)-(p:Int)<(w.length:Int)) then true else !List.drop (Int.ofNat p).toNat (List.take (Int.ofNat (p+w.length)).toNat s)==w)=true] ⟨i6,(fun _=>i6),sO,(show (bif decide ((↑s.length:Int)-(↑p:Int)<(↑w.length:Int)) then true else !List.drop (Int.ofNat p).toNat (List.take (Int.ofNat (p+w.length)).toNat s)==w)=true from aS)⟩ ?_
 exact zb []
theorem want_ok (s:List UInt8) (p:Nat) (c:UInt8) (hl:s.length≤1000000000) (hp:p≤s.length):FnB Tryz.prog G 173 [rjB s p 0] [.c (.ptr 0 0),.c (.int .u8 (c.toNat:Int))] [] [(0,rjB s (wantR s p c).1 (wantR s p c).2)]:=by
 refine zf Tryz.func173 ?_
 have c1:=blanks_ok (G:=G) s p 0 hl hp
 have c2:=at12_ok (G:=G) s (skP s p) 0 c
 have h2:=skP_len s p hp
 cases hb:atB s (skP s p) c with
 | true =>
  have e:wantR s p c=(skP s p+1,0):=by unfold wantR;rw [if_pos hb]
  rw [e]
  rw [hb] at c2
  clear hb e
  refine zg [(0,{cs:=[(1,cb [0] c1)]}),(1,{cs:=[(2,cb [0] c2)]})] [false] [(!true)=false,inR .i64 ((↑(skP s p):Int)+1)] ⟨rfl,i6⟩ ?_
  exact zb []
 | false =>
  have e:wantR s p c=(skP s p,3):=by unfold wantR;rw [if_neg (by rw [hb];decide)]
  rw [e]
  rw [hb] at c2
  clear hb e
  refine zg [(0,{cs:=[(1,cb [0] c1)]}),(1,{cs:=[(2,cb [0] c2)]}),(2,{cs:=[(1,cb [0] (fail_0 s (skP s p) (3:Int)))]})] [true] [(!false)=true] rfl ?_
  exact zb []
theorem small12_ok (c:UInt8):Pur Tryz.prog G 216 [.c (.int .u8 (c.toNat:Int))] [.c (.int .i64 (smallI c))]:=by
 refine zp Tryz.func216 ?_
 have c0:=digit6_ok (G:=G) c
 cases hd:digitB c with
 | true =>
  rw [hd] at c0
  have e:smallI c=(c.toNat:Int)-48:=by unfold smallI;rw [if_pos hd]
  have hr:=dig_to hd
  rw [e]
  have ew:EqvD (.c (.int .u8 (IntKind.u8.wrap ((c.toNat:Int)-48)))) (.c (.int .u8 ((c.toNat:Int)-48))):=eqvD_of (by rw [wrap8 oM oM])
  have ew2:EqvD (.c (.int .i64 (IntKind.i64.wrap ((c.toNat:Int)-48)))) (.c (.int .i64 ((c.toNat:Int)-48))):=eqvD_of (by rw [wrap64 oM oM])
  clear hd e
  refine zg [(2,{fm:=[(1,.c (.int .u8 ((c.toNat:Int)-48))),(2,.c (.int .i64 ((c.toNat:Int)-48)))]}),(1,{cs:=[(1,pc c0)]})] [true] [true=true,EqvI (.c (.int .u8 (IntKind.u8.wrap ((c.toNat:Int)-(48:Int))))) (.c (.int .u8 ((c.toNat:Int)-(48:Int)))),EqvD (.c (.int .u8 (IntKind.u8.wrap ((c.toNat:Int)-(48:Int))))) (.c (.int .u8 ((c.toNat:Int)-(48:Int)))),EqvI (.c (.int .i64 (IntKind.i64.wrap ((c.toNat:Int)-(48:Int))))) (.c (.int .i64 ((c.toNat:Int)-(48:Int)))),EqvD (.c (.int .i64 (IntKind.i64.wrap ((c.toNat:Int)-(48:Int))))) (.c (.int .i64 ((c.toNat:Int)-(48:Int))))] ⟨rfl,fun _ _=>trivial,aS,fun _ _=>trivial,(show EqvD (.c (.int .i64 (IntKind.i64.wrap ((↑c.toNat:Int)-(48:Int))))) (.c (.int .i64 ((↑c.toNat:Int)-(48:Int)))) from aS)⟩ ?_
  exact zr
 | false =>
  rw [hd] at c0
  by_cases h:97≤c∧c≤102
  ·have e:smallI c=(c.toNat:Int)-97+10:=by unfold smallI;rw [hd,if_neg dC,if_pos h]
   have h1:97≤c.toNat:=h.1
   have h2:c.toNat≤102:=h.2
   rw [e]
   have ht:(bif decide ((c.toNat:Int)≥97) then decide ((c.toNat:Int)≤102) else false)=true:=by rw [decide_eq_true oM,decide_eq_true oM];rfl
   have ew:EqvD (.c (.int .u8 (IntKind.u8.wrap ((c.toNat:Int)-97)))) (.c (.int .u8 ((c.toNat:Int)-97))):=eqvD_of (by rw [wrap8 oM oM])
   have ew2:EqvD (.c (.int .i64 (IntKind.i64.wrap ((c.toNat:Int)-97)))) (.c (.int .i64 ((c.toNat:Int)-97))):=eqvD_of (by rw [wrap64 oM oM])
   clear hd h e
   refine zg [(4,{fm:=[(1,.c (.int .u8 ((c.toNat:Int)-97))),(2,.c (.int .i64 ((c.toNat:Int)-97)))]}),(1,{cs:=[(1,pc c0)]})] [false,true] [false=false,(bif decide ((c.toNat:Int)≥(97:Int)) then decide ((c.toNat:Int)≤(102:Int)) else false)=true,EqvI (.c (.int .u8 (IntKind.u8.wrap ((c.toNat:Int)-(97:Int))))) (.c (.int .u8 ((c.toNat:Int)-(97:Int)))),EqvD (.c (.int .u8 (IntKind.u8.wrap ((c.toNat:Int)-(97:Int))))) (.c (.int .u8 ((c.toNat:Int)-(97:Int)))),EqvI (.c (.int .i64 (IntKind.i64.wrap ((c.toNat:Int)-(97:Int))))) (.c (.int .i64 ((c.toNat:Int)-(97:Int)))),EqvD (.c (.int .i64 (IntKind.i64.wrap ((c.toNat:Int)-(97:Int))))) (.c (.int .i64 ((c.toNat:Int)-(97:Int)))),inR .i64 ((c.toNat:Int)-(97:Int)+(10:Int))] ⟨rfl,aS,fun _ _=>trivial,aS,fun _ _=>trivial,aS,i6⟩ ?_
   exact zr
  ·have e:smallI c = -1:=by unfold smallI;rw [hd,if_neg dC,if_neg h]
   rw [e]
   have ht:(bif decide ((c.toNat:Int)≥97) then decide ((c.toNat:Int)≤102) else false)=false:=by
    rw [Bool.cond_false_right,Bool.and_eq_false_iff,decide_eq_false_iff_not,decide_eq_false_iff_not]
    by_cases h1:97≤c.toNat
    ·right;intro h2;exact h ⟨h1,show c.toNat≤102 by omega⟩
    ·left;omega
   clear hd h
   refine zg [(1,{cs:=[(1,pc c0)]})] [false,false] [false=false,(bif decide ((c.toNat:Int)≥(97:Int)) then decide ((c.toNat:Int)≤(102:Int)) else false)=false] ⟨rfl,(show (bif decide ((↑c.toNat:Int)≥(97:Int)) then decide ((↑c.toNat:Int)≤(102:Int)) else false)=false from aS)⟩ ?_
   exact zr
theorem small_rng (c:UInt8) : -1≤smallI c∧smallI c≤15:=by
 unfold smallI
 have:=UInt8.toNat_lt c
 split
 ·rename_i h;have:=dig_to h;omega
 ·split
  ·rename_i h
   have h1:97≤c.toNat:=h.1
   have h2:c.toNat≤102:=h.2
   omega
  ·omega
theorem escR_len (s:List UInt8) (p:Nat) (h:p≤s.length):p≤(escR s p).2.1∧(escR s p).2.1≤s.length∧((escR s p).2.2=0∨(escR s p).2.2=3):=by
 unfold escR
 split
 ·rename_i h1
  have:p<s.length:=by
   unfold atB at h1
   simp only [Bool.or_eq_true,Bool.and_eq_true,decide_eq_true_eq] at h1
   rcases h1 with h1 | h1<;>exact h1.1
  exact ⟨by show p≤p+1;omega,this,.inl rfl⟩
 ·split
  ·rename_i h1
   have hle:p+3≤s.length:=by
    unfold wordB at h1
    have:=congrArg List.length (by simpa using h1:(s.drop p).take 3=[117,48,48])
    simp at this;omega
   split
   ·exact ⟨by show p≤p+3;omega,hle,.inr rfl⟩
   ·split
    ·exact ⟨by show p≤p+5;omega,by show p+5≤_;omega,.inr rfl⟩
    ·exact ⟨by show p≤p+5;omega,by show p+5≤_;omega,.inl rfl⟩
  ·exact ⟨Nat.le_refl _,h,.inr rfl⟩
theorem esc_ok (s:List UInt8) (p:Nat) (hl:s.length≤1000000000) (hp:p≤s.length):FnB Tryz.prog G 174 [rjB s p 0] [.c (.ptr 0 0)] [.c (.int .u8 ((escR s p).1.toNat:Int))] [(0,rjB s (escR s p).2.1 (escR s p).2.2)]:=by
 refine zf Tryz.func174 ?_
 have c1:=at12_ok (G:=G) s p 0 34
 have c2:=at12_ok (G:=G) s p 0 92
 have hor:(bif atB s p 34 then true else atB s p 92)=(atB s p 34||atB s p 92):=cond_or _ _
 cases h1:atB s p 34||atB s p 92 with
 | true =>
  have e:escR s p=(s.getD p 0,p+1,0):=by unfold escR;rw [if_pos h1]
  rw [h1] at hor
  have hlt:p<s.length:=by
   unfold atB at h1
   simp only [Bool.or_eq_true,Bool.and_eq_true,decide_eq_true_eq] at h1
   rcases h1 with h1 | h1<;>exact h1.1
  rw [e]
  have e2:EqvD (.c (.int .i64 (((p+1:Nat):Int)-1))) (.c (.int .i64 (p:Int))):=eqvD_of (by rw [show (((p+1:Nat):Int)-1)=(p:Int) by omega])
  clear h1 e
  rcases Bool.eq_false_or_eq_true (atB s p (34:UInt8)) with h0 | h0
  ·refine zg [(3,{fm:=[(8,.c (.int .i64 (p:Int)))]}),(1,{grd:=[(3,false),(4,false),(5,true)],cs:=[(1,cb [0] c1),(4,cb [0] c2)]})] [true] [atB s p (34:UInt8) = !false,atB s p (34:UInt8) = !false,atB s p (34:UInt8)=true,true=true,inR .i64 ((p:Int)+1),EqvI (.c (.int .i64 ((p:Int)+1-1))) (.c (.int .i64 (p:Int))),EqvD (.c (.int .i64 ((p:Int)+1-1))) (.c (.int .i64 (p:Int))),inR .i64 ((p:Int)+1-1),(0:Int)≤(p:Int)∧(p:Int)<(s.length:Int)] ⟨aS,aS,aS,rfl,i6,fun _ _=>trivial,aS,i6,(show (0:Int)≤(↑p:Int)∧(↑p:Int)<(↑s.length:Int) from oM)⟩ ?_
   exact zb []
  ·refine zg [(3,{fm:=[(8,.c (.int .i64 (p:Int)))]}),(1,{grd:=[(3,true),(4,true)],cs:=[(1,cb [0] c1),(4,cb [0] c2)]})] [true] [atB s p (34:UInt8)=false,atB s p (34:UInt8)=false,(bif atB s p (34:UInt8) then true else atB s p (92:UInt8))=true,inR .i64 ((p:Int)+1),EqvI (.c (.int .i64 ((p:Int)+1-1))) (.c (.int .i64 (p:Int))),EqvD (.c (.int .i64 ((p:Int)+1-1))) (.c (.int .i64 (p:Int))),inR .i64 ((p:Int)+1-1),(0:Int)≤(p:Int)∧(p:Int)<(s.length:Int)] ⟨aS,aS,aS,i6,fun _ _=>trivial,aS,i6,(show (0:Int)≤(↑p:Int)∧(↑p:Int)<(↑s.length:Int) from oM)⟩ ?_
   exact zb []
 | false =>
  rw [h1] at hor
  cases h2:wordB s p [117,48,48] with
  | false =>
   have e:escR s p=(0,p,3):=by unfold escR;rw [if_neg (by rw [h1];decide),if_neg (by rw [h2];decide)]
   rw [e]
   have c3:=word_no (G:=G) s p [117,48,48] hl dC hp h2
   clear h1 h2 e
   refine zg [(1,{grd:=[(3,true),(4,true)],cs:=[(1,cb [0] c1),(4,cb [0] c2)]}),(4,{cs:=[(1,cb [0] c3)]}),(6,{cs:=[(1,cb [0] (fail_e s p (3:Int) (3:Int) rfl))]})] [false,true] [atB s p (34:UInt8)=false,atB s p (34:UInt8)=false,(bif atB s p (34:UInt8) then true else atB s p (92:UInt8))=false,((3:Int) != (0:Int))=false→inR .i64 ((s.length:Int)-(p:Int)),(bif (3:Int) != (0:Int) then true else decide ((s.length:Int)-(p:Int)<(2:Int)))=true] ⟨(by simp_all<;>omega),(by simp_all<;>omega),aS,(fun _=>i6),rfl⟩ ?_
   exact zb []
  | true =>
   have c3:=word_yes (G:=G) s p [117,48,48] hl dC hp h2
   have hle:p+3≤s.length:=by
    unfold wordB at h2
    have:=congrArg List.length (by simpa using h2:(s.drop p).take 3=[117,48,48])
    simp at this;omega
   have e:escR s p=if s.length<p+5 then (0,p+3,3) else if smallI (s.getD (p+3) 0)<0∨smallI (s.getD (p+3) 0)>1∨smallI (s.getD (p+4) 0)<0 then (0,p+5,3) else (UInt8.ofNat (smallI (s.getD (p+3) 0)*16+smallI (s.getD (p+4) 0)).toNat,p+5,0):=by
    unfold escR;rw [if_neg (by rw [h1];decide),if_pos h2]
   rw [e]
   clear h1 h2 e
   have c3:FnB Tryz.prog G 122 [rjB s p 0] [.c (.ptr 0 0),.c (.str [117,48,48])] [] [(0,rjB s (p+3) 0)]:=c3
   by_cases h3:s.length<p+5
   ·rw [if_pos h3]
    have ht:decide ((s.length:Int)-((p+3:Nat):Int)<2)=true:=decide_eq_true oM
    refine zg [(1,{grd:=[(3,true),(4,true)],cs:=[(1,cb [0] c1),(4,cb [0] c2)]}),(4,{cs:=[(1,cb [0] c3)]}),(6,{cs:=[(1,cb [0] (fail_0 s (p+(3:Nat)) (3:Int)))]})] [false,true] [atB s p (34:UInt8)=false,atB s p (34:UInt8)=false,(bif atB s p (34:UInt8) then true else atB s p (92:UInt8))=false,((0:Int) != (0:Int))=false→inR .i64 ((s.length:Int)-(↑(p+(3:Nat)):Int)),(bif (0:Int) != (0:Int) then true else decide ((s.length:Int)-(↑(p+(3:Nat)):Int)<(2:Int)))=true] ⟨(by simp_all<;>omega),(by simp_all<;>omega),aS,(fun _=>i6),(show (bif (0:Int) != (0:Int) then true else decide ((↑s.length:Int)-(↑(p+(3:Nat)):Int)<(2:Int)))=true from aS)⟩ ?_
    exact zb []
   ·rw [if_neg h3]
    have ht:decide ((s.length:Int)-((p+3:Nat):Int)<2)=false:=decide_eq_false oM
    have c4:=small12_ok (G:=G) (s.getD (p+3) 0)
    have c5:=small12_ok (G:=G) (s.getD (p+4) 0)
    have r1:=small_rng (s.getD (p+3) 0)
    have r2:=small_rng (s.getD (p+4) 0)
    generalize smallI (s.getD (p+3) 0)=a at *
    generalize smallI (s.getD (p+4) 0)=b at *
    by_cases h4:a<0∨a>1∨b<0
    ·rw [if_pos h4]
     have ht2:(bif bif decide (a<0) then true else decide (a>1) then true else decide (b<0))=true:=by
      rw [cond_or,cond_or];simpa [or_assoc] using h4
     clear h4
     refine zg [(1,{grd:=[(3,true),(4,true)],cs:=[(1,cb [0] c1),(4,cb [0] c2)]}),(4,{cs:=[(1,cb [0] c3)]}),(8,{cs:=[(9,pc c4),(20,pc c5)]}),(11,{cs:=[(1,cb [0] (fail_0 s (p+(3:Nat)+2) (3:Int)))]})] [false,false,true] [atB s p (34:UInt8)=false,atB s p (34:UInt8)=false,(bif atB s p (34:UInt8) then true else atB s p (92:UInt8))=false,((0:Int) != (0:Int))=false→inR .i64 ((s.length:Int)-(↑(p+(3:Nat)):Int)),(bif (0:Int) != (0:Int) then true else decide ((s.length:Int)-(↑(p+(3:Nat)):Int)<(2:Int)))=false,(0:Int)≤(↑(p+(3:Nat)):Int)∧(↑(p+(3:Nat)):Int)<(s.length:Int),inR .i64 ((↑(p+(3:Nat)):Int)+(1:Int)),(0:Int)≤(↑(p+(3:Nat)):Int)+(1:Int)∧(↑(p+(3:Nat)):Int)+(1:Int)<(s.length:Int),inR .i64 ((↑(p+(3:Nat)):Int)+(2:Int)),(bif bif decide (a<(0:Int)) then true else decide (a>(1:Int)) then true else decide (b<(0:Int)))=true] ⟨(by simp_all<;>omega),(by simp_all<;>omega),aS,(fun _=>i6),aS,oM,i6,oM,i6,(show (bif bif decide (a<(0:Int)) then true else decide (a>(1:Int)) then true else decide (b<(0:Int)))=true from aS)⟩ ?_
     exact zb []
    ·rw [if_neg h4]
     have ht2:(bif bif decide (a<0) then true else decide (a>1) then true else decide (b<0))=false:=by
      rw [cond_or,cond_or];simp only [Bool.or_eq_false_iff,decide_eq_false_iff_not];omega
     have e5:EqvD (.c (.int .u8 (IntKind.u8.wrap (a*16+b)))) (.c (.int .u8 ((UInt8.ofNat (a*16+b).toNat).toNat:Int))):=eqvD_of (by
      rw [wrap8 oM oM]
      congr 2
      simp;omega)
     clear h4
     refine zg [(13,{fm:=[(4,.c (.int .u8 ((UInt8.ofNat (a*16+b).toNat).toNat:Int)))]}),(1,{grd:=[(3,true),(4,true)],cs:=[(1,cb [0] c1),(4,cb [0] c2)]}),(4,{cs:=[(1,cb [0] c3)]}),(8,{cs:=[(9,pc c4),(20,pc c5)]})] [false,false,false] [atB s p (34:UInt8)=false,atB s p (34:UInt8)=false,(bif atB s p (34:UInt8) then true else atB s p (92:UInt8))=false,((0:Int) != (0:Int))=false→inR .i64 ((s.length:Int)-(↑(p+(3:Nat)):Int)),(bif (0:Int) != (0:Int) then true else decide ((s.length:Int)-(↑(p+(3:Nat)):Int)<(2:Int)))=false,(0:Int)≤(↑(p+(3:Nat)):Int)∧(↑(p+(3:Nat)):Int)<(s.length:Int),inR .i64 ((↑(p+(3:Nat)):Int)+(1:Int)),(0:Int)≤(↑(p+(3:Nat)):Int)+(1:Int)∧(↑(p+(3:Nat)):Int)+(1:Int)<(s.length:Int),inR .i64 ((↑(p+(3:Nat)):Int)+(2:Int)),(bif bif decide (a<(0:Int)) then true else decide (a>(1:Int)) then true else decide (b<(0:Int)))=false,inR .i64 (a*16),inR .i64 (a*16+b),EqvI (.c (.int .u8 (IntKind.u8.wrap (a*(16:Int)+b)))) (.c (.int .u8 (↑(UInt8.ofNat (a*(16:Int)+b).toNat).toNat:Int))),EqvD (.c (.int .u8 (IntKind.u8.wrap (a*(16:Int)+b)))) (.c (.int .u8 (↑(UInt8.ofNat (a*(16:Int)+b).toNat).toNat:Int)))] ⟨(by simp_all<;>omega),(by simp_all<;>omega),aS,(fun _=>i6),aS,oM,i6,oM,i6,aS,i6,i6,fun _ _=>trivial,(show EqvD (.c (.int .u8 (IntKind.u8.wrap (a*(16:Int)+b)))) (.c (.int .u8 (↑(UInt8.ofNat (a*(16:Int)+b).toNat).toNat:Int))) from aS)⟩ ?_
     exact zb []
def txtS (s:List UInt8) (p:Nat):List UInt8×Nat×Int:=if atB s (skP s p) 34 then txtR s (s.length+1) (skP s p+1) [] else ([],skP s p,3)
theorem textR_eq (s:List UInt8) (p:Nat):textR s p=txtE (txtS s p):=by
 unfold textR txtS;split
 ·rfl
 ·rfl
def txtF (s:List UInt8) (R:List UInt8×Nat×Int) (x:Int×Nat×Nat×Nat×List UInt8):Prop:=x.2.2.1≤s.length∧x.2.2.2.1=x.2.2.2.2.length∧x.2.2.2.1≤x.2.2.1∧((x.1=0∧txtR s x.2.1 x.2.2.1 x.2.2.2.2=R∧s.length<x.2.2.1+x.2.1)∨(x.1=3∧R=(x.2.2.2.2,x.2.2.1,3)))
theorem txt12_ok (s:List UInt8) (p:Nat) (hl:s.length≤1000000000) (hp:p≤s.length):FnB Tryz.prog G 123 [rjB s p 0] [.c (.ptr 0 0)] [.c (.str (textR s p).1)] [(0,rjB s (textR s p).2.1 (textR s p).2.2)]:=by
 refine zf Tryz.func123 ?_
 have hq:=skP_len s p hp
 rw [textR_eq]
 have hw:∃ (e:Int) (m k:Nat),txtF s (txtS s p) (e,m,k,0,[])∧wantR s p 34=(k,e):=by
  cases hb:atB s (skP s p) 34 with
  | true =>
   have hlt:skP s p<s.length:=by
    unfold atB at hb
    simp only [Bool.and_eq_true,decide_eq_true_eq] at hb
    exact hb.1
   exact ⟨0,s.length+1,skP s p+1,⟨hlt,rfl,Nat.zero_le _,.inl ⟨rfl,by unfold txtS;rw [if_pos hb],by show s.length<skP s p+1+(s.length+1);omega⟩⟩,by unfold wantR;rw [if_pos hb]⟩
  | false=>exact ⟨3,0,skP s p,⟨hq,rfl,Nat.zero_le _,.inr ⟨rfl,by unfold txtS; rw [if_neg (by rw [hb]; decide)]⟩⟩,by unfold wantR; rw [if_neg (by rw [hb]; decide)]⟩
 obtain ⟨e,m,k,hF,hw⟩:=hw
 have c1:=want_ok (G:=G) s p 34 hl hp
 rw [hw] at c1
 generalize txtS s p=R at *
 clear hw
 refine z0 [(1,{cs:=[(1,cb [0] c1)]})] [] ?_
 refine Wp.loopK kR (fun (x:Int×Nat×Nat×Nat×List UInt8)=>⟨[(0,.v (.c (.ptr 0 0))),(3,.v (.c (.row 1 65 0 x.2.2.2.1)))],[(0,rjB s x.2.2.1 x.1),(65,.row 5 1 x.2.2.2.1 (bytesF x.2.2.2.2))],81⟩) (txtF s R) (fun x=>x.2.1) (e,m,k,0,[]) (Ent.trans (Ent.empT (t:=3) (sz:=1) (e:=5) (f:=(bytesF [])) dC kR rfl) (Ent.of [] kR kR kR trivial)) hF ?_
 clear hF hq
 rintro ⟨e,m,k,n,b⟩ L ⟨hk,hn,hnk,hR⟩ again
 simp only at hk hn hnk hR
 have ea:byteL (bytesF b) 0 n=b:=byteL_F _ hn
 have eb:areBytes (bytesF b) 0 n:=areBytes_F _ _ _
 have ee:EqvD (.c (.str (byteL (bytesF b) 0 n))) (.c (.str b)):=eqvD_of (by rw [ea])
 have cv:=valid6_ok (G:=G) b oM
 rcases hR with ⟨rfl,hR,hm⟩ | ⟨rfl,rfl⟩
 ·rcases m with _ | m
  ·omega
  rw [txtR] at hR
  rcases Nat.lt_or_ge k s.length with hlt | hge
  ·by_cases h32:s.getD k 0<32
   ·rw [if_pos (.inr h32)] at hR
    subst hR
    clear again
    have ht:(bif decide ((k:Int)≥(s.length:Int)) then true else decide (((s.getD k 0).toNat:Int)<32))=true:=by
     have:(s.getD k 0).toNat<32:=h32
     rw [cond_or,decide_eq_true (show ((s.getD k 0).toNat:Int)<32 by omega)];simp
    clear h32
    cases hv:validT b with
    | true =>
     rw [hv] at cv
     clear hv
     refine zg [(12,{cs:=[(2,pc cv)],fm:=[(1,.c (.str b))]}),(14,{fm:=[(1,.c (.str b))]}),(5,{cs:=[(1,cb [0] (fail_0 s k (3:Int)))]})] [true,true,false] [((0:Int)==(0:Int))=true,decide ((k:Int)≥(s.length:Int))=false→(0:Int)≤(k:Int)∧(k:Int)<(s.length:Int),(bif decide ((k:Int)≥(s.length:Int)) then true else decide ((↑(s.getD k (0:UInt8)).toNat:Int)<(32:Int)))=true,EqvI (.c (.str (byteL (bytesF b) 0 n))) (.c (.str b)),EqvD (.c (.str (byteL (bytesF b) 0 n))) (.c (.str b)),0+n≤n,areBytes (bytesF b) 0 n,(!true)=false,EqvI (.c (.str (byteL (bytesF b) 0 n))) (.c (.str b)),EqvD (.c (.str (byteL (bytesF b) 0 n))) (.c (.str b)),0+n≤n,areBytes (bytesF b) 0 n] ⟨rfl,oM,aS,fun _ _=>trivial,aS,oM,aS,rfl,fun _ _=>trivial,aS,oM,(show areBytes (bytesF b) (0:Nat) n from aS)⟩ ?_
     exact zb []
    | false =>
     rw [hv] at cv
     clear hv
     refine zg [(12,{cs:=[(2,pc cv)],fm:=[(1,.c (.str b))]}),(14,{fm:=[(1,.c (.str b))]}),(5,{cs:=[(1,cb [0] (fail_0 s k (3:Int)))]}),(13,{cs:=[(1,cb [0] (fail_e s k (3:Int) (3:Int) rfl))]})] [true,true,true] [((0:Int)==(0:Int))=true,decide ((k:Int)≥(s.length:Int))=false→(0:Int)≤(k:Int)∧(k:Int)<(s.length:Int),(bif decide ((k:Int)≥(s.length:Int)) then true else decide ((↑(s.getD k (0:UInt8)).toNat:Int)<(32:Int)))=true,EqvI (.c (.str (byteL (bytesF b) 0 n))) (.c (.str b)),EqvD (.c (.str (byteL (bytesF b) 0 n))) (.c (.str b)),0+n≤n,areBytes (bytesF b) 0 n,(!false)=true,EqvI (.c (.str (byteL (bytesF b) 0 n))) (.c (.str b)),EqvD (.c (.str (byteL (bytesF b) 0 n))) (.c (.str b)),0+n≤n,areBytes (bytesF b) 0 n] ⟨rfl,oM,aS,fun _ _=>trivial,aS,oM,aS,rfl,fun _ _=>trivial,aS,oM,(show areBytes (bytesF b) (0:Nat) n from aS)⟩ ?_
     exact zb []
   ·rw [if_neg (by rintro (h | h);omega;exact h32 h)] at hR
    have ht:(bif decide ((k:Int)≥(s.length:Int)) then true else decide (((s.getD k 0).toNat:Int)<32))=false:=by
     have:¬ (s.getD k 0).toNat<32:=h32
     rw [cond_or,decide_eq_false (show ¬ ((s.getD k 0).toNat:Int)<32 by omega),decide_eq_false oM];rfl
    clear h32
    have hc1:(((s.getD k 0).toNat:Int)==34)=(s.getD k 0==34):=ibeq _ 34
    have hc2:(((s.getD k 0).toNat:Int)==92)=(s.getD k 0==92):=ibeq _ 92
    by_cases h34:s.getD k 0=34
    ·rw [if_pos h34] at hR
     rw [beq_iff_eq.2 h34] at hc1
     subst hR
     clear again hc2 h34
     cases hv:validT b with
     | true =>
      rw [hv] at cv
      refine zg [(12,{cs:=[(2,pc cv)],fm:=[(1,.c (.str b))]}),(14,{fm:=[(1,.c (.str b))]})] [true,false,true,false] [((0:Int)==(0:Int))=true,decide ((k:Int)≥(s.length:Int))=false→(0:Int)≤(k:Int)∧(k:Int)<(s.length:Int),(bif decide ((k:Int)≥(s.length:Int)) then true else decide ((↑(s.getD k (0:UInt8)).toNat:Int)<(32:Int)))=false,(0:Int)≤(k:Int)∧(k:Int)<(s.length:Int),inR .i64 ((k:Int)+1),((↑(s.getD k (0:UInt8)).toNat:Int)==(34:Int))=true,EqvI (.c (.str (byteL (bytesF b) 0 n))) (.c (.str b)),EqvD (.c (.str (byteL (bytesF b) 0 n))) (.c (.str b)),0+n≤n,areBytes (bytesF b) 0 n,(!true)=false,EqvI (.c (.str (byteL (bytesF b) 0 n))) (.c (.str b)),EqvD (.c (.str (byteL (bytesF b) 0 n))) (.c (.str b)),0+n≤n,areBytes (bytesF b) 0 n] ⟨rfl,oM,aS,oM,i6,aS,fun _ _=>trivial,aS,oM,aS,rfl,fun _ _=>trivial,aS,oM,(show areBytes (bytesF b) (0:Nat) n from aS)⟩ ?_
      refine Wp.ret' kR ?_
      exact FinQ.blkE (rs':=[V1.c (Cell.str b)]) (hout':=[(0,Blk.box 116 [Cell.str s,Cell.int .i64 ((↑k:Int)+(1:Int)),Cell.int .i64 (0:Int)])]) (by simp [txtE,rjB,txtE, *]) [] kR kR kR kR kR trivial
     | false =>
      rw [hv] at cv
      refine zg [(12,{cs:=[(2,pc cv)],fm:=[(1,.c (.str b))]}),(14,{fm:=[(1,.c (.str b))]}),(13,{cs:=[(1,cb [0] (fail_0 s (k+1) (3:Int)))]})] [true,false,true,true] [((0:Int)==(0:Int))=true,decide ((k:Int)≥(s.length:Int))=false→(0:Int)≤(k:Int)∧(k:Int)<(s.length:Int),(bif decide ((k:Int)≥(s.length:Int)) then true else decide ((↑(s.getD k (0:UInt8)).toNat:Int)<(32:Int)))=false,(0:Int)≤(k:Int)∧(k:Int)<(s.length:Int),inR .i64 ((k:Int)+1),((↑(s.getD k (0:UInt8)).toNat:Int)==(34:Int))=true,EqvI (.c (.str (byteL (bytesF b) 0 n))) (.c (.str b)),EqvD (.c (.str (byteL (bytesF b) 0 n))) (.c (.str b)),0+n≤n,areBytes (bytesF b) 0 n,(!false)=true,EqvI (.c (.str (byteL (bytesF b) 0 n))) (.c (.str b)),EqvD (.c (.str (byteL (bytesF b) 0 n))) (.c (.str b)),0+n≤n,areBytes (bytesF b) 0 n] ⟨rfl,oM,aS,oM,i6,aS,fun _ _=>trivial,aS,oM,aS,rfl,fun _ _=>trivial,aS,oM,(show areBytes (bytesF b) (0:Nat) n from aS)⟩ ?_
      refine Wp.ret' kR ?_
      exact FinQ.blkE (rs':=[V1.c (Cell.str b)]) (hout':=[(0,Blk.box 116 [Cell.str s,Cell.int .i64 (↑(k+1):Int),Cell.int .i64 (3:Int)])]) (by simp [txtE,rjB,txtE, *]) [] kR kR kR kR kR trivial
    ·rw [if_neg h34] at hR
     rw [beq_eq_false_iff_ne.2 h34] at hc1
     by_cases h92:s.getD k 0=92
     ·rw [if_pos h92] at hR
      rw [beq_iff_eq.2 h92] at hc2
      have c2:=esc_ok (G:=G) s (k+1) hl hlt
      obtain ⟨g1,g2,g3⟩:=escR_len s (k+1) hlt
      generalize escR s (k+1)=x at *
      obtain ⟨c',k',e'⟩:=x
      simp only at g1 g2 g3 hR c2
      have e1:BlkEqv (.row 5 1 (n+1) (catF n (bytesF b) (fun i j=>nthD [.int .u8 (c'.toNat:Int)] ((0+i)*1+j)))) (.row 5 1 (n+1) (bytesF (b++[c']))):=bytes_app b [c'] hn
      have hn':n+1=(b++[c']).length:=by simp [hn]
      have hF:txtF s R (e',m,k',n+1,b++[c']):=by
       refine ⟨g2,hn',by show n+1≤k';omega,?_⟩
       rcases g3 with rfl | rfl
       ·rw [if_pos rfl] at hR
        exact .inl ⟨rfl,hR,by show s.length<k'+m;omega⟩
       ·rw [if_neg dC] at hR
        exact .inr ⟨rfl,hR.symm⟩
      clear hR h92 h34 g3
      refine zg [(11,{bs:=[(3,.row 5 1 (n+1) (bytesF (b++[c'])))]}),(10,{cs:=[(1,cb [0] c2)]})] [true,false,false,true] [((0:Int)==(0:Int))=true,decide ((k:Int)≥(s.length:Int))=false→(0:Int)≤(k:Int)∧(k:Int)<(s.length:Int),(bif decide ((k:Int)≥(s.length:Int)) then true else decide ((↑(s.getD k (0:UInt8)).toNat:Int)<(32:Int)))=false,(0:Int)≤(k:Int)∧(k:Int)<(s.length:Int),inR .i64 ((k:Int)+1),((↑(s.getD k (0:UInt8)).toNat:Int)==(34:Int))=false,((↑(s.getD k (0:UInt8)).toNat:Int)==(92:Int))=true,(n+1)*1≤140737488355328,BlkEqv (.row 5 (1:Nat) (n+(1:Nat)) (catF n (bytesF b) fun i j=>nthD [.int .u8 (c'.toNat:Int)] (((0:Nat)+i)*(1:Nat)+j))) (.row 5 (1:Nat) (n+(1:Nat)) (bytesF (b++[c']))),n≤n,0+1≤1] ⟨rfl,oM,aS,oM,i6,aS,aS,oM,aS,oM,(show (0:Nat)+(1:Nat)≤(1:Nat) from oM)⟩ ?_
      exact za [(65,961)] (again _ (e',m,k',n+1,b++[c']) aS (by simp only;omega))
     ·rw [if_neg h92] at hR
      rw [beq_eq_false_iff_ne.2 h92] at hc2
      have e1:BlkEqv (.row 5 1 (n+1) (catF n (bytesF b) (fun i j=>nthD [.int .u8 ((s.getD k 0).toNat:Int)] ((0+i)*1+j)))) (.row 5 1 (n+1) (bytesF (b++[s.getD k 0]))):=bytes_app b [s.getD k 0] hn
      have hn':n+1=(b++[s.getD k 0]).length:=by simp [hn]
      have hF:txtF s R (0,m,k+1,n+1,b++[s.getD k 0]):=⟨hlt,hn',by show n+1≤k+1;omega,.inl ⟨rfl,hR,by show s.length<k+1+m;omega⟩⟩
      clear hR h92 h34
      refine zg [(11,{bs:=[(3,.row 5 1 (n+1) (bytesF (b++[s.getD k 0])))]})] [true,false,false,false] [((0:Int)==(0:Int))=true,decide ((k:Int)≥(s.length:Int))=false→(0:Int)≤(k:Int)∧(k:Int)<(s.length:Int),(bif decide ((k:Int)≥(s.length:Int)) then true else decide ((↑(s.getD k (0:UInt8)).toNat:Int)<(32:Int)))=false,(0:Int)≤(k:Int)∧(k:Int)<(s.length:Int),inR .i64 ((k:Int)+1),((↑(s.getD k (0:UInt8)).toNat:Int)==(34:Int))=false,((↑(s.getD k (0:UInt8)).toNat:Int)==(92:Int))=false,(n+1)*1≤140737488355328,BlkEqv (.row 5 (1:Nat) (n+(1:Nat)) (catF n (bytesF b) fun i j=>nthD [.int .u8 (↑(s.getD k (0:UInt8)).toNat:Int)] (((0:Nat)+i)*(1:Nat)+j))) (.row 5 (1:Nat) (n+(1:Nat)) (bytesF (b++[s.getD k (0:UInt8)]))),n≤n,0+1≤1] ⟨rfl,oM,aS,oM,i6,aS,aS,oM,aS,oM,(show (0:Nat)+(1:Nat)≤(1:Nat) from oM)⟩ ?_
      exact za [(65,913)] (again _ (0,m,k+1,n+1,b++[s.getD k 0]) aS (by simp only;omega))
  ·rw [if_pos (.inl hge)] at hR
   subst hR
   clear again
   have ht:(bif decide ((k:Int)≥(s.length:Int)) then true else decide (((s.getD k 0).toNat:Int)<32))=true:=by
    rw [decide_eq_true oM];rfl
   cases hv:validT b with
   | true =>
    rw [hv] at cv
    clear hv
    refine zg [(12,{cs:=[(2,pc cv)],fm:=[(1,.c (.str b))]}),(14,{fm:=[(1,.c (.str b))]}),(5,{cs:=[(1,cb [0] (fail_0 s k (3:Int)))]})] [true,true,false] [((0:Int)==(0:Int))=true,decide ((k:Int)≥(s.length:Int))=false→(0:Int)≤(k:Int)∧(k:Int)<(s.length:Int),(bif decide ((k:Int)≥(s.length:Int)) then true else decide ((↑(s.getD k (0:UInt8)).toNat:Int)<(32:Int)))=true,EqvI (.c (.str (byteL (bytesF b) 0 n))) (.c (.str b)),EqvD (.c (.str (byteL (bytesF b) 0 n))) (.c (.str b)),0+n≤n,areBytes (bytesF b) 0 n,(!true)=false,EqvI (.c (.str (byteL (bytesF b) 0 n))) (.c (.str b)),EqvD (.c (.str (byteL (bytesF b) 0 n))) (.c (.str b)),0+n≤n,areBytes (bytesF b) 0 n] ⟨rfl,(by simp;done),aS,fun _ _=>trivial,aS,oM,aS,rfl,fun _ _=>trivial,aS,oM,(show areBytes (bytesF b) (0:Nat) n from aS)⟩ ?_
    exact zb []
   | false =>
    rw [hv] at cv
    clear hv
    refine zg [(12,{cs:=[(2,pc cv)],fm:=[(1,.c (.str b))]}),(14,{fm:=[(1,.c (.str b))]}),(5,{cs:=[(1,cb [0] (fail_0 s k (3:Int)))]}),(13,{cs:=[(1,cb [0] (fail_e s k (3:Int) (3:Int) rfl))]})] [true,true,true] [((0:Int)==(0:Int))=true,decide ((k:Int)≥(s.length:Int))=false→(0:Int)≤(k:Int)∧(k:Int)<(s.length:Int),(bif decide ((k:Int)≥(s.length:Int)) then true else decide ((↑(s.getD k (0:UInt8)).toNat:Int)<(32:Int)))=true,EqvI (.c (.str (byteL (bytesF b) 0 n))) (.c (.str b)),EqvD (.c (.str (byteL (bytesF b) 0 n))) (.c (.str b)),0+n≤n,areBytes (bytesF b) 0 n,(!false)=true,EqvI (.c (.str (byteL (bytesF b) 0 n))) (.c (.str b)),EqvD (.c (.str (byteL (bytesF b) 0 n))) (.c (.str b)),0+n≤n,areBytes (bytesF b) 0 n] ⟨rfl,(by simp;done),aS,fun _ _=>trivial,aS,oM,aS,rfl,fun _ _=>trivial,aS,oM,(show areBytes (bytesF b) (0:Nat) n from aS)⟩ ?_
    exact zb []
 ·clear again
  cases hv:validT b with
  | true =>
   rw [hv] at cv
   clear hv
   refine zg [(12,{cs:=[(2,pc cv)],fm:=[(1,.c (.str b))]}),(14,{fm:=[(1,.c (.str b))]})] [false,false] [((3:Int)==(0:Int))=false,EqvI (.c (.str (byteL (bytesF b) 0 n))) (.c (.str b)),EqvD (.c (.str (byteL (bytesF b) 0 n))) (.c (.str b)),0+n≤n,areBytes (bytesF b) 0 n,(!true)=false,EqvI (.c (.str (byteL (bytesF b) 0 n))) (.c (.str b)),EqvD (.c (.str (byteL (bytesF b) 0 n))) (.c (.str b)),0+n≤n,areBytes (bytesF b) 0 n] ⟨rfl,fun _ _=>trivial,aS,oM,aS,rfl,fun _ _=>trivial,aS,oM,(show areBytes (bytesF b) (0:Nat) n from aS)⟩ ?_
   exact zb []
  | false =>
   rw [hv] at cv
   clear hv
   refine zg [(12,{cs:=[(2,pc cv)],fm:=[(1,.c (.str b))]}),(14,{fm:=[(1,.c (.str b))]}),(13,{cs:=[(1,cb [0] (fail_e s k (3:Int) (3:Int) rfl))]})] [false,true] [((3:Int)==(0:Int))=false,EqvI (.c (.str (byteL (bytesF b) 0 n))) (.c (.str b)),EqvD (.c (.str (byteL (bytesF b) 0 n))) (.c (.str b)),0+n≤n,areBytes (bytesF b) 0 n,(!false)=true,EqvI (.c (.str (byteL (bytesF b) 0 n))) (.c (.str b)),EqvD (.c (.str (byteL (bytesF b) 0 n))) (.c (.str b)),0+n≤n,areBytes (bytesF b) 0 n] ⟨rfl,fun _ _=>trivial,aS,oM,aS,rfl,fun _ _=>trivial,aS,oM,(show areBytes (bytesF b) (0:Nat) n from aS)⟩ ?_
   exact zb []
theorem digP_yes {s:List UInt8} {p:Nat} (h:p<s.length) (hb:digitB (s.getD p 0)=true):digP s p=digP s (p+1)∧(s.drop p).takeWhile digitB=s.getD p 0::(s.drop (p+1)).takeWhile digitB:=by
 unfold digP
 rw [dropS s p h,List.takeWhile_cons,if_pos hb,List.length_cons]
 exact ⟨by omega,rfl⟩
theorem digP_no {s:List UInt8} {p:Nat} (h:p<s.length→digitB (s.getD p 0)=false):digP s p=p∧(s.drop p).takeWhile digitB=[]:=by
 unfold digP
 rcases Nat.lt_or_ge p s.length with hl | hl
 ·rw [dropS s p hl,List.takeWhile_cons,h hl];exact ⟨rfl,rfl⟩
 ·rw [List.drop_eq_nil_of_le hl];exact ⟨rfl,rfl⟩
theorem accN_big:∀ (t:List UInt8) (n:Nat),(∀ c∈t,digitB c=true)→n≤90071992547409929→accN t n≤90071992547409929
 | [],n,_,h=>h
 | c::t,n,hd,h=>by
  rw [accN]
  have:=dig_to (hd c (by simp))
  exact accN_big t _ (fun x hx=>hd x (by simp [hx])) (by split<;>omega)
theorem tk_dig (l:List UInt8):∀ c∈l.takeWhile digitB,digitB c=true:=fun c hc=>by
 induction l with
 | nil=>simp at hc
 | cons x r ih =>
  rw [List.takeWhile_cons] at hc
  split at hc
  ·rename_i h
   rcases List.mem_cons.1 hc with rfl | hc
   ·exact h
   ·exact ih hc
  ·simp at hc
theorem sgP_le (s:List UInt8) (p:Nat) (h:p≤s.length):p≤sgP s p∧sgP s p≤s.length:=by
 unfold sgP;split
 ·rename_i h1
  unfold atB at h1
  simp only [Bool.and_eq_true,decide_eq_true_eq] at h1
  omega
 ·omega
def nmB (s:List UInt8) (p Q:Nat) (V:Int):Bool:=bif bif decide (V>9007199254740992) then true else decide (V < -9007199254740992) then true else !(Lib.itoa V==List.drop (Int.ofNat p).toNat (List.take (Int.ofNat Q).toNat s))
theorem nmB_eq (s:List UInt8) (p:Nat):nmB s p (digP s (sgP s p)) (numV s p) = !numOk s p:=by
 unfold nmB numOk
 have e:List.drop (Int.ofNat p).toNat (List.take (Int.ofNat (digP s (sgP s p))).toNat s)=(s.drop p).take (digP s (sgP s p)-p):=by
  show List.drop p (List.take (digP s (sgP s p)) s)=_
  rw [List.drop_take]
 rw [e,cond_or,cond_or]
 generalize (Lib.itoa (numV s p)==(s.drop p).take (digP s (sgP s p)-p))=x
 generalize numV s p=V
 rw [show decide (V>9007199254740992) = !decide (V≤9007199254740992) by rw [← decide_not];exact decide_eq_decide.2 oM,show decide (V < -9007199254740992) = !decide (-9007199254740992≤V) by rw [← decide_not];exact decide_eq_decide.2 oM]
 cases decide (V≤9007199254740992)<;>cases decide (-9007199254740992≤V)<;>cases x<;>rfl
theorem num12_ok (s:List UInt8) (p:Nat) (hl:s.length≤1000000000) (hp:p<s.length):FnB Tryz.prog G 126 [rjB s p 0] [.c (.ptr 0 0)] [.c (.int .i64 (numR s p).1)] [(0,rjB s (numR s p).2.1 (numR s p).2.2)]:=by
 refine zf Tryz.func126 ?_
 have c1:=at12_ok (G:=G) s p 0 45
 have hsg:=sgP_le s p oM
 have hQ:=digP_len s (sgP s p) hsg.2
 have hQ2:=digP_le s (sgP s p)
 have hnm:=nmB_eq s p
 have hM:=accN_big _ 0 (tk_dig (s.drop (sgP s p))) dC
 have hV:numV s p=if s.getD p 0=45 then -(accN ((s.drop (sgP s p)).takeWhile digitB) 0:Int) else (accN ((s.drop (sgP s p)).takeWhile digitB) 0:Int):=rfl
 have hR:numR s p=(numV s p,digP s (sgP s p),if numOk s p then 0 else 3):=rfl
 rw [hR]
 clear hR
 have hs:(atB s p 45=true∧sgP s p=p+1)∨(atB s p 45=false∧sgP s p=p):=by
  unfold sgP
  cases atB s p 45
  ·exact .inr ⟨rfl,rfl⟩
  ·exact .inl ⟨rfl,rfl⟩
 have ha:atB s p 45=(s.getD p 0==45):=by unfold atB;rw [decide_eq_true hp];rfl
 have hx0:sgP s p≤s.length∧digP s (sgP s p)=digP s (sgP s p)∧accN ((s.drop (sgP s p)).takeWhile digitB) 0=accN ((s.drop (sgP s p)).takeWhile digitB) 0∧(0:Nat)≤90071992547409929:=⟨hsg.2,rfl,rfl,by omega⟩
 rcases hs with ⟨h1,h2⟩ | ⟨h1,h2⟩
 ·rw [h1] at c1 ha
  rw [h2] at hV hx0 hQ hQ2 hsg hnm hM
  rw [h2]
  rw [if_pos (by simpa using ha.symm)] at hV
  obtain ⟨Q,hQe⟩:∃ Q,digP s (p+1)=Q:=⟨_,rfl⟩
  obtain ⟨M,hMe⟩:∃ M,accN ((s.drop (p+1)).takeWhile digitB) 0=M:=⟨_,rfl⟩
  have hx0:(p+1)≤s.length∧digP s (p+1)=Q∧accN ((s.drop (p+1)).takeWhile digitB) 0=M∧0≤90071992547409929:=⟨hsg.2,hQe,hMe,by omega⟩
  rw [hQe] at hQ hQ2 hnm ⊢
  rw [hMe] at hM hV
  clear hQe hMe
  have h45:(((s.getD p 0).toNat:Int)==45)=true:=(ibeq (s.getD p 0) 45).trans ha.symm
  refine zg [(2,{cs:=[(1,cb [0] c1)]})] [true] [true=true,inR .i64 ((p:Int)+1)] ⟨rfl,i6⟩ ?_
  refine zl (fun (x:Nat×Nat)=>⟨[(0,.v (.c (.ptr 0 0))),(3,.v (.c (.int .i64 (p:Int)))),(4,.v (.c (.int .i64 (x.2:Int))))],[(0,rjB s x.1 0)],273⟩) (fun x=>x.1≤s.length∧digP s x.1=Q∧accN ((s.drop x.1).takeWhile digitB) x.2=M∧x.2≤90071992547409929) (fun x=>s.length-x.1) (p+1,0) hx0 ?_
  clear hx0
  rintro ⟨k,m⟩ L ⟨hk,hq,hm,hmb⟩ again
  simp only at hk hq hm hmb
  have cd:=digit6_ok (G:=G) (s.getD k 0)
  rcases Nat.lt_or_ge k s.length with hlt | hge
  ·cases hd:digitB (s.getD k 0) with
   | true =>
    obtain ⟨d1,d2⟩:=digP_yes hlt hd
    have dg:=dig_to hd
    rw [hd] at cd
    rw [d1] at hq
    rw [d2,accN] at hm
    clear hd d1 d2 hnm hV
    by_cases hc:m≤9007199254740992
    ·rw [if_pos hc] at hm
     have hb2:m*10+((s.getD k 0).toNat-48)≤90071992547409929:=by omega
     have ew:EqvD (.c (.int .u8 (IntKind.u8.wrap (((s.getD k 0).toNat:Int)-48)))) (.c (.int .u8 (((s.getD k 0).toNat:Int)-48))):=eqvD_of (by rw [wrap8 oM oM])
     have ew2:EqvD (.c (.int .i64 (IntKind.i64.wrap (((s.getD k 0).toNat:Int)-48)))) (.c (.int .i64 (((s.getD k 0).toNat:Int)-48))):=eqvD_of (by rw [wrap64 oM oM])
     have ew3:EqvD (.c (.int .i64 ((m:Int)*10+(((s.getD k 0).toNat:Int)-48)))) (.c (.int .i64 ((m*10+((s.getD k 0).toNat-48):Nat):Int))):=eqvD_of (by congr 2;omega)
     refine zg [(7,{fm:=[(11,.c (.int .u8 (((s.getD k 0).toNat:Int)-48))),(12,.c (.int .i64 (((s.getD k 0).toNat:Int)-48))),(13,.c (.int .i64 ((m*10+((s.getD k 0).toNat-48):Nat):Int)))]}),(5,{cs:=[(20,pc cd)]})] [true,true] [decide ((k:Int)<(s.length:Int))=true→(0:Int)≤(k:Int)∧(k:Int)<(s.length:Int),(bif decide ((k:Int)<(s.length:Int)) then true else false)=true,decide ((m:Int)≤9007199254740992)=true,inR .i64 ((m:Int)*10),(0:Int)≤(k:Int)∧(k:Int)<(s.length:Int),EqvI (.c (.int .u8 (IntKind.u8.wrap ((↑(s.getD k (0:UInt8)).toNat:Int)-(48:Int))))) (.c (.int .u8 ((↑(s.getD k (0:UInt8)).toNat:Int)-(48:Int)))),EqvD (.c (.int .u8 (IntKind.u8.wrap ((↑(s.getD k (0:UInt8)).toNat:Int)-(48:Int))))) (.c (.int .u8 ((↑(s.getD k (0:UInt8)).toNat:Int)-(48:Int)))),EqvI (.c (.int .i64 (IntKind.i64.wrap ((↑(s.getD k (0:UInt8)).toNat:Int)-(48:Int))))) (.c (.int .i64 ((↑(s.getD k (0:UInt8)).toNat:Int)-(48:Int)))),EqvD (.c (.int .i64 (IntKind.i64.wrap ((↑(s.getD k (0:UInt8)).toNat:Int)-(48:Int))))) (.c (.int .i64 ((↑(s.getD k (0:UInt8)).toNat:Int)-(48:Int)))),EqvI (.c (.int .i64 ((m:Int)*(10:Int)+((↑(s.getD k (0:UInt8)).toNat:Int)-(48:Int))))) (.c (.int .i64 (↑(m*(10:Nat)+((s.getD k (0:UInt8)).toNat-(48:Nat))):Int))),EqvD (.c (.int .i64 ((m:Int)*(10:Int)+((↑(s.getD k (0:UInt8)).toNat:Int)-(48:Int))))) (.c (.int .i64 (↑(m*(10:Nat)+((s.getD k (0:UInt8)).toNat-(48:Nat))):Int))),inR .i64 ((m:Int)*(10:Int)+((↑(s.getD k (0:UInt8)).toNat:Int)-(48:Int))),inR .i64 ((k:Int)+1)] ⟨oM,sO,sO,i6,oM,fun _ _=>trivial,aS,fun _ _=>trivial,aS,fun _ _=>trivial,aS,i6,i6⟩ ?_
     exact za [] (again _ (k+1,m*10+((s.getD k 0).toNat-48)) ⟨aS,⟨aS,⟨aS,aS⟩⟩⟩ oM)
    ·rw [if_neg hc] at hm
     refine zg [(5,{cs:=[(20,pc cd)]})] [true,false] [decide ((k:Int)<(s.length:Int))=true→(0:Int)≤(k:Int)∧(k:Int)<(s.length:Int),(bif decide ((k:Int)<(s.length:Int)) then true else false)=true,decide ((m:Int)≤9007199254740992)=false,inR .i64 ((k:Int)+1)] ⟨oM,sO,sO,i6⟩ ?_
     exact za [] (again _ (k+1,m) ⟨aS,⟨aS,⟨aS,aS⟩⟩⟩ oM)
   | false =>
    obtain ⟨d1,d2⟩:=digP_no (s:=s) (p:=k) (fun _=>hd)
    rw [hd] at cd
    rw [d1] at hq
    rw [d2] at hm
    have hm:m=M:=hm
    clear hd d1 d2 again
    subst hq hm
    have hV2 : -90071992547409929≤numV s p∧numV s p≤90071992547409929:=by omega
    have eV:EqvD (.c (.int .i64 (0-(m:Int)))) (.c (.int .i64 (numV s p))):=eqvD_of (by rw [hV];congr 2;omega)
    have cg:=digits_ok (G:=G) (numV s p) oM oM
    unfold nmB at hnm
    clear hV
    generalize numV s p=V at *
    cases hok:numOk s p with
    | true =>
     rw [hok] at hnm
     clear hok
     refine zg [(10,{fm:=[(2,.c (.int .i64 V))]}),(5,{cs:=[(20,pc cd)]}),(11,{cs:=[(8,pc cg)]})] [false,true,false] [decide ((k:Int)<(s.length:Int))=true→(0:Int)≤(k:Int)∧(k:Int)<(s.length:Int),(bif decide ((k:Int)<(s.length:Int)) then false else false)=false,(0:Int)≤(p:Int)∧(p:Int)<(s.length:Int),((↑(s.getD p (0:UInt8)).toNat:Int)==(45:Int))=true,inR .i64 (0-(m:Int)),EqvI (.c (.int .i64 (0-(m:Int)))) (.c (.int .i64 V)),EqvD (.c (.int .i64 (0-(m:Int)))) (.c (.int .i64 V)),(bif decide (V>(9007199254740992:Int)) then true else decide (V<(-9007199254740992:Int)))=false→(0:Int)≤Int.ofNat p∧Int.ofNat p≤Int.ofNat k∧Int.ofNat k≤(s.length:Int),(bif bif decide (V>(9007199254740992:Int)) then true else decide (V<(-9007199254740992:Int)) then true else !Lib.itoa V==List.drop (Int.ofNat p).toNat (List.take (Int.ofNat k).toNat s))=false] ⟨oM,(by simp;done),oM,aS,i6,fun _ _=>trivial,aS,sO,(show (bif bif decide (V>(9007199254740992:Int)) then true else decide (V<(-9007199254740992:Int)) then true else !Lib.itoa V==List.drop (Int.ofNat p).toNat (List.take (Int.ofNat k).toNat s))=false from aS)⟩ ?_
     exact zb []
    | false =>
     rw [hok] at hnm
     clear hok
     refine zg [(10,{fm:=[(2,.c (.int .i64 V))]}),(5,{cs:=[(20,pc cd)]}),(11,{cs:=[(8,pc cg)]}),(12,{cs:=[(1,cb [0] (fail_0 s k (3:Int)))]})] [false,true,true] [decide ((k:Int)<(s.length:Int))=true→(0:Int)≤(k:Int)∧(k:Int)<(s.length:Int),(bif decide ((k:Int)<(s.length:Int)) then false else false)=false,(0:Int)≤(p:Int)∧(p:Int)<(s.length:Int),((↑(s.getD p (0:UInt8)).toNat:Int)==(45:Int))=true,inR .i64 (0-(m:Int)),EqvI (.c (.int .i64 (0-(m:Int)))) (.c (.int .i64 V)),EqvD (.c (.int .i64 (0-(m:Int)))) (.c (.int .i64 V)),(bif decide (V>(9007199254740992:Int)) then true else decide (V<(-9007199254740992:Int)))=false→(0:Int)≤Int.ofNat p∧Int.ofNat p≤Int.ofNat k∧Int.ofNat k≤(s.length:Int),(bif bif decide (V>(9007199254740992:Int)) then true else decide (V<(-9007199254740992:Int)) then true else !Lib.itoa V==List.drop (Int.ofNat p).toNat (List.take (Int.ofNat k).toNat s))=true] ⟨oM,(by simp;done),oM,aS,i6,fun _ _=>trivial,aS,sO,(show (bif bif decide (V>(9007199254740992:Int)) then true else decide (V<(-9007199254740992:Int)) then true else !Lib.itoa V==List.drop (Int.ofNat p).toNat (List.take (Int.ofNat k).toNat s))=true from aS)⟩ ?_
     exact zb []
  ·obtain ⟨d1,d2⟩:=digP_no (s:=s) (p:=k) (fun h=>absurd h (Nat.not_lt.2 hge))
   rw [d1] at hq
   rw [d2] at hm
   have hm:m=M:=hm
   clear d1 d2 again
   subst hq hm
   have hV2 : -90071992547409929≤numV s p∧numV s p≤90071992547409929:=by omega
   have eV:EqvD (.c (.int .i64 (0-(m:Int)))) (.c (.int .i64 (numV s p))):=eqvD_of (by rw [hV];congr 2;omega)
   have cg:=digits_ok (G:=G) (numV s p) oM oM
   unfold nmB at hnm
   clear hV
   generalize numV s p=V at *
   cases hok:numOk s p with
   | true =>
    rw [hok] at hnm
    clear hok
    refine zg [(10,{fm:=[(2,.c (.int .i64 V))]}),(5,{cs:=[(20,pc cd)]}),(11,{cs:=[(8,pc cg)]})] [false,true,false] [decide ((k:Int)<(s.length:Int))=true→(0:Int)≤(k:Int)∧(k:Int)<(s.length:Int),(bif decide ((k:Int)<(s.length:Int)) then digitB (s.getD k (0:UInt8)) else false)=false,(0:Int)≤(p:Int)∧(p:Int)<(s.length:Int),((↑(s.getD p (0:UInt8)).toNat:Int)==(45:Int))=true,inR .i64 (0-(m:Int)),EqvI (.c (.int .i64 (0-(m:Int)))) (.c (.int .i64 V)),EqvD (.c (.int .i64 (0-(m:Int)))) (.c (.int .i64 V)),(bif decide (V>(9007199254740992:Int)) then true else decide (V<(-9007199254740992:Int)))=false→(0:Int)≤Int.ofNat p∧Int.ofNat p≤Int.ofNat k∧Int.ofNat k≤(s.length:Int),(bif bif decide (V>(9007199254740992:Int)) then true else decide (V<(-9007199254740992:Int)) then true else !Lib.itoa V==List.drop (Int.ofNat p).toNat (List.take (Int.ofNat k).toNat s))=false] ⟨(by simp;done),sO,oM,aS,i6,fun _ _=>trivial,aS,sO,(show (bif bif decide (V>(9007199254740992:Int)) then true else decide (V<(-9007199254740992:Int)) then true else !Lib.itoa V==List.drop (Int.ofNat p).toNat (List.take (Int.ofNat k).toNat s))=false from aS)⟩ ?_
    exact zb []
   | false =>
    rw [hok] at hnm
    clear hok
    refine zg [(10,{fm:=[(2,.c (.int .i64 V))]}),(5,{cs:=[(20,pc cd)]}),(11,{cs:=[(8,pc cg)]}),(12,{cs:=[(1,cb [0] (fail_0 s k (3:Int)))]})] [false,true,true] [decide ((k:Int)<(s.length:Int))=true→(0:Int)≤(k:Int)∧(k:Int)<(s.length:Int),(bif decide ((k:Int)<(s.length:Int)) then digitB (s.getD k (0:UInt8)) else false)=false,(0:Int)≤(p:Int)∧(p:Int)<(s.length:Int),((↑(s.getD p (0:UInt8)).toNat:Int)==(45:Int))=true,inR .i64 (0-(m:Int)),EqvI (.c (.int .i64 (0-(m:Int)))) (.c (.int .i64 V)),EqvD (.c (.int .i64 (0-(m:Int)))) (.c (.int .i64 V)),(bif decide (V>(9007199254740992:Int)) then true else decide (V<(-9007199254740992:Int)))=false→(0:Int)≤Int.ofNat p∧Int.ofNat p≤Int.ofNat k∧Int.ofNat k≤(s.length:Int),(bif bif decide (V>(9007199254740992:Int)) then true else decide (V<(-9007199254740992:Int)) then true else !Lib.itoa V==List.drop (Int.ofNat p).toNat (List.take (Int.ofNat k).toNat s))=true] ⟨(by simp;done),sO,oM,aS,i6,fun _ _=>trivial,aS,sO,(show (bif bif decide (V>(9007199254740992:Int)) then true else decide (V<(-9007199254740992:Int)) then true else !Lib.itoa V==List.drop (Int.ofNat p).toNat (List.take (Int.ofNat k).toNat s))=true from aS)⟩ ?_
    exact zb []
 ·rw [h1] at c1 ha
  rw [h2] at hV hx0 hQ hQ2 hsg hnm hM
  rw [h2]
  rw [if_neg (by simpa using ha.symm)] at hV
  obtain ⟨Q,hQe⟩:∃ Q,digP s p=Q:=⟨_,rfl⟩
  obtain ⟨M,hMe⟩:∃ M,accN ((s.drop p).takeWhile digitB) 0=M:=⟨_,rfl⟩
  have hx0:p≤s.length∧digP s p=Q∧accN ((s.drop p).takeWhile digitB) 0=M∧0≤90071992547409929:=⟨hsg.2,hQe,hMe,by omega⟩
  rw [hQe] at hQ hQ2 hnm ⊢
  rw [hMe] at hM hV
  clear hQe hMe
  have h45:(((s.getD p 0).toNat:Int)==45)=false:=(ibeq (s.getD p 0) 45).trans ha.symm
  refine zg [(2,{cs:=[(1,cb [0] c1)]})] [false] [false=false] rfl ?_
  refine zl (fun (x:Nat×Nat)=>⟨[(0,.v (.c (.ptr 0 0))),(3,.v (.c (.int .i64 (p:Int)))),(4,.v (.c (.int .i64 (x.2:Int))))],[(0,rjB s x.1 0)],145⟩) (fun x=>x.1≤s.length∧digP s x.1=Q∧accN ((s.drop x.1).takeWhile digitB) x.2=M∧x.2≤90071992547409929) (fun x=>s.length-x.1) (p,0) hx0 ?_
  clear hx0
  rintro ⟨k,m⟩ L ⟨hk,hq,hm,hmb⟩ again
  simp only at hk hq hm hmb
  have cd:=digit6_ok (G:=G) (s.getD k 0)
  rcases Nat.lt_or_ge k s.length with hlt | hge
  ·cases hd:digitB (s.getD k 0) with
   | true =>
    obtain ⟨d1,d2⟩:=digP_yes hlt hd
    have dg:=dig_to hd
    rw [hd] at cd
    rw [d1] at hq
    rw [d2,accN] at hm
    clear hd d1 d2 hnm hV
    by_cases hc:m≤9007199254740992
    ·rw [if_pos hc] at hm
     have hb2:m*10+((s.getD k 0).toNat-48)≤90071992547409929:=by omega
     have ew:EqvD (.c (.int .u8 (IntKind.u8.wrap (((s.getD k 0).toNat:Int)-48)))) (.c (.int .u8 (((s.getD k 0).toNat:Int)-48))):=eqvD_of (by rw [wrap8 oM oM])
     have ew2:EqvD (.c (.int .i64 (IntKind.i64.wrap (((s.getD k 0).toNat:Int)-48)))) (.c (.int .i64 (((s.getD k 0).toNat:Int)-48))):=eqvD_of (by rw [wrap64 oM oM])
     have ew3:EqvD (.c (.int .i64 ((m:Int)*10+(((s.getD k 0).toNat:Int)-48)))) (.c (.int .i64 ((m*10+((s.getD k 0).toNat-48):Nat):Int))):=eqvD_of (by congr 2;omega)
     refine zg [(7,{fm:=[(11,.c (.int .u8 (((s.getD k 0).toNat:Int)-48))),(12,.c (.int .i64 (((s.getD k 0).toNat:Int)-48))),(13,.c (.int .i64 ((m*10+((s.getD k 0).toNat-48):Nat):Int)))]}),(5,{cs:=[(20,pc cd)]})] [true,true] [decide ((k:Int)<(s.length:Int))=true→(0:Int)≤(k:Int)∧(k:Int)<(s.length:Int),(bif decide ((k:Int)<(s.length:Int)) then true else false)=true,decide ((m:Int)≤9007199254740992)=true,inR .i64 ((m:Int)*10),(0:Int)≤(k:Int)∧(k:Int)<(s.length:Int),EqvI (.c (.int .u8 (IntKind.u8.wrap ((↑(s.getD k (0:UInt8)).toNat:Int)-(48:Int))))) (.c (.int .u8 ((↑(s.getD k (0:UInt8)).toNat:Int)-(48:Int)))),EqvD (.c (.int .u8 (IntKind.u8.wrap ((↑(s.getD k (0:UInt8)).toNat:Int)-(48:Int))))) (.c (.int .u8 ((↑(s.getD k (0:UInt8)).toNat:Int)-(48:Int)))),EqvI (.c (.int .i64 (IntKind.i64.wrap ((↑(s.getD k (0:UInt8)).toNat:Int)-(48:Int))))) (.c (.int .i64 ((↑(s.getD k (0:UInt8)).toNat:Int)-(48:Int)))),EqvD (.c (.int .i64 (IntKind.i64.wrap ((↑(s.getD k (0:UInt8)).toNat:Int)-(48:Int))))) (.c (.int .i64 ((↑(s.getD k (0:UInt8)).toNat:Int)-(48:Int)))),EqvI (.c (.int .i64 ((m:Int)*(10:Int)+((↑(s.getD k (0:UInt8)).toNat:Int)-(48:Int))))) (.c (.int .i64 (↑(m*(10:Nat)+((s.getD k (0:UInt8)).toNat-(48:Nat))):Int))),EqvD (.c (.int .i64 ((m:Int)*(10:Int)+((↑(s.getD k (0:UInt8)).toNat:Int)-(48:Int))))) (.c (.int .i64 (↑(m*(10:Nat)+((s.getD k (0:UInt8)).toNat-(48:Nat))):Int))),inR .i64 ((m:Int)*(10:Int)+((↑(s.getD k (0:UInt8)).toNat:Int)-(48:Int))),inR .i64 ((k:Int)+1)] ⟨oM,sO,sO,i6,oM,fun _ _=>trivial,aS,fun _ _=>trivial,aS,fun _ _=>trivial,aS,i6,i6⟩ ?_
     exact za [] (again _ (k+1,m*10+((s.getD k 0).toNat-48)) ⟨aS,⟨aS,⟨aS,aS⟩⟩⟩ oM)
    ·rw [if_neg hc] at hm
     refine zg [(5,{cs:=[(20,pc cd)]})] [true,false] [decide ((k:Int)<(s.length:Int))=true→(0:Int)≤(k:Int)∧(k:Int)<(s.length:Int),(bif decide ((k:Int)<(s.length:Int)) then true else false)=true,decide ((m:Int)≤9007199254740992)=false,inR .i64 ((k:Int)+1)] ⟨oM,sO,sO,i6⟩ ?_
     exact za [] (again _ (k+1,m) ⟨aS,⟨aS,⟨aS,aS⟩⟩⟩ oM)
   | false =>
    obtain ⟨d1,d2⟩:=digP_no (s:=s) (p:=k) (fun _=>hd)
    rw [hd] at cd
    rw [d1] at hq
    rw [d2] at hm
    have hm:m=M:=hm
    clear hd d1 d2 again
    subst hq hm
    have hV2 : -90071992547409929≤numV s p∧numV s p≤90071992547409929:=by omega
    rw [hV] at hnm hV2 ⊢
    have cg:=digits_ok (G:=G) (m:Int) oM oM
    unfold nmB at hnm
    clear hV
    cases hok:numOk s p with
    | true =>
     rw [hok] at hnm
     clear hok
     refine zg [(5,{cs:=[(20,pc cd)]}),(11,{cs:=[(8,pc cg)]})] [false,false,false] [decide ((k:Int)<(s.length:Int))=true→(0:Int)≤(k:Int)∧(k:Int)<(s.length:Int),(bif decide ((k:Int)<(s.length:Int)) then false else false)=false,(0:Int)≤(p:Int)∧(p:Int)<(s.length:Int),((↑(s.getD p (0:UInt8)).toNat:Int)==(45:Int))=false,(bif decide ((m:Int)>(9007199254740992:Int)) then true else decide ((m:Int)<(-9007199254740992:Int)))=false→(0:Int)≤Int.ofNat p∧Int.ofNat p≤Int.ofNat k∧Int.ofNat k≤(s.length:Int),(bif bif decide ((m:Int)>(9007199254740992:Int)) then true else decide ((m:Int)<(-9007199254740992:Int)) then true else !Lib.itoa (m:Int)==List.drop (Int.ofNat p).toNat (List.take (Int.ofNat k).toNat s))=false] ⟨oM,(by simp;done),oM,aS,sO,(show (bif bif decide ((↑m:Int)>(9007199254740992:Int)) then true else decide ((↑m:Int)<(-9007199254740992:Int)) then true else !Lib.itoa (↑m:Int)==List.drop (Int.ofNat p).toNat (List.take (Int.ofNat k).toNat s))=false from aS)⟩ ?_
     exact zb []
    | false =>
     rw [hok] at hnm
     clear hok
     refine zg [(5,{cs:=[(20,pc cd)]}),(11,{cs:=[(8,pc cg)]}),(12,{cs:=[(1,cb [0] (fail_0 s k (3:Int)))]})] [false,false,true] [decide ((k:Int)<(s.length:Int))=true→(0:Int)≤(k:Int)∧(k:Int)<(s.length:Int),(bif decide ((k:Int)<(s.length:Int)) then false else false)=false,(0:Int)≤(p:Int)∧(p:Int)<(s.length:Int),((↑(s.getD p (0:UInt8)).toNat:Int)==(45:Int))=false,(bif decide ((m:Int)>(9007199254740992:Int)) then true else decide ((m:Int)<(-9007199254740992:Int)))=false→(0:Int)≤Int.ofNat p∧Int.ofNat p≤Int.ofNat k∧Int.ofNat k≤(s.length:Int),(bif bif decide ((m:Int)>(9007199254740992:Int)) then true else decide ((m:Int)<(-9007199254740992:Int)) then true else !Lib.itoa (m:Int)==List.drop (Int.ofNat p).toNat (List.take (Int.ofNat k).toNat s))=true] ⟨oM,(by simp;done),oM,aS,sO,(show (bif bif decide ((↑m:Int)>(9007199254740992:Int)) then true else decide ((↑m:Int)<(-9007199254740992:Int)) then true else !Lib.itoa (↑m:Int)==List.drop (Int.ofNat p).toNat (List.take (Int.ofNat k).toNat s))=true from aS)⟩ ?_
     exact zb []
  ·obtain ⟨d1,d2⟩:=digP_no (s:=s) (p:=k) (fun h=>absurd h (Nat.not_lt.2 hge))
   rw [d1] at hq
   rw [d2] at hm
   have hm:m=M:=hm
   clear d1 d2 again
   subst hq hm
   have hV2 : -90071992547409929≤numV s p∧numV s p≤90071992547409929:=by omega
   rw [hV] at hnm hV2 ⊢
   have cg:=digits_ok (G:=G) (m:Int) oM oM
   unfold nmB at hnm
   clear hV
   cases hok:numOk s p with
   | true =>
    rw [hok] at hnm
    clear hok
    refine zg [(5,{cs:=[(20,pc cd)]}),(11,{cs:=[(8,pc cg)]})] [false,false,false] [decide ((k:Int)<(s.length:Int))=true→(0:Int)≤(k:Int)∧(k:Int)<(s.length:Int),(bif decide ((k:Int)<(s.length:Int)) then digitB (s.getD k (0:UInt8)) else false)=false,(0:Int)≤(p:Int)∧(p:Int)<(s.length:Int),((↑(s.getD p (0:UInt8)).toNat:Int)==(45:Int))=false,(bif decide ((m:Int)>(9007199254740992:Int)) then true else decide ((m:Int)<(-9007199254740992:Int)))=false→(0:Int)≤Int.ofNat p∧Int.ofNat p≤Int.ofNat k∧Int.ofNat k≤(s.length:Int),(bif bif decide ((m:Int)>(9007199254740992:Int)) then true else decide ((m:Int)<(-9007199254740992:Int)) then true else !Lib.itoa (m:Int)==List.drop (Int.ofNat p).toNat (List.take (Int.ofNat k).toNat s))=false] ⟨(by simp;done),sO,oM,aS,sO,(show (bif bif decide ((↑m:Int)>(9007199254740992:Int)) then true else decide ((↑m:Int)<(-9007199254740992:Int)) then true else !Lib.itoa (↑m:Int)==List.drop (Int.ofNat p).toNat (List.take (Int.ofNat k).toNat s))=false from aS)⟩ ?_
    exact zb []
   | false =>
    rw [hok] at hnm
    clear hok
    refine zg [(5,{cs:=[(20,pc cd)]}),(11,{cs:=[(8,pc cg)]}),(12,{cs:=[(1,cb [0] (fail_0 s k (3:Int)))]})] [false,false,true] [decide ((k:Int)<(s.length:Int))=true→(0:Int)≤(k:Int)∧(k:Int)<(s.length:Int),(bif decide ((k:Int)<(s.length:Int)) then digitB (s.getD k (0:UInt8)) else false)=false,(0:Int)≤(p:Int)∧(p:Int)<(s.length:Int),((↑(s.getD p (0:UInt8)).toNat:Int)==(45:Int))=false,(bif decide ((m:Int)>(9007199254740992:Int)) then true else decide ((m:Int)<(-9007199254740992:Int)))=false→(0:Int)≤Int.ofNat p∧Int.ofNat p≤Int.ofNat k∧Int.ofNat k≤(s.length:Int),(bif bif decide ((m:Int)>(9007199254740992:Int)) then true else decide ((m:Int)<(-9007199254740992:Int)) then true else !Lib.itoa (m:Int)==List.drop (Int.ofNat p).toNat (List.take (Int.ofNat k).toNat s))=true] ⟨(by simp;done),sO,oM,aS,sO,(show (bif bif decide ((↑m:Int)>(9007199254740992:Int)) then true else decide ((↑m:Int)<(-9007199254740992:Int)) then true else !Lib.itoa (↑m:Int)==List.drop (Int.ofNat p).toNat (List.take (Int.ofNat k).toNat s))=true from aS)⟩ ?_
    exact zb []
def Adv (s:List UInt8) (p q:Nat):Prop:=p≤q∧q≤s.length
theorem Adv.refl {s:List UInt8} {p:Nat} (h:p≤s.length):Adv s p p:=⟨Nat.le_refl _,h⟩
theorem Adv.trans {s:List UInt8} {p q r:Nat} (h:Adv s p q) (k:Adv s q r):Adv s p r:=⟨Nat.le_trans h.1 k.1,k.2⟩
theorem skP_adv {s:List UInt8} {p:Nat} (h:p≤s.length):Adv s p (skP s p):=⟨skP_le s p,skP_len s p h⟩
theorem at_lt {s:List UInt8} {p:Nat} {c:UInt8} (h:atB s p c=true):p<s.length:=by
 unfold atB at h
 simp only [Bool.and_eq_true,decide_eq_true_eq] at h
 exact h.1
theorem Adv.succ {s:List UInt8} {p q:Nat} (h:Adv s p q) (k:q<s.length):Adv s p (q+1):=⟨Nat.le_succ_of_le h.1,k⟩
theorem wantR_adv {s:List UInt8} {p:Nat} (c:UInt8) (h:p≤s.length):Adv s p (wantR s p c).1:=by
 unfold wantR
 split
 ·rename_i hc;exact (skP_adv h).succ (at_lt hc)
 ·exact skP_adv h
theorem wantR_e (s:List UInt8) (p:Nat) (c:UInt8):(wantR s p c).2=0∨(wantR s p c).2=3:=by
 unfold wantR;split
 ·exact .inl rfl
 ·exact .inr rfl
theorem txtR_adv {s:List UInt8}:∀ (n p:Nat) (b:List UInt8),p≤s.length→Adv s p (txtR s n p b).2.1
 | 0,p,b,h=>by rw [txtR]; exact .refl h
 | n+1,p,b,h=>by
  rw [txtR]
  split
  ·exact .refl h
  ·rename_i h1
   have hlt:p<s.length:=by
    rcases Nat.lt_or_ge p s.length with h | h
    ·exact h
    ·exact (h1 (.inl h)).elim
   split
   ·exact ⟨Nat.le_succ _,hlt⟩
   ·split
    ·obtain ⟨g1,g2,_⟩:=escR_len s (p+1) hlt
     have g:Adv s p (escR s (p+1)).2.1:=⟨by omega,g2⟩
     split
     ·exact g.trans (txtR_adv n _ _ g2)
     ·exact g
    ·exact Adv.trans ⟨Nat.le_succ _,hlt⟩ (txtR_adv n (p+1) _ hlt)
theorem textR_adv {s:List UInt8} {p:Nat} (h:p≤s.length):Adv s p (textR s p).2.1:=by
 unfold textR
 split
 ·rename_i hc
  exact ((skP_adv h).succ (at_lt hc)).trans (txtR_adv _ _ _ (at_lt hc))
 ·exact skP_adv h
theorem textR_e (s:List UInt8) (p:Nat):(textR s p).2.2=0∨(textR s p).2.2=3:=by
 unfold textR
 split
 ·unfold txtE
  show (if _ then (0:Int) else 3)=0∨(if _ then (0:Int) else 3)=3
  split
  ·exact .inl rfl
  ·exact .inr rfl
 ·exact .inr rfl
theorem numR_adv {s:List UInt8} {p:Nat} (h:p≤s.length):Adv s p (numR s p).2.1:=by
 have h1:=sgP_le s p h
 have h2:=digP_le s (sgP s p)
 have h3:=digP_len s (sgP s p) h1.2
 exact ⟨by show p≤digP s (sgP s p);omega,h3⟩
theorem nameR_adv {s:List UInt8} {p:Nat} (ns:List (List UInt8)) (h:p≤s.length):Adv s p (nameR s p ns).2.1:=by
 unfold nameR
 have ht:=textR_adv (s:=s) h
 split
 ·split
  ·exact ht
  ·exact ht.trans (wantR_adv 58 ht.2)
 ·exact ht
theorem nameO_adv {s:List UInt8} {p:Nat} (obj:Bool) (ns:List (List UInt8)) (h:p≤s.length):Adv s p (nameO obj s p ns).2.1:=by
 cases obj
 ·exact .refl h
 ·exact nameR_adv ns h
theorem manyR_adv {s:List UInt8} {f:Nat→JV×Nat×Int} {obj:Bool} (hf:∀ p,p≤s.length→Adv s p (f p).2.1):∀ (n p:Nat) (ns:List (List UInt8)) (ks:List JV),p≤s.length→Adv s p (manyR f obj s n p ns ks).2.2.1
 | 0,p,ns,ks,h=>by rw [manyR]; exact .refl h
 | n+1,p,ns,ks,h=>by
  have h1:=nameO_adv obj ns h
  have h2:=h1.trans (hf _ h1.2)
  have h3:=h2.trans (skP_adv h2.2)
  rw [manyR]
  split
  ·split
   ·split
    ·rename_i hc;exact h3.succ (at_lt hc)
    ·split
     ·rename_i hc;exact (h3.succ (at_lt hc)).trans (manyR_adv hf n _ _ _ (at_lt hc))
     ·exact h3
   ·exact h3
  ·exact h1.trans (skP_adv h1.2)
theorem listR_adv {s:List UInt8} {f:Nat→JV×Nat×Int} {big obj:Bool} (hf:big=false→∀ p,p≤s.length→Adv s p (f p).2.1) {p:Nat} (h:p<s.length):Adv s p (listR f big obj s p).2.1:=by
 have h1:Adv s p (skP s (p+1)):=Adv.trans ⟨Nat.le_succ _,h⟩ (skP_adv h)
 unfold listR
 split
 ·rename_i hc;exact h1.succ (at_lt hc)
 ·cases big with
  | true=>exact h1
  | false=>exact h1.trans (manyR_adv (hf rfl) _ _ _ _ h1.2)
theorem wordB_len {s:List UInt8} {p:Nat} {w:List UInt8} (h:wordB s p w=true) (hp:p≤s.length):p+w.length≤s.length:=by
 unfold wordB at h
 have:=congrArg List.length (by simpa using h:(s.drop p).take w.length=w)
 simp at this;omega
theorem valR_adv {s:List UInt8}:∀ (k:Nat) (p:Nat),p≤s.length→Adv s p (valR s k p).2.1:=by
 intro k
 induction k with
 | zero =>
  intro p h
  rw [valR_eq]
  exact main 0 p h (fun e=>by cases e)
 | succ k ih =>
  intro p h
  rw [valR_eq]
  exact main (k+1) p h (fun _=>ih)
where
 main {s:List UInt8} (k p:Nat) (h:p≤s.length) (hf:(k==0)=false→∀ p,p≤s.length→Adv s p (subR s k p).2.1):Adv s p (if s.length≤skP s p then ((.nil,skP s p,3):JV×Nat×Int)
  else if s.getD (skP s p) 0=110 then (if wordB s (skP s p) [110,117,108,108] then (.mk 1 false 0 [] [] [],skP s p+4,0) else (.mk 1 false 0 [] [] [],skP s p,3))
  else if s.getD (skP s p) 0=116 then (if wordB s (skP s p) [116,114,117,101] then (.mk 2 true 0 [] [] [],skP s p+4,0) else (.mk 2 true 0 [] [] [],skP s p,3))
  else if s.getD (skP s p) 0=102 then (if wordB s (skP s p) [102,97,108,115,101] then (.mk 2 false 0 [] [] [],skP s p+5,0) else (.mk 2 false 0 [] [] [],skP s p,3))
  else if s.getD (skP s p) 0=34 then (.mk 4 false 0 (textR s (skP s p)).1 [] [],(textR s (skP s p)).2)
  else if s.getD (skP s p) 0=91 then listR (subR s k) (k==0) false s (skP s p)
  else if s.getD (skP s p) 0=123 then listR (subR s k) (k==0) true s (skP s p)
  else if s.getD (skP s p) 0=45∨digitB (s.getD (skP s p) 0)=true then (.mk 3 false (numR s (skP s p)).1 [] [] [],(numR s (skP s p)).2)
  else (.nil,skP s p,3)).2.1:=by
  have h1:=skP_adv h
  split
  ·exact h1
  ·have hlt:skP s p<s.length:=by omega
   split
   ·split
    ·rename_i hw;have:=wordB_len hw h1.2;exact h1.trans ⟨Nat.le_add_right _ _,this⟩
    ·exact h1
   split
   ·split
    ·rename_i hw;have:=wordB_len hw h1.2;exact h1.trans ⟨Nat.le_add_right _ _,this⟩
    ·exact h1
   split
   ·split
    ·rename_i hw;have:=wordB_len hw h1.2;exact h1.trans ⟨Nat.le_add_right _ _,this⟩
    ·exact h1
   split
   ·exact h1.trans (textR_adv h1.2)
   split
   ·exact h1.trans (listR_adv hf hlt)
   split
   ·exact h1.trans (listR_adv hf hlt)
   split
   ·exact h1.trans (numR_adv h1.2)
   ·exact h1
def mtJ (k:Int):JV := .mk k false 0 [] [] []
theorem mtJ_den (k:Int):EqvD (.agg [.int .i64 k,.bool false,.int .i64 0,.str [],.nilsl,.nilsl]) (.agg (encJ (mtJ k))):=agg_eqv (.cons CEq.rfl' (.cons CEq.rfl' (.cons CEq.rfl' (.cons CEq.rfl' (.cons CEq.nil (.cons CEq.nil .nil))))))
theorem twiceR_ok (l:List (List UInt8)) (n i:Nat) (hn:n=l.length) (hi:i<l.length) (hl:l.length<4611686018427387904):Pur Tryz.prog G 176 [.c (.sl 1 n (strsF l)),.c (.int .i64 (i:Int))] [.c (.bool (twiceT l i))] :=
 Tw.Pur.arg0 (twice_ok l i hi hl) (EqvD.sl hn fun i hi j hj=>by
  obtain rfl:j=0:=by omega
  rfl)
theorem skP_idem (s:List UInt8) (p:Nat):skP s (skP s p)=skP s p:=by
 have h:(s.drop (skP s p)).takeWhile blankB=[]:=by
  unfold skP
  rw [← List.drop_drop]
  generalize s.drop p=l
  induction l with
  | nil=>rfl
  | cons c r ih =>
   rw [List.takeWhile_cons]
   split
   ·exact ih
   ·rename_i hc
    show List.takeWhile blankB (c::r)=[]
    rw [List.takeWhile_cons,if_neg hc]
 show skP s p+((s.drop (skP s p)).takeWhile blankB).length=skP s p
 rw [h];rfl
theorem twice_last (ns:List (List UInt8)) (t:List UInt8):twiceT (ns++[t]) ns.length=ns.contains t:=by
 unfold twiceT
 rw [List.take_left]
 simp [List.getD]
theorem manyA_L (s:List UInt8) (p:Nat) (d:Int) (hl:s.length≤1000000000) (hp:p<s.length) (big:Bool) (hb:decide (d≥8)=big) (ha:atB s (skP s (p+1)) 93=true):FnB Tryz.prog G 124 [rjB s p 0] [.c (.ptr 0 0),.c (.int .i64 5),.c (.int .i64 d)] [.agg (encJ (mtJ 5))] [(0,rjB s (skP s (p+1)+1) (if big then 4 else 0))]:=by
 refine zf Tryz.func124 ?_
 have hq:=at_lt ha
 have e1:=mtJ_den 5
 cases big with
 | true =>
  have c1:=blanks_ok (G:=G) s (p+1) 4 hl hp
  have c2:=at12_ok (G:=G) s (skP s (p+1)) 4 93
  rw [ha] at c2
  clear ha
  refine zg [(11,{fm:=[(0,.agg (encJ (mtJ 5)))]}),(6,{cs:=[(1,cb [0] (fail_0 s p (4:Int)))]}),(8,{cs:=[(1,cb [0] c1)]}),(9,{cs:=[(2,cb [0] c2)]})] [false,true,true] [((5:Int)==(6:Int))=false,decide (d≥(8:Int))=true,inR .i64 ((p:Int)+1),true=true,inR .i64 ((↑(skP s (p+(1:Nat))):Int)+(1:Int)),EqvI (.agg [.int .i64 5,.bool false,.int .i64 0,.str [],.nilsl,.nilsl]) (.agg (encJ (mtJ (5:Int)))),EqvD (.agg [.int .i64 5,.bool false,.int .i64 0,.str [],.nilsl,.nilsl]) (.agg (encJ (mtJ (5:Int))))] ⟨rfl,aS,i6,rfl,i6,eqvI_flat _ _ kR,(show EqvD (.agg [.int .i64 (5:Int),.bool false,.int .i64 (0:Int),.str [],.nilsl,.nilsl]) (.agg (encJ (mtJ (5:Int)))) from aS)⟩ ?_
  exact zb []
 | false =>
  have c1:=blanks_ok (G:=G) s (p+1) 0 hl hp
  have c2:=at12_ok (G:=G) s (skP s (p+1)) 0 93
  rw [ha] at c2
  clear ha
  refine zg [(11,{fm:=[(0,.agg (encJ (mtJ 5)))]}),(8,{cs:=[(1,cb [0] c1)]}),(9,{cs:=[(2,cb [0] c2)]})] [false,false,true] [((5:Int)==(6:Int))=false,decide (d≥(8:Int))=false,inR .i64 ((p:Int)+1),true=true,inR .i64 ((↑(skP s (p+(1:Nat))):Int)+(1:Int)),EqvI (.agg [.int .i64 5,.bool false,.int .i64 0,.str [],.nilsl,.nilsl]) (.agg (encJ (mtJ (5:Int)))),EqvD (.agg [.int .i64 5,.bool false,.int .i64 0,.str [],.nilsl,.nilsl]) (.agg (encJ (mtJ (5:Int))))] ⟨rfl,aS,i6,rfl,i6,eqvI_flat _ _ kR,(show EqvD (.agg [.int .i64 (5:Int),.bool false,.int .i64 (0:Int),.str [],.nilsl,.nilsl]) (.agg (encJ (mtJ (5:Int)))) from aS)⟩ ?_
  exact zb []
theorem manyB_L (s:List UInt8) (p:Nat) (d:Int) (hl:s.length≤1000000000) (hp:p<s.length) (hb:decide (d≥8)=true) (ha:atB s (skP s (p+1)) 93=false):FnB Tryz.prog G 124 [rjB s p 0] [.c (.ptr 0 0),.c (.int .i64 5),.c (.int .i64 d)] [.agg (encJ (mtJ 5))] [(0,rjB s (skP s (p+1)) 4)]:=by
 refine zf Tryz.func124 ?_
 have e1:=mtJ_den 5
 have c1:=blanks_ok (G:=G) s (p+1) 4 hl hp
 have c2:=at12_ok (G:=G) s (skP s (p+1)) 4 93
 rw [ha] at c2
 clear ha
 refine zg [(26,{fm:=[(0,.agg (encJ (mtJ 5)))]}),(6,{cs:=[(1,cb [0] (fail_0 s p (4:Int)))]}),(8,{cs:=[(1,cb [0] c1)]}),(9,{cs:=[(2,cb [0] c2)]})] [false,true,false] [((5:Int)==(6:Int))=false,decide (d≥(8:Int))=true,inR .i64 ((p:Int)+1),false=false] ⟨rfl,aS,i6,rfl⟩ ?_
 refine Wp.unrK kR 1 (fun UL0 uUL0 => ?_)
 refine zg [(26,{fm:=[(0,.agg (encJ (mtJ 5)))]})] [false] [((4:Int)==(0:Int))=false,EqvI (.agg [.int .i64 5,.bool false,.int .i64 0,.str [],.nilsl,.nilsl]) (.agg (encJ (mtJ (5:Int)))),EqvD (.agg [.int .i64 5,.bool false,.int .i64 0,.str [],.nilsl,.nilsl]) (.agg (encJ (mtJ (5:Int))))] ⟨rfl,eqvI_flat _ _ kR,(show EqvD (.agg [.int .i64 (5:Int),.bool false,.int .i64 (0:Int),.str [],.nilsl,.nilsl]) (.agg (encJ (mtJ (5:Int)))) from aS)⟩ ?_
 exact zb []
theorem manyA_O (s:List UInt8) (p:Nat) (d:Int) (hl:s.length≤1000000000) (hp:p<s.length) (big:Bool) (hb:decide (d≥8)=big) (ha:atB s (skP s (p+1)) 125=true):FnB Tryz.prog G 124 [rjB s p 0] [.c (.ptr 0 0),.c (.int .i64 6),.c (.int .i64 d)] [.agg (encJ (mtJ 6))] [(0,rjB s (skP s (p+1)+1) (if big then 4 else 0))]:=by
 refine zf Tryz.func124 ?_
 have hq:=at_lt ha
 have e1:=mtJ_den 6
 cases big with
 | true =>
  have c1:=blanks_ok (G:=G) s (p+1) 4 hl hp
  have c2:=at12_ok (G:=G) s (skP s (p+1)) 4 125
  rw [ha] at c2
  clear ha
  refine zg [(11,{fm:=[(0,.agg (encJ (mtJ 6)))]}),(6,{cs:=[(1,cb [0] (fail_0 s p (4:Int)))]}),(8,{cs:=[(1,cb [0] c1)]}),(9,{cs:=[(2,cb [0] c2)]})] [true,true,true] [((6:Int)==(6:Int))=true,decide (d≥(8:Int))=true,inR .i64 ((p:Int)+1),true=true,inR .i64 ((↑(skP s (p+(1:Nat))):Int)+(1:Int)),EqvI (.agg [.int .i64 6,.bool false,.int .i64 0,.str [],.nilsl,.nilsl]) (.agg (encJ (mtJ (6:Int)))),EqvD (.agg [.int .i64 6,.bool false,.int .i64 0,.str [],.nilsl,.nilsl]) (.agg (encJ (mtJ (6:Int))))] ⟨rfl,aS,i6,rfl,i6,eqvI_flat _ _ kR,(show EqvD (.agg [.int .i64 (6:Int),.bool false,.int .i64 (0:Int),.str [],.nilsl,.nilsl]) (.agg (encJ (mtJ (6:Int)))) from aS)⟩ ?_
  exact zb []
 | false =>
  have c1:=blanks_ok (G:=G) s (p+1) 0 hl hp
  have c2:=at12_ok (G:=G) s (skP s (p+1)) 0 125
  rw [ha] at c2
  clear ha
  refine zg [(11,{fm:=[(0,.agg (encJ (mtJ 6)))]}),(8,{cs:=[(1,cb [0] c1)]}),(9,{cs:=[(2,cb [0] c2)]})] [true,false,true] [((6:Int)==(6:Int))=true,decide (d≥(8:Int))=false,inR .i64 ((p:Int)+1),true=true,inR .i64 ((↑(skP s (p+(1:Nat))):Int)+(1:Int)),EqvI (.agg [.int .i64 6,.bool false,.int .i64 0,.str [],.nilsl,.nilsl]) (.agg (encJ (mtJ (6:Int)))),EqvD (.agg [.int .i64 6,.bool false,.int .i64 0,.str [],.nilsl,.nilsl]) (.agg (encJ (mtJ (6:Int))))] ⟨rfl,aS,i6,rfl,i6,eqvI_flat _ _ kR,(show EqvD (.agg [.int .i64 (6:Int),.bool false,.int .i64 (0:Int),.str [],.nilsl,.nilsl]) (.agg (encJ (mtJ (6:Int)))) from aS)⟩ ?_
  exact zb []
theorem manyB_O (s:List UInt8) (p:Nat) (d:Int) (hl:s.length≤1000000000) (hp:p<s.length) (hb:decide (d≥8)=true) (ha:atB s (skP s (p+1)) 125=false):FnB Tryz.prog G 124 [rjB s p 0] [.c (.ptr 0 0),.c (.int .i64 6),.c (.int .i64 d)] [.agg (encJ (mtJ 6))] [(0,rjB s (skP s (p+1)) 4)]:=by
 refine zf Tryz.func124 ?_
 have e1:=mtJ_den 6
 have c1:=blanks_ok (G:=G) s (p+1) 4 hl hp
 have c2:=at12_ok (G:=G) s (skP s (p+1)) 4 125
 rw [ha] at c2
 clear ha
 refine zg [(26,{fm:=[(0,.agg (encJ (mtJ 6)))]}),(6,{cs:=[(1,cb [0] (fail_0 s p (4:Int)))]}),(8,{cs:=[(1,cb [0] c1)]}),(9,{cs:=[(2,cb [0] c2)]})] [true,true,false] [((6:Int)==(6:Int))=true,decide (d≥(8:Int))=true,inR .i64 ((p:Int)+1),false=false] ⟨rfl,aS,i6,rfl⟩ ?_
 refine Wp.unrK kR 1 (fun UL0 uUL0 => ?_)
 refine zg [(26,{fm:=[(0,.agg (encJ (mtJ 6)))]})] [false] [((4:Int)==(0:Int))=false,EqvI (.agg [.int .i64 6,.bool false,.int .i64 0,.str [],.nilsl,.nilsl]) (.agg (encJ (mtJ (6:Int)))),EqvD (.agg [.int .i64 6,.bool false,.int .i64 0,.str [],.nilsl,.nilsl]) (.agg (encJ (mtJ (6:Int))))] ⟨rfl,eqvI_flat _ _ kR,(show EqvD (.agg [.int .i64 (6:Int),.bool false,.int .i64 (0:Int),.str [],.nilsl,.nilsl]) (.agg (encJ (mtJ (6:Int)))) from aS)⟩ ?_
 exact zb []
abbrev ManyX:=Int×Nat×Nat×Nat×List (List UInt8)×Nat×List JV
def manyF (s:List UInt8) (f:Nat→JV×Nat×Int) (obj:Bool) (R:List (List UInt8)×List JV×Nat×Int) (x:ManyX):Prop:=x.2.2.1≤s.length∧x.2.2.2.1=x.2.2.2.2.1.length∧x.2.2.2.2.2.1=x.2.2.2.2.2.2.length∧x.2.2.2.1+x.2.1≤s.length+1∧x.2.2.2.2.2.1+x.2.1≤s.length+1 ∧
 ((x.1=0∧manyR f obj s x.2.1 x.2.2.1 x.2.2.2.2.1 x.2.2.2.2.2.2=R∧s.length<x.2.2.1+x.2.1)∨((x.1==0)=false∧R=(x.2.2.2.2.1,x.2.2.2.2.2.2,x.2.2.1,x.1)))
theorem manyC_L (s:List UInt8) (f:Nat→JV×Nat×Int) (p:Nat) (d:Int) (hl:s.length≤1000000000) (hp:p<s.length) (hb:decide (d≥8)=false) (hd : -100≤d) (ha:atB s (skP s (p+1)) 93=false) (hA:∀ p,p≤s.length→Adv s p (f p).2.1)
  (ih:∀ p,p≤s.length→FnB Tryz.prog G 69 [rjB s p 0] [.c (.ptr 0 0),.c (.int .i64 (d+1))] [.agg (encJ (f p).1)] [(0,rjB s (f p).2.1 (f p).2.2)]) {R:List (List UInt8)×List JV×Nat×Int} (hR:manyR f false s (s.length+1) (skP s (p+1)) [] []=R) :
  FnB Tryz.prog G 124 [rjB s p 0] [.c (.ptr 0 0),.c (.int .i64 5),.c (.int .i64 d)] [.agg (encJ (.mk 5 false 0 [] R.1 R.2.1))] [(0,rjB s R.2.2.1 R.2.2.2)]:=by
 refine zf Tryz.func124 ?_
 have hq:=skP_adv (s:=s) (p:=p+1) hp
 have c1:=blanks_ok (G:=G) s (p+1) 0 hl hp
 have c2:=at12_ok (G:=G) s (skP s (p+1)) 0 93
 rw [ha] at c2
 have hF:manyF s f false R (0,s.length+1,skP s (p+1),0,[],0,[]):=⟨hq.2,rfl,rfl,by show 0+(s.length+1)≤_;omega,by show 0+(s.length+1)≤_;omega,.inl ⟨rfl,hR,by show s.length<skP s (p+1)+(s.length+1);omega⟩⟩
 clear ha hR
 generalize skP s (p+1)=q at *
 have hd8:d<8:=by have:=of_decide_eq_false hb;omega
 refine zg [(8,{cs:=[(1,cb [0] c1)]}),(9,{cs:=[(2,cb [0] c2)]})] [false,false,false] [((5:Int)==(6:Int))=false,decide (d≥(8:Int))=false,inR .i64 ((p:Int)+1),false=false] ⟨rfl,hb,i6,rfl⟩ ?_
 refine Wp.loopK kR (fun (x:ManyX)=>⟨[(0,.v (.c (.ptr 0 0))),(1,.v (.c (.int .i64 5))),(2,.v (.c (.int .i64 d))),(6,.v (.c (.ptr 1 0))),(7,.v (.c (.ptr 49 0))),(8,.v (.c (.int .u8 93)))],[(1,.box 30 [.int .i64 0,.bool false,.int .i64 0,.str [],.nilsl,.nilsl]),(49,.box 30 [.int .i64 5,.bool false,.int .i64 0,.str [],.row 1 369 0 x.2.2.2.1,.row 6 385 0 x.2.2.2.2.2.1]),(0,rjB s x.2.2.1 x.1),(369,.row 9 1 x.2.2.2.1 (strsF x.2.2.2.2.1)),(385,.row 30 6 x.2.2.2.2.2.1 (rowF encJ .nil x.2.2.2.2.2.2))],401⟩)
  (manyF s f false R) (fun x=>x.2.1) (0,s.length+1,q,0,[],0,[])
  (Ent.trans (Ent.empC (b:=49) (o:=4) (sz:=1) (e:=9) (e':=30) (cs:=[.int .i64 5,.bool false,.int .i64 0,.str [],.nilsl,.nilsl]) (f:=strsF []) dC (of_decide_eq_true kR) kR kR rfl) (Ent.trans (Ent.empC (b:=49) (o:=5) (sz:=6) (e:=30) (e':=30) (cs:=[.int .i64 5,.bool false,.int .i64 0,.str [],.row 1 369 0 0,.nilsl]) (f:=rowF encJ .nil []) dC (of_decide_eq_true kR) kR kR rfl) (Ent.of [] kR kR kR trivial))) hF ?_
 clear hF hq
 rintro ⟨e,n,p,nn,nm,nk,ks⟩ L ⟨hk,h1,h2,h3,h4,hR⟩ again
 simp only at hk h1 h2 h3 h4 hR
 rcases hR with ⟨rfl,hR,hm⟩ | ⟨he,rfl⟩
 ·rcases n with _ | n
  ·omega
  rw [manyR] at hR
  have hN:nameO false s p nm=(nm,p,0):=rfl
  rw [hN] at hR
  have cv:=ih p hk
  have av:=hA p hk
  generalize f p=y at *
  obtain ⟨v,p2,e2⟩:=y
  simp only at hR cv av
  rw [if_pos trivial] at hR
  have aq:=skP_adv av.2
  have cb2:=blanks_ok (G:=G) s p2 e2 hl av.2
  have ca:=at12_ok (G:=G) s (skP s p2) e2 93
  have cw:=want_ok (G:=G) s (skP s p2) 44 hl aq.2
  have hw:wantR s (skP s p2) 44=if atB s (skP s p2) 44 then (skP s p2+1,0) else (skP s p2,3):=by unfold wantR;rw [skP_idem]
  rw [hw] at cw
  have e5:BlkEqv (.row 30 6 (nk+1) (catF nk (rowF encJ .nil ks) (fun i j=>nthD (encJ v) ((0+i)*6+j)))) (.row 30 6 (nk+1) (rowF encJ .nil (ks++[v]))):=enc_app ks v h2
  have q2:nk+1=(ks++[v]).length:=by simp [h2]
  clear hw hN
  by_cases h0:e2=0
  ·subst h0
   rw [if_pos rfl] at hR
   cases ha:atB s (skP s p2) 93 with
   | true =>
    have hlt:=at_lt ha
    rw [ha] at ca
    rw [if_pos (show atB s (skP s p2) (endC false)=true from ha)] at hR
    subst hR
    clear again cw ha
    refine zg [(20,{cs:=[(5,cb [0] cv)],bs:=[(7,.row 30 6 (nk+1) (rowF encJ .nil (ks++[v])))]}),(21,{cs:=[(1,cb [0] cb2)]}),(22,{grd:=[(6,true),(7,true),(8,true)],cs:=[(8,cb [0] ca)]})] [true,false,true,true] [((0:Int)==(0:Int))=true,((5:Int)==(6:Int))=false,((0:Int)==(0:Int))=true,inR .i64 (d+1),(nk+1)*88≤140737488355328,BlkEqv (.row 30 6 (nk+1) (catF nk (fun i j=>nthD (encJ (ks.getD i .nil)) j) fun i j=>nthD [.int .i64 v.kind,.bool v.b,.int .i64 v.n,.str v.s,.sl 1 v.names.length fun i j=>nthD [.str (v.names.getD i [])] j,.sl 6 v.kids.length (kidC v.kids)] ((0+i)*6+j))) (.row 30 6 (nk+1) (rowF encJ JV.nil (ks++[v]))),nk≤nk,0+1≤1,((0:Int)==(0:Int))=true,((0:Int)==(0:Int))=true,((0:Int)==(0:Int))=true,(bif (0:Int)==(0:Int) then true else false)=true,inR .i64 ((↑(skP s p2):Int)+1)] ⟨rfl,rfl,rfl,i6,oM,aS,oM,oM,rfl,rfl,rfl,rfl,i6⟩ ?_
    refine Wp.ent' kR (Ent.pubC (b:=1) (o:=4) (e:=9) (e':=30) (cs:=[Cell.int .i64 (5:Int),Cell.bool false,Cell.int .i64 (0:Int),Cell.str [],Cell.row (1:Nat) (369:Nat) (0:Nat) nn,Cell.row (6:Nat) (705:Nat) (0:Nat) (nk+(1:Nat))]) (sz:=(1:Nat)) (id:=369) (off:=(0:Nat)) (m:=nn) (n:=nn) (f:=strsF nm) (m':=(JV.mk (5:Int) false (0:Int) [] nm (ks++[v])).names.length) (f':=fun (i j:Nat)=>nthD [Cell.str ((JV.mk (5:Int) false (0:Int) [] nm (ks++[v])).names.getD i [])] j) kR kR kR oM aS (fun i _ j hj=>str_one _ i j hj) rfl) ?_
    refine Wp.ent' kR (Ent.pubC (b:=1) (o:=5) (e:=30) (e':=30) (cs:=[Cell.int .i64 (5:Int),Cell.bool false,Cell.int .i64 (0:Int),Cell.str [],Cell.sl (1:Nat) (JV.mk (5:Int) false (0:Int) [] nm (ks++[v])).names.length fun (i j:Nat)=>nthD [Cell.str ((JV.mk (5:Int) false (0:Int) [] nm (ks++[v])).names.getD i [])] j,Cell.row (6:Nat) (705:Nat) (0:Nat) (nk+(1:Nat))]) (sz:=(6:Nat)) (id:=705) (off:=(0:Nat)) (m:=nk+(1:Nat)) (n:=nk+(1:Nat)) (f:=rowF encJ JV.nil (ks++[v])) (m':=(JV.mk (5:Int) false (0:Int) [] nm (ks++[v])).kids.length) (f':=kidC (JV.mk (5:Int) false (0:Int) [] nm (ks++[v])).kids) kR kR kR oM aS (kid_pub _ aS) rfl) ?_
    exact zb []
   | false =>
    rw [ha] at ca
    rw [if_neg (show ¬ atB s (skP s p2) (endC false)=true by rw [show atB s (skP s p2) (endC false)=false from ha];decide)] at hR
    cases hc:atB s (skP s p2) 44 with
    | true =>
     have hlt:=at_lt hc
     rw [hc,if_pos rfl] at hR cw
     have hF:manyF s f false R (0,n,skP s p2+1,nn,nm,nk+1,ks++[v]):=⟨hlt,h1,q2,by show nn+n≤_;omega,by show nk+1+n≤_;omega,.inl ⟨rfl,hR,by show s.length<skP s p2+1+n;have:=av.1;have:=aq.1;omega⟩⟩
     clear hR ha hc
     refine zg [(20,{cs:=[(5,cb [0] cv)],bs:=[(7,.row 30 6 (nk+1) (rowF encJ .nil (ks++[v])))]}),(21,{cs:=[(1,cb [0] cb2)]}),(22,{grd:=[(6,true),(7,true),(8,true)],cs:=[(8,cb [0] ca)]}),(25,{cs:=[(1,cb [0] cw)]})] [true,false,true,false,true] [((0:Int)==(0:Int))=true,((5:Int)==(6:Int))=false,((0:Int)==(0:Int))=true,inR .i64 (d+1),(nk+1)*88≤140737488355328,BlkEqv (.row 30 6 (nk+1) (catF nk (fun i j=>nthD (encJ (ks.getD i .nil)) j) fun i j=>nthD [.int .i64 v.kind,.bool v.b,.int .i64 v.n,.str v.s,.sl 1 v.names.length fun i j=>nthD [.str (v.names.getD i [])] j,.sl 6 v.kids.length (kidC v.kids)] ((0+i)*6+j))) (.row 30 6 (nk+1) (rowF encJ JV.nil (ks++[v]))),nk≤nk,0+1≤1,((0:Int)==(0:Int))=true,((0:Int)==(0:Int))=true,((0:Int)==(0:Int))=true,(bif (0:Int)==(0:Int) then false else false)=false,((0:Int)==(0:Int))=true] ⟨rfl,rfl,rfl,i6,oM,aS,oM,oM,rfl,rfl,rfl,rfl,rfl⟩ ?_
     exact za [(385,705)] (again _ (0,n,skP s p2+1,nn,nm,nk+1,ks++[v]) aS (by simp only;omega))
    | false =>
     rw [hc,if_neg dC] at hR cw
     have hF:manyF s f false R (3,n,skP s p2,nn,nm,nk+1,ks++[v]):=⟨aq.2,h1,q2,by show nn+n≤_;omega,by show nk+1+n≤_;omega,.inr ⟨rfl,hR.symm⟩⟩
     clear hR ha hc
     refine zg [(20,{cs:=[(5,cb [0] cv)],bs:=[(7,.row 30 6 (nk+1) (rowF encJ .nil (ks++[v])))]}),(21,{cs:=[(1,cb [0] cb2)]}),(22,{grd:=[(6,true),(7,true),(8,true)],cs:=[(8,cb [0] ca)]}),(25,{cs:=[(1,cb [0] cw)]})] [true,false,true,false,true] [((0:Int)==(0:Int))=true,((5:Int)==(6:Int))=false,((0:Int)==(0:Int))=true,inR .i64 (d+1),(nk+1)*88≤140737488355328,BlkEqv (.row 30 6 (nk+1) (catF nk (fun i j=>nthD (encJ (ks.getD i .nil)) j) fun i j=>nthD [.int .i64 v.kind,.bool v.b,.int .i64 v.n,.str v.s,.sl 1 v.names.length fun i j=>nthD [.str (v.names.getD i [])] j,.sl 6 v.kids.length (kidC v.kids)] ((0+i)*6+j))) (.row 30 6 (nk+1) (rowF encJ JV.nil (ks++[v]))),nk≤nk,0+1≤1,((0:Int)==(0:Int))=true,((0:Int)==(0:Int))=true,((0:Int)==(0:Int))=true,(bif (0:Int)==(0:Int) then false else false)=false,((0:Int)==(0:Int))=true] ⟨rfl,rfl,rfl,i6,oM,aS,oM,oM,rfl,rfl,rfl,rfl,rfl⟩ ?_
     exact za [(385,705)] (again _ (3,n,skP s p2,nn,nm,nk+1,ks++[v]) aS (by simp only;omega))
  ·rw [if_neg h0] at hR
   have h0:(e2==0)=false:=by simpa using h0
   have hF:manyF s f false R (e2,n,skP s p2,nn,nm,nk+1,ks++[v]):=⟨aq.2,h1,q2,by show nn+n≤_;omega,by show nk+1+n≤_;omega,.inr ⟨h0,hR.symm⟩⟩
   clear hR cw
   refine zg [(20,{cs:=[(5,cb [0] cv)],bs:=[(7,.row 30 6 (nk+1) (rowF encJ .nil (ks++[v])))]}),(21,{cs:=[(1,cb [0] cb2)]}),(22,{grd:=[(6,false),(7,false),(8,false),(9,false)],cs:=[(8,cb [0] ca)]})] [true,false,true,false,false] [((0:Int)==(0:Int))=true,((5:Int)==(6:Int))=false,((0:Int)==(0:Int))=true,inR .i64 (d+1),(nk+1)*88≤140737488355328,BlkEqv (.row 30 6 (nk+1) (catF nk (fun i j=>nthD (encJ (ks.getD i .nil)) j) fun i j=>nthD [.int .i64 v.kind,.bool v.b,.int .i64 v.n,.str v.s,.sl 1 v.names.length fun i j=>nthD [.str (v.names.getD i [])] j,.sl 6 v.kids.length (kidC v.kids)] ((0+i)*6+j))) (.row 30 6 (nk+1) (rowF encJ JV.nil (ks++[v]))),nk≤nk,0+1≤1,(e2==(0:Int)) = !true,(e2==(0:Int)) = !true,(e2==(0:Int)) = !true,(e2==(0:Int))=false,false=false,(e2==(0:Int))=false] ⟨rfl,rfl,rfl,i6,oM,aS,oM,oM,aS,aS,aS,aS,rfl,(show (e2==(0:Int))=false from aS)⟩ ?_
   exact za [(385,705)] (again _ (e2,n,skP s p2,nn,nm,nk+1,ks++[v]) aS (by simp only;omega))
 ·clear again
  refine zg [] [false] [(e==(0:Int))=false] (oN aS) ?_
  refine Wp.ent' kR (Ent.pubC (b:=1) (o:=4) (e:=9) (e':=30) (cs:=[Cell.int .i64 (5:Int),Cell.bool false,Cell.int .i64 (0:Int),Cell.str [],Cell.row (1:Nat) (369:Nat) (0:Nat) nn,Cell.row (6:Nat) (385:Nat) (0:Nat) nk]) (sz:=(1:Nat)) (id:=369) (off:=(0:Nat)) (m:=nn) (n:=nn) (f:=strsF nm) (m':=(JV.mk (5:Int) false (0:Int) [] nm ks).names.length) (f':=fun (i j:Nat)=>nthD [Cell.str ((JV.mk (5:Int) false (0:Int) [] nm ks).names.getD i [])] j) kR kR kR oM aS (fun i _ j hj=>str_one _ i j hj) rfl) ?_
  refine Wp.ent' kR (Ent.pubC (b:=1) (o:=5) (e:=30) (e':=30) (cs:=[Cell.int .i64 (5:Int),Cell.bool false,Cell.int .i64 (0:Int),Cell.str [],Cell.sl (1:Nat) (JV.mk (5:Int) false (0:Int) [] nm ks).names.length fun (i j:Nat)=>nthD [Cell.str ((JV.mk (5:Int) false (0:Int) [] nm ks).names.getD i [])] j,Cell.row (6:Nat) (385:Nat) (0:Nat) nk]) (sz:=(6:Nat)) (id:=385) (off:=(0:Nat)) (m:=nk) (n:=nk) (f:=fun (i j:Nat)=>nthD [Cell.int .i64 (ks.getD i JV.nil).kind,Cell.bool (ks.getD i JV.nil).b,Cell.int .i64 (ks.getD i JV.nil).n,Cell.str (ks.getD i JV.nil).s,encS (ks.getD i JV.nil).names,Cell.sl (6:Nat) (ks.getD i JV.nil).kids.length (kidC (ks.getD i JV.nil).kids)] j) (m':=(JV.mk (5:Int) false (0:Int) [] nm ks).kids.length) (f':=kidC (JV.mk (5:Int) false (0:Int) [] nm ks).kids) kR kR kR oM aS (kid_pub _ aS) rfl) ?_
  exact zb []
theorem manyC_O (s:List UInt8) (f:Nat→JV×Nat×Int) (p:Nat) (d:Int) (hl:s.length≤1000000000) (hp:p<s.length) (hb:decide (d≥8)=false) (hd : -100≤d) (ha:atB s (skP s (p+1)) 125=false) (hA:∀ p,p≤s.length→Adv s p (f p).2.1)
  (ih:∀ p,p≤s.length→FnB Tryz.prog G 69 [rjB s p 0] [.c (.ptr 0 0),.c (.int .i64 (d+1))] [.agg (encJ (f p).1)] [(0,rjB s (f p).2.1 (f p).2.2)]) {R:List (List UInt8)×List JV×Nat×Int} (hR:manyR f true s (s.length+1) (skP s (p+1)) [] []=R) :
  FnB Tryz.prog G 124 [rjB s p 0] [.c (.ptr 0 0),.c (.int .i64 6),.c (.int .i64 d)] [.agg (encJ (.mk 6 false 0 [] R.1 R.2.1))] [(0,rjB s R.2.2.1 R.2.2.2)]:=by
 refine zf Tryz.func124 ?_
 have hq:=skP_adv (s:=s) (p:=p+1) hp
 have c1:=blanks_ok (G:=G) s (p+1) 0 hl hp
 have c2:=at12_ok (G:=G) s (skP s (p+1)) 0 125
 rw [ha] at c2
 have hF:manyF s f true R (0,s.length+1,skP s (p+1),0,[],0,[]):=⟨hq.2,rfl,rfl,by show 0+(s.length+1)≤_;omega,by show 0+(s.length+1)≤_;omega,.inl ⟨rfl,hR,by show s.length<skP s (p+1)+(s.length+1);omega⟩⟩
 clear ha hR
 generalize skP s (p+1)=q at *
 have hd8:d<8:=by have:=of_decide_eq_false hb;omega
 refine zg [(8,{cs:=[(1,cb [0] c1)]}),(9,{cs:=[(2,cb [0] c2)]})] [true,false,false] [((6:Int)==(6:Int))=true,decide (d≥(8:Int))=false,inR .i64 ((p:Int)+1),false=false] ⟨rfl,hb,i6,rfl⟩ ?_
 refine Wp.loopK kR (fun (x:ManyX)=>⟨[(0,.v (.c (.ptr 0 0))),(1,.v (.c (.int .i64 6))),(2,.v (.c (.int .i64 d))),(6,.v (.c (.ptr 1 0))),(7,.v (.c (.ptr 49 0))),(8,.v (.c (.int .u8 125)))],[(1,.box 30 [.int .i64 0,.bool false,.int .i64 0,.str [],.nilsl,.nilsl]),(49,.box 30 [.int .i64 6,.bool false,.int .i64 0,.str [],.row 1 385 0 x.2.2.2.1,.row 6 401 0 x.2.2.2.2.2.1]),(0,rjB s x.2.2.1 x.1),(385,.row 9 1 x.2.2.2.1 (strsF x.2.2.2.2.1)),(401,.row 30 6 x.2.2.2.2.2.1 (rowF encJ .nil x.2.2.2.2.2.2))],417⟩)
  (manyF s f true R) (fun x=>x.2.1) (0,s.length+1,q,0,[],0,[])
  (Ent.trans (Ent.empC (b:=49) (o:=4) (sz:=1) (e:=9) (e':=30) (cs:=[.int .i64 6,.bool false,.int .i64 0,.str [],.nilsl,.nilsl]) (f:=strsF []) dC (of_decide_eq_true kR) kR kR rfl) (Ent.trans (Ent.empC (b:=49) (o:=5) (sz:=6) (e:=30) (e':=30) (cs:=[.int .i64 6,.bool false,.int .i64 0,.str [],.row 1 385 0 0,.nilsl]) (f:=rowF encJ .nil []) dC (of_decide_eq_true kR) kR kR rfl) (Ent.of [] kR kR kR trivial))) hF ?_
 clear hF hq
 rintro ⟨e,n,p,nn,nm,nk,ks⟩ L ⟨hk,h1,h2,h3,h4,hR⟩ again
 simp only at hk h1 h2 h3 h4 hR
 rcases hR with ⟨rfl,hR,hm⟩ | ⟨he,rfl⟩
 ·rcases n with _ | n
  ·omega
  rw [manyR] at hR
  have ct:=txt12_ok (G:=G) s p hl hk
  have at1:=textR_adv (s:=s) hk
  have te:=textR_e s p
  have hN:nameO true s p nm=nameR s p nm:=rfl
  rw [hN] at hR
  have hNR:nameR s p nm=if (textR s p).2.2=0 then (if nm.contains (textR s p).1 then (nm++[(textR s p).1],(textR s p).2.1,6) else (nm++[(textR s p).1],(wantR s (textR s p).2.1 58).1,(wantR s (textR s p).2.1 58).2)) else (nm++[(textR s p).1],(textR s p).2.1,3):=rfl
  clear hN
  generalize textR s p=tx at *
  obtain ⟨t,p1,e1⟩:=tx
  simp only at hNR ct at1 te
  have e4:BlkEqv (.row 9 1 (nn+1) (catF nn (strsF nm) (fun i j=>nthD [.str t] ((0+i)*1+j)))) (.row 9 1 (nn+1) (strsF (nm++[t]))):=strs_app nm t h1
  have g1:nn+1=(nm++[t]).length:=by simp [h1]
  have ctw:=twiceR_ok (G:=G) (nm++[t]) (nn+1) nn g1 (by rw [← g1];omega) (by rw [← g1];omega)
  rw [show twiceT (nm++[t]) nn=nm.contains t by rw [h1];exact twice_last nm t] at ctw
  have e6:EqvD (.c (.int .i64 (((nn+1:Nat):Int)-1))) (.c (.int .i64 (nn:Int))):=eqvD_of (by rw [show (((nn+1:Nat):Int)-1)=(nn:Int) by omega])
  rcases te with rfl | rfl
  ·cases hct:nm.contains t with
   | true =>
    rw [hct] at ctw
    have hNR:nameR s p nm=(nm++[t],p1,6):=by rw [hNR,if_pos rfl,if_pos hct]
    rw [hNR,if_neg (show ¬ (6:Int)=0 by decide)] at hR
    have cb1:=blanks_ok (G:=G) s p1 6 hl at1.2
    have aq:=skP_adv at1.2
    have hF:manyF s f true R (6,n,skP s p1,nn+1,nm++[t],nk,ks):=⟨aq.2,g1,h2,by show nn+1+n≤_;omega,by show nk+n≤_;omega,.inr ⟨rfl,hR.symm⟩⟩
    clear hR hct
    refine zg [(14,{cs:=[(3,cb [0] ct)],bs:=[(5,.row 9 1 (nn+1) (strsF (nm++[t])))]}),(15,{grd:=[(6,true),(7,true),(8,true),(9,true),(10,true),(11,true),(12,true)],cs:=[(12,lc [609] [.row 9 (1:Nat) (nn+(1:Nat)) (strsF (nm++[t]))] [.c (.row 1 (0:Nat) (0:Nat) (nn+(1:Nat))),.c (.int .i64 (nn:Int))] ctw kR kR kR (show (0:Nat)+(nn+(1:Nat))≤nn+(1:Nat) from oM))],fm:=[(11,.c (.int .i64 (nn:Int)))]}),(16,{cs:=[(1,cb [0] (fail_0 s p1 (6:Int)))]}),(21,{cs:=[(1,cb [0] cb1)]}),(22,{grd:=[(6,false),(7,false),(8,false),(9,false)]})] [true,true,true,false,false,false,false] [((0:Int)==(0:Int))=true,((6:Int)==(6:Int))=true,(nn+1)*16≤140737488355328,BlkEqv (.row 9 1 (nn+1) (catF nn (strsF nm) fun i j=>nthD [.str t] ((0+i)*1+j))) (.row 9 1 (nn+1) (strsF (nm++[t]))),nn≤nn,0+1≤1,((0:Int)==(0:Int))=true,((0:Int)==(0:Int))=true,((0:Int)==(0:Int))=true,((0:Int)==(0:Int))=true,((0:Int)==(0:Int))=true,((0:Int)==(0:Int))=true,EqvI (.c (.int .i64 ((↑(nn+(1:Nat)):Int)-(1:Int)))) (.c (.int .i64 (nn:Int))),EqvD (.c (.int .i64 ((↑(nn+(1:Nat)):Int)-(1:Int)))) (.c (.int .i64 (nn:Int))),inR .i64 ((↑(nn+(1:Nat)):Int)-(1:Int)),((0:Int)==(0:Int))=true,(bif (0:Int)==(0:Int) then true else false)=true,((6:Int)==(0:Int))=false,((6:Int)==(0:Int))=false,((6:Int)==(0:Int)) = !true,((6:Int)==(0:Int)) = !true,((6:Int)==(0:Int)) = !true,((6:Int)==(0:Int))=false,false=false,((6:Int)==(0:Int))=false] ⟨rfl,rfl,oM,aS,oM,oM,rfl,rfl,rfl,rfl,rfl,rfl,fun _ _=>trivial,aS,i6,rfl,rfl,rfl,rfl,rfl,rfl,rfl,rfl,rfl,rfl⟩ ?_
    exact za [(385,609)] (again _ (6,n,skP s p1,nn+1,nm++[t],nk,ks) aS (by simp only;omega))
   | false =>
    rw [hct] at ctw
    have hNR:nameR s p nm=(nm++[t],(wantR s p1 58).1,(wantR s p1 58).2):=by rw [hNR,if_pos rfl,if_neg (by rw [hct];decide)]
    rw [hNR] at hR
    have cw1:=want_ok (G:=G) s p1 58 hl at1.2
    have aw:=wantR_adv 58 at1.2
    have we:=wantR_e s p1 58
    clear hct hNR
    generalize wantR s p1 58=wx at *
    obtain ⟨p2,e2⟩:=wx
    simp only at hR cw1 aw we
    rcases we with rfl | rfl
    ·have cv:=ih p2 aw.2
     have av:=hA p2 aw.2
     generalize f p2=y at *
     obtain ⟨v,p3,e3⟩:=y
     simp only at hR cv av
     rw [if_pos trivial] at hR
     have aq:=skP_adv av.2
     have cb2:=blanks_ok (G:=G) s p3 e3 hl av.2
     have ca:=at12_ok (G:=G) s (skP s p3) e3 125
     have cw:=want_ok (G:=G) s (skP s p3) 44 hl aq.2
     have hw:wantR s (skP s p3) 44=if atB s (skP s p3) 44 then (skP s p3+1,0) else (skP s p3,3):=by unfold wantR;rw [skP_idem]
     rw [hw] at cw
     have e5:BlkEqv (.row 30 6 (nk+1) (catF nk (rowF encJ .nil ks) (fun i j=>nthD (encJ v) ((0+i)*6+j)))) (.row 30 6 (nk+1) (rowF encJ .nil (ks++[v]))):=enc_app ks v h2
     have q2:nk+1=(ks++[v]).length:=by simp [h2]
     clear hw
     by_cases h0:e3=0
     ·subst h0
      rw [if_pos rfl] at hR
      cases ha:atB s (skP s p3) 125 with
      | true =>
       have hlt:=at_lt ha
       rw [ha] at ca
       rw [if_pos (show atB s (skP s p3) (endC true)=true from ha)] at hR
       subst hR
       clear again cw ha
       refine zg [(14,{cs:=[(3,cb [0] ct)],bs:=[(5,.row 9 1 (nn+1) (strsF (nm++[t])))]}),(15,{grd:=[(6,true),(7,true),(8,true),(9,true),(10,true),(11,true),(12,true)],cs:=[(12,lc [609] [.row 9 (1:Nat) (nn+(1:Nat)) (strsF (nm++[t]))] [.c (.row 1 (0:Nat) (0:Nat) (nn+(1:Nat))),.c (.int .i64 (nn:Int))] ctw kR kR kR (show (0:Nat)+(nn+(1:Nat))≤nn+(1:Nat) from oM))],fm:=[(11,.c (.int .i64 (nn:Int)))]}),(20,{cs:=[(5,cb [0] cv)],bs:=[(7,.row 30 6 (nk+1) (rowF encJ .nil (ks++[v])))]}),(18,{cs:=[(1,cb [0] cw1)]}),(21,{cs:=[(1,cb [0] cb2)]}),(22,{grd:=[(6,true),(7,true),(8,true)],cs:=[(8,cb [0] ca)]})] [true,true,false,true,true,true] [((0:Int)==(0:Int))=true,((6:Int)==(6:Int))=true,(nn+1)*16≤140737488355328,BlkEqv (.row 9 1 (nn+1) (catF nn (strsF nm) fun i j=>nthD [.str t] ((0+i)*1+j))) (.row 9 1 (nn+1) (strsF (nm++[t]))),nn≤nn,0+1≤1,((0:Int)==(0:Int))=true,((0:Int)==(0:Int))=true,((0:Int)==(0:Int))=true,((0:Int)==(0:Int))=true,((0:Int)==(0:Int))=true,((0:Int)==(0:Int))=true,EqvI (.c (.int .i64 ((↑(nn+(1:Nat)):Int)-(1:Int)))) (.c (.int .i64 (nn:Int))),EqvD (.c (.int .i64 ((↑(nn+(1:Nat)):Int)-(1:Int)))) (.c (.int .i64 (nn:Int))),inR .i64 ((↑(nn+(1:Nat)):Int)-(1:Int)),((0:Int)==(0:Int))=true,(bif (0:Int)==(0:Int) then false else false)=false,((0:Int)==(0:Int))=true,((0:Int)==(0:Int))=true,inR .i64 (d+1),(nk+1)*88≤140737488355328,BlkEqv (.row 30 6 (nk+1) (catF nk (fun i j=>nthD (encJ (ks.getD i .nil)) j) fun i j=>nthD [.int .i64 v.kind,.bool v.b,.int .i64 v.n,.str v.s,.sl 1 v.names.length fun i j=>nthD [.str (v.names.getD i [])] j,.sl 6 v.kids.length (kidC v.kids)] ((0+i)*6+j))) (.row 30 6 (nk+1) (rowF encJ JV.nil (ks++[v]))),nk≤nk,0+1≤1,((0:Int)==(0:Int))=true,((0:Int)==(0:Int))=true,((0:Int)==(0:Int))=true,(bif (0:Int)==(0:Int) then true else false)=true,inR .i64 ((↑(skP s p3):Int)+1)] ⟨rfl,rfl,oM,aS,oM,oM,rfl,rfl,rfl,rfl,rfl,rfl,fun _ _=>trivial,aS,i6,rfl,rfl,rfl,rfl,i6,oM,aS,oM,oM,rfl,rfl,rfl,rfl,i6⟩ ?_
       refine Wp.ent' kR (Ent.pubC (b:=1) (o:=4) (e:=9) (e':=30) (cs:=[Cell.int .i64 (6:Int),Cell.bool false,Cell.int .i64 (0:Int),Cell.str [],Cell.row (1:Nat) (609:Nat) (0:Nat) (nn+(1:Nat)),Cell.row (6:Nat) (1185:Nat) (0:Nat) (nk+(1:Nat))]) (sz:=(1:Nat)) (id:=609) (off:=(0:Nat)) (m:=nn+(1:Nat)) (n:=nn+(1:Nat)) (f:=strsF (nm++[t])) (m':=(JV.mk (6:Int) false (0:Int) [] (nm++[t]) (ks++[v])).names.length) (f':=fun (i j:Nat)=>nthD [Cell.str ((JV.mk (6:Int) false (0:Int) [] (nm++[t]) (ks++[v])).names.getD i [])] j) kR kR kR oM aS (fun i _ j hj=>str_one _ i j hj) rfl) ?_
       refine Wp.ent' kR (Ent.pubC (b:=1) (o:=5) (e:=30) (e':=30) (cs:=[Cell.int .i64 (6:Int),Cell.bool false,Cell.int .i64 (0:Int),Cell.str [],Cell.sl (1:Nat) (JV.mk (6:Int) false (0:Int) [] (nm++[t]) (ks++[v])).names.length fun (i j:Nat)=>nthD [Cell.str ((JV.mk (6:Int) false (0:Int) [] (nm++[t]) (ks++[v])).names.getD i [])] j,Cell.row (6:Nat) (1185:Nat) (0:Nat) (nk+(1:Nat))]) (sz:=(6:Nat)) (id:=1185) (off:=(0:Nat)) (m:=nk+(1:Nat)) (n:=nk+(1:Nat)) (f:=rowF encJ JV.nil (ks++[v])) (m':=(JV.mk (6:Int) false (0:Int) [] (nm++[t]) (ks++[v])).kids.length) (f':=kidC (JV.mk (6:Int) false (0:Int) [] (nm++[t]) (ks++[v])).kids) kR kR kR oM aS (kid_pub _ aS) rfl) ?_
       exact zb []
      | false =>
       rw [ha] at ca
       rw [if_neg (show ¬ atB s (skP s p3) (endC true)=true by rw [show atB s (skP s p3) (endC true)=false from ha];decide)] at hR
       cases hc:atB s (skP s p3) 44 with
       | true =>
        have hlt:=at_lt hc
        rw [hc,if_pos rfl] at hR cw
        have hF:manyF s f true R (0,n,skP s p3+1,nn+1,nm++[t],nk+1,ks++[v]):=⟨hlt,g1,q2,by show nn+1+n≤_;omega,by show nk+1+n≤_;omega,.inl ⟨rfl,hR,by show s.length<skP s p3+1+n;have:=av.1;have:=aq.1;have:=aw.1;have:=at1.1;omega⟩⟩
        clear hR ha hc
        refine zg [(14,{cs:=[(3,cb [0] ct)],bs:=[(5,.row 9 1 (nn+1) (strsF (nm++[t])))]}),(15,{grd:=[(6,true),(7,true),(8,true),(9,true),(10,true),(11,true),(12,true)],cs:=[(12,lc [609] [.row 9 (1:Nat) (nn+(1:Nat)) (strsF (nm++[t]))] [.c (.row 1 (0:Nat) (0:Nat) (nn+(1:Nat))),.c (.int .i64 (nn:Int))] ctw kR kR kR (show (0:Nat)+(nn+(1:Nat))≤nn+(1:Nat) from oM))],fm:=[(11,.c (.int .i64 (nn:Int)))]}),(20,{cs:=[(5,cb [0] cv)],bs:=[(7,.row 30 6 (nk+1) (rowF encJ .nil (ks++[v])))]}),(18,{cs:=[(1,cb [0] cw1)]}),(21,{cs:=[(1,cb [0] cb2)]}),(22,{grd:=[(6,true),(7,true),(8,true)],cs:=[(8,cb [0] ca)]}),(25,{cs:=[(1,cb [0] cw)]})] [true,true,false,true,true,false,true] [((0:Int)==(0:Int))=true,((6:Int)==(6:Int))=true,(nn+1)*16≤140737488355328,BlkEqv (.row 9 1 (nn+1) (catF nn (strsF nm) fun i j=>nthD [.str t] ((0+i)*1+j))) (.row 9 1 (nn+1) (strsF (nm++[t]))),nn≤nn,0+1≤1,((0:Int)==(0:Int))=true,((0:Int)==(0:Int))=true,((0:Int)==(0:Int))=true,((0:Int)==(0:Int))=true,((0:Int)==(0:Int))=true,((0:Int)==(0:Int))=true,EqvI (.c (.int .i64 ((↑(nn+(1:Nat)):Int)-(1:Int)))) (.c (.int .i64 (nn:Int))),EqvD (.c (.int .i64 ((↑(nn+(1:Nat)):Int)-(1:Int)))) (.c (.int .i64 (nn:Int))),inR .i64 ((↑(nn+(1:Nat)):Int)-(1:Int)),((0:Int)==(0:Int))=true,(bif (0:Int)==(0:Int) then false else false)=false,((0:Int)==(0:Int))=true,((0:Int)==(0:Int))=true,inR .i64 (d+1),(nk+1)*88≤140737488355328,BlkEqv (.row 30 6 (nk+1) (catF nk (fun i j=>nthD (encJ (ks.getD i .nil)) j) fun i j=>nthD [.int .i64 v.kind,.bool v.b,.int .i64 v.n,.str v.s,.sl 1 v.names.length fun i j=>nthD [.str (v.names.getD i [])] j,.sl 6 v.kids.length (kidC v.kids)] ((0+i)*6+j))) (.row 30 6 (nk+1) (rowF encJ JV.nil (ks++[v]))),nk≤nk,0+1≤1,((0:Int)==(0:Int))=true,((0:Int)==(0:Int))=true,((0:Int)==(0:Int))=true,(bif (0:Int)==(0:Int) then false else false)=false,((0:Int)==(0:Int))=true] ⟨rfl,rfl,oM,aS,oM,oM,rfl,rfl,rfl,rfl,rfl,rfl,fun _ _=>trivial,aS,i6,rfl,rfl,rfl,rfl,i6,oM,aS,oM,oM,rfl,rfl,rfl,rfl,rfl⟩ ?_
        exact za [(385,609),(401,1185)] (again _ (0,n,skP s p3+1,nn+1,nm++[t],nk+1,ks++[v]) aS (by simp only;omega))
       | false =>
        rw [hc,if_neg dC] at hR cw
        have hF:manyF s f true R (3,n,skP s p3,nn+1,nm++[t],nk+1,ks++[v]):=⟨aq.2,g1,q2,by show nn+1+n≤_;omega,by show nk+1+n≤_;omega,.inr ⟨rfl,hR.symm⟩⟩
        clear hR ha hc
        refine zg [(14,{cs:=[(3,cb [0] ct)],bs:=[(5,.row 9 1 (nn+1) (strsF (nm++[t])))]}),(15,{grd:=[(6,true),(7,true),(8,true),(9,true),(10,true),(11,true),(12,true)],cs:=[(12,lc [609] [.row 9 (1:Nat) (nn+(1:Nat)) (strsF (nm++[t]))] [.c (.row 1 (0:Nat) (0:Nat) (nn+(1:Nat))),.c (.int .i64 (nn:Int))] ctw kR kR kR (show (0:Nat)+(nn+(1:Nat))≤nn+(1:Nat) from oM))],fm:=[(11,.c (.int .i64 (nn:Int)))]}),(20,{cs:=[(5,cb [0] cv)],bs:=[(7,.row 30 6 (nk+1) (rowF encJ .nil (ks++[v])))]}),(18,{cs:=[(1,cb [0] cw1)]}),(21,{cs:=[(1,cb [0] cb2)]}),(22,{grd:=[(6,true),(7,true),(8,true)],cs:=[(8,cb [0] ca)]}),(25,{cs:=[(1,cb [0] cw)]})] [true,true,false,true,true,false,true] [((0:Int)==(0:Int))=true,((6:Int)==(6:Int))=true,(nn+1)*16≤140737488355328,BlkEqv (.row 9 1 (nn+1) (catF nn (strsF nm) fun i j=>nthD [.str t] ((0+i)*1+j))) (.row 9 1 (nn+1) (strsF (nm++[t]))),nn≤nn,0+1≤1,((0:Int)==(0:Int))=true,((0:Int)==(0:Int))=true,((0:Int)==(0:Int))=true,((0:Int)==(0:Int))=true,((0:Int)==(0:Int))=true,((0:Int)==(0:Int))=true,EqvI (.c (.int .i64 ((↑(nn+(1:Nat)):Int)-(1:Int)))) (.c (.int .i64 (nn:Int))),EqvD (.c (.int .i64 ((↑(nn+(1:Nat)):Int)-(1:Int)))) (.c (.int .i64 (nn:Int))),inR .i64 ((↑(nn+(1:Nat)):Int)-(1:Int)),((0:Int)==(0:Int))=true,(bif (0:Int)==(0:Int) then false else false)=false,((0:Int)==(0:Int))=true,((0:Int)==(0:Int))=true,inR .i64 (d+1),(nk+1)*88≤140737488355328,BlkEqv (.row 30 6 (nk+1) (catF nk (fun i j=>nthD (encJ (ks.getD i .nil)) j) fun i j=>nthD [.int .i64 v.kind,.bool v.b,.int .i64 v.n,.str v.s,.sl 1 v.names.length fun i j=>nthD [.str (v.names.getD i [])] j,.sl 6 v.kids.length (kidC v.kids)] ((0+i)*6+j))) (.row 30 6 (nk+1) (rowF encJ JV.nil (ks++[v]))),nk≤nk,0+1≤1,((0:Int)==(0:Int))=true,((0:Int)==(0:Int))=true,((0:Int)==(0:Int))=true,(bif (0:Int)==(0:Int) then false else false)=false,((0:Int)==(0:Int))=true] ⟨rfl,rfl,oM,aS,oM,oM,rfl,rfl,rfl,rfl,rfl,rfl,fun _ _=>trivial,aS,i6,rfl,rfl,rfl,rfl,i6,oM,aS,oM,oM,rfl,rfl,rfl,rfl,rfl⟩ ?_
        exact za [(385,609),(401,1185)] (again _ (3,n,skP s p3,nn+1,nm++[t],nk+1,ks++[v]) aS (by simp only;omega))
     ·rw [if_neg h0] at hR
      have h0:(e3==0)=false:=by simpa using h0
      have hF:manyF s f true R (e3,n,skP s p3,nn+1,nm++[t],nk+1,ks++[v]):=⟨aq.2,g1,q2,by show nn+1+n≤_;omega,by show nk+1+n≤_;omega,.inr ⟨h0,hR.symm⟩⟩
      clear hR cw
      refine zg [(14,{cs:=[(3,cb [0] ct)],bs:=[(5,.row 9 1 (nn+1) (strsF (nm++[t])))]}),(15,{grd:=[(6,true),(7,true),(8,true),(9,true),(10,true),(11,true),(12,true)],cs:=[(12,lc [609] [.row 9 (1:Nat) (nn+(1:Nat)) (strsF (nm++[t]))] [.c (.row 1 (0:Nat) (0:Nat) (nn+(1:Nat))),.c (.int .i64 (nn:Int))] ctw kR kR kR (show (0:Nat)+(nn+(1:Nat))≤nn+(1:Nat) from oM))],fm:=[(11,.c (.int .i64 (nn:Int)))]}),(20,{cs:=[(5,cb [0] cv)],bs:=[(7,.row 30 6 (nk+1) (rowF encJ .nil (ks++[v])))]}),(18,{cs:=[(1,cb [0] cw1)]}),(21,{cs:=[(1,cb [0] cb2)]}),(22,{grd:=[(6,false),(7,false),(8,false),(9,false)],cs:=[(8,cb [0] ca)]})] [true,true,false,true,true,false,false] [((0:Int)==(0:Int))=true,((6:Int)==(6:Int))=true,(nn+1)*16≤140737488355328,BlkEqv (.row 9 1 (nn+1) (catF nn (strsF nm) fun i j=>nthD [.str t] ((0+i)*1+j))) (.row 9 1 (nn+1) (strsF (nm++[t]))),nn≤nn,0+1≤1,((0:Int)==(0:Int))=true,((0:Int)==(0:Int))=true,((0:Int)==(0:Int))=true,((0:Int)==(0:Int))=true,((0:Int)==(0:Int))=true,((0:Int)==(0:Int))=true,EqvI (.c (.int .i64 ((↑(nn+(1:Nat)):Int)-(1:Int)))) (.c (.int .i64 (nn:Int))),EqvD (.c (.int .i64 ((↑(nn+(1:Nat)):Int)-(1:Int)))) (.c (.int .i64 (nn:Int))),inR .i64 ((↑(nn+(1:Nat)):Int)-(1:Int)),((0:Int)==(0:Int))=true,(bif (0:Int)==(0:Int) then false else false)=false,((0:Int)==(0:Int))=true,((0:Int)==(0:Int))=true,inR .i64 (d+1),(nk+1)*88≤140737488355328,BlkEqv (.row 30 6 (nk+1) (catF nk (fun i j=>nthD (encJ (ks.getD i .nil)) j) fun i j=>nthD [.int .i64 v.kind,.bool v.b,.int .i64 v.n,.str v.s,.sl 1 v.names.length fun i j=>nthD [.str (v.names.getD i [])] j,.sl 6 v.kids.length (kidC v.kids)] ((0+i)*6+j))) (.row 30 6 (nk+1) (rowF encJ JV.nil (ks++[v]))),nk≤nk,0+1≤1,(e3==(0:Int)) = !true,(e3==(0:Int)) = !true,(e3==(0:Int)) = !true,(e3==(0:Int))=false,false=false,(e3==(0:Int))=false] ⟨rfl,rfl,oM,aS,oM,oM,rfl,rfl,rfl,rfl,rfl,rfl,fun _ _=>trivial,aS,i6,rfl,rfl,rfl,rfl,i6,oM,aS,oM,oM,aS,aS,aS,aS,rfl,(show (e3==(0:Int))=false from aS)⟩ ?_
      exact za [(385,609),(401,1185)] (again _ (e3,n,skP s p3,nn+1,nm++[t],nk+1,ks++[v]) aS (by simp only;omega))
    ·have hR:(nm++[t],ks,skP s p2,3)=R:=hR
     have cb1:=blanks_ok (G:=G) s p2 3 hl aw.2
     have aq:=skP_adv aw.2
     have hF:manyF s f true R (3,n,skP s p2,nn+1,nm++[t],nk,ks):=⟨aq.2,g1,h2,by show nn+1+n≤_;omega,by show nk+n≤_;omega,.inr ⟨rfl,hR.symm⟩⟩
     clear hR
     refine zg [(14,{cs:=[(3,cb [0] ct)],bs:=[(5,.row 9 1 (nn+1) (strsF (nm++[t])))]}),(15,{grd:=[(6,true),(7,true),(8,true),(9,true),(10,true),(11,true),(12,true)],cs:=[(12,lc [609] [.row 9 (1:Nat) (nn+(1:Nat)) (strsF (nm++[t]))] [.c (.row 1 (0:Nat) (0:Nat) (nn+(1:Nat))),.c (.int .i64 (nn:Int))] ctw kR kR kR (show (0:Nat)+(nn+(1:Nat))≤nn+(1:Nat) from oM))],fm:=[(11,.c (.int .i64 (nn:Int)))]}),(18,{cs:=[(1,cb [0] cw1)]}),(21,{cs:=[(1,cb [0] cb1)]}),(22,{grd:=[(6,false),(7,false),(8,false),(9,false)]})] [true,true,false,true,false,false,false] [((0:Int)==(0:Int))=true,((6:Int)==(6:Int))=true,(nn+1)*16≤140737488355328,BlkEqv (.row 9 1 (nn+1) (catF nn (strsF nm) fun i j=>nthD [.str t] ((0+i)*1+j))) (.row 9 1 (nn+1) (strsF (nm++[t]))),nn≤nn,0+1≤1,((0:Int)==(0:Int))=true,((0:Int)==(0:Int))=true,((0:Int)==(0:Int))=true,((0:Int)==(0:Int))=true,((0:Int)==(0:Int))=true,((0:Int)==(0:Int))=true,EqvI (.c (.int .i64 ((↑(nn+(1:Nat)):Int)-(1:Int)))) (.c (.int .i64 (nn:Int))),EqvD (.c (.int .i64 ((↑(nn+(1:Nat)):Int)-(1:Int)))) (.c (.int .i64 (nn:Int))),inR .i64 ((↑(nn+(1:Nat)):Int)-(1:Int)),((0:Int)==(0:Int))=true,(bif (0:Int)==(0:Int) then false else false)=false,((0:Int)==(0:Int))=true,((3:Int)==(0:Int))=false,((3:Int)==(0:Int)) = !true,((3:Int)==(0:Int)) = !true,((3:Int)==(0:Int)) = !true,((3:Int)==(0:Int))=false,false=false,((3:Int)==(0:Int))=false] ⟨rfl,rfl,oM,aS,oM,oM,rfl,rfl,rfl,rfl,rfl,rfl,fun _ _=>trivial,aS,i6,rfl,rfl,rfl,rfl,rfl,rfl,rfl,rfl,rfl,rfl⟩ ?_
     exact za [(385,609)] (again _ (3,n,skP s p2,nn+1,nm++[t],nk,ks) aS (by simp only;omega))
  ·have hNR:nameR s p nm=(nm++[t],p1,3):=by rw [hNR,if_neg dC]
   rw [hNR,if_neg (show ¬ (3:Int)=0 by decide)] at hR
   have cb1:=blanks_ok (G:=G) s p1 3 hl at1.2
   have aq:=skP_adv at1.2
   have hF:manyF s f true R (3,n,skP s p1,nn+1,nm++[t],nk,ks):=⟨aq.2,g1,h2,by show nn+1+n≤_;omega,by show nk+n≤_;omega,.inr ⟨rfl,hR.symm⟩⟩
   clear hR
   refine zg [(14,{cs:=[(3,cb [0] ct)],bs:=[(5,.row 9 1 (nn+1) (strsF (nm++[t])))]}),(15,{grd:=[(6,false),(7,false),(8,false),(9,false),(10,false),(11,false),(12,false),(13,false)]}),(21,{cs:=[(1,cb [0] cb1)]}),(22,{grd:=[(6,false),(7,false),(8,false),(9,false)]})] [true,true,false,false,false,false,false] [((0:Int)==(0:Int))=true,((6:Int)==(6:Int))=true,(nn+1)*16≤140737488355328,BlkEqv (.row 9 1 (nn+1) (catF nn (strsF nm) fun i j=>nthD [.str t] ((0+i)*1+j))) (.row 9 1 (nn+1) (strsF (nm++[t]))),nn≤nn,0+1≤1,((3:Int)==(0:Int)) = !true,((3:Int)==(0:Int)) = !true,((3:Int)==(0:Int)) = !true,((3:Int)==(0:Int)) = !true,((3:Int)==(0:Int)) = !true,((3:Int)==(0:Int)) = !true,((3:Int)==(0:Int)) = !true,((3:Int)==(0:Int))=false,false=false,((3:Int)==(0:Int))=false,((3:Int)==(0:Int))=false,((3:Int)==(0:Int)) = !true,((3:Int)==(0:Int)) = !true,((3:Int)==(0:Int)) = !true,((3:Int)==(0:Int))=false,false=false,((3:Int)==(0:Int))=false] ⟨rfl,rfl,oM,aS,oM,oM,rfl,rfl,rfl,rfl,rfl,rfl,rfl,rfl,rfl,rfl,rfl,rfl,rfl,rfl,rfl,rfl,rfl⟩ ?_
   exact za [(385,609)] (again _ (3,n,skP s p1,nn+1,nm++[t],nk,ks) aS (by simp only;omega))
 ·clear again
  refine zg [] [false] [(e==(0:Int))=false] (oN aS) ?_
  refine Wp.ent' kR (Ent.pubC (b:=1) (o:=4) (e:=9) (e':=30) (cs:=[Cell.int .i64 (6:Int),Cell.bool false,Cell.int .i64 (0:Int),Cell.str [],Cell.row (1:Nat) (385:Nat) (0:Nat) nn,Cell.row (6:Nat) (401:Nat) (0:Nat) nk]) (sz:=(1:Nat)) (id:=385) (off:=(0:Nat)) (m:=nn) (n:=nn) (f:=strsF nm) (m':=(JV.mk (6:Int) false (0:Int) [] nm ks).names.length) (f':=fun (i j:Nat)=>nthD [Cell.str ((JV.mk (6:Int) false (0:Int) [] nm ks).names.getD i [])] j) kR kR kR oM aS (fun i _ j hj=>str_one _ i j hj) rfl) ?_
  refine Wp.ent' kR (Ent.pubC (b:=1) (o:=5) (e:=30) (e':=30) (cs:=[Cell.int .i64 (6:Int),Cell.bool false,Cell.int .i64 (0:Int),Cell.str [],Cell.sl (1:Nat) (JV.mk (6:Int) false (0:Int) [] nm ks).names.length fun (i j:Nat)=>nthD [Cell.str ((JV.mk (6:Int) false (0:Int) [] nm ks).names.getD i [])] j,Cell.row (6:Nat) (401:Nat) (0:Nat) nk]) (sz:=(6:Nat)) (id:=401) (off:=(0:Nat)) (m:=nk) (n:=nk) (f:=fun (i j:Nat)=>nthD [Cell.int .i64 (ks.getD i JV.nil).kind,Cell.bool (ks.getD i JV.nil).b,Cell.int .i64 (ks.getD i JV.nil).n,Cell.str (ks.getD i JV.nil).s,encS (ks.getD i JV.nil).names,Cell.sl (6:Nat) (ks.getD i JV.nil).kids.length (kidC (ks.getD i JV.nil).kids)] j) (m':=(JV.mk (6:Int) false (0:Int) [] nm ks).kids.length) (f':=kidC (JV.mk (6:Int) false (0:Int) [] nm ks).kids) kR kR kR oM aS (kid_pub _ aS) rfl) ?_
  exact zb []
theorem wJ_den (k:Int) (b:Bool) (n:Int) (t:List UInt8):EqvD (.agg [.int .i64 k,.bool b,.int .i64 n,.str t,.nilsl,.nilsl]) (.agg (encJ (.mk k b n t [] []))):=agg_eqv (.cons CEq.rfl' (.cons CEq.rfl' (.cons CEq.rfl' (.cons CEq.rfl' (.cons CEq.nil (.cons CEq.nil .nil))))))
theorem many_ok (s:List UInt8) (f:Nat→JV×Nat×Int) (obj big:Bool) (p:Nat) (d:Int) (hl:s.length≤1000000000) (hp:p<s.length) (hb:decide (d≥8)=big) (hd : -100≤d) (hA:big=false→∀ p,p≤s.length→Adv s p (f p).2.1)
  (ih:big=false→∀ p,p≤s.length→FnB Tryz.prog G 69 [rjB s p 0] [.c (.ptr 0 0),.c (.int .i64 (d+1))] [.agg (encJ (f p).1)] [(0,rjB s (f p).2.1 (f p).2.2)]) :
  FnB Tryz.prog G 124 [rjB s p 0] [.c (.ptr 0 0),.c (.int .i64 (if obj then 6 else 5)),.c (.int .i64 d)] [.agg (encJ (listR f big obj s p).1)] [(0,rjB s (listR f big obj s p).2.1 (listR f big obj s p).2.2)]:=by
 unfold listR
 cases ha:atB s (skP s (p+1)) (endC obj) with
 | true =>
  rw [if_pos rfl]
  cases obj
  ·exact manyA_L s p d hl hp big hb ha
  ·exact manyA_O s p d hl hp big hb ha
 | false =>
  rw [if_neg (show ¬ (false=true) by decide)]
  cases big with
  | true =>
   rw [if_pos (show true=true from rfl)]
   cases obj
   ·exact manyB_L s p d hl hp hb ha
   ·exact manyB_O s p d hl hp hb ha
  | false =>
   rw [if_neg (show ¬ (false=true) by decide)]
   cases obj
   ·exact manyC_L s f p d hl hp hb hd ha (hA rfl) (ih rfl) rfl
   ·exact manyC_O s f p d hl hp hb hd ha (hA rfl) (ih rfl) rfl
theorem val12_main (s:List UInt8) (hl:s.length≤1000000000) (k:Nat) (hk:k≤8) (ih:(k==0)=false→∀ p,p≤s.length→FnB Tryz.prog G 69 [rjB s p 0] [.c (.ptr 0 0),.c (.int .i64 (8-(k:Int)+1))] [.agg (encJ (subR s k p).1)] [(0,rjB s (subR s k p).2.1 (subR s k p).2.2)])
  (hA:(k==0)=false→∀ p,p≤s.length→Adv s p (subR s k p).2.1) (p:Nat) (hp:p≤s.length):FnB Tryz.prog G 69 [rjB s p 0] [.c (.ptr 0 0),.c (.int .i64 (8-(k:Int)))] [.agg (encJ (valR s k p).1)] [(0,rjB s (valR s k p).2.1 (valR s k p).2.2)]:=by
 refine zf Tryz.func69 ?_
 have c1:=blanks_ok (G:=G) s p 0 hl hp
 have hq:=(skP_adv hp).2
 have e0:=wJ_den 0 false 0 []
 have e1:=wJ_den 1 false 0 []
 have e2:=wJ_den 2 true 0 []
 have e3:=wJ_den 2 false 0 []
 rw [valR_eq]
 have hmL:=fun h=>many_ok (G:=G) s (subR s k) false (k==0) (skP s p) (8-(k:Int)) hl h (by rcases k with _ | k;rfl;rw [decide_eq_false oM];rfl) oM hA ih
 have hmO:=fun h=>many_ok (G:=G) s (subR s k) true (k==0) (skP s p) (8-(k:Int)) hl h (by rcases k with _ | k;rfl;rw [decide_eq_false oM];rfl) oM hA ih
 clear ih hA
 generalize skP s p=q at *
 have a1:=at12_ok (G:=G) s q 0 110
 have a2:=at12_ok (G:=G) s q 0 116
 have a3:=at12_ok (G:=G) s q 0 102
 have a4:=at12_ok (G:=G) s q 0 34
 have a5:=at12_ok (G:=G) s q 0 91
 have a6:=at12_ok (G:=G) s q 0 123
 have a7:=at12_ok (G:=G) s q 0 45
 by_cases hge:s.length≤q
 ·rw [if_pos hge]
  refine zg [(22,{fm:=[(0,.agg (encJ .nil))]}),(1,{cs:=[(1,cb [0] c1)]}),(4,{cs:=[(1,cb [0] (fail_0 s q (3:Int)))]})] [true] [decide ((q:Int)≥(s.length:Int))=true,EqvI (.agg [.int .i64 0,.bool false,.int .i64 0,.str [],.nilsl,.nilsl]) (.agg (encJ JV.nil)),EqvD (.agg [.int .i64 0,.bool false,.int .i64 0,.str [],.nilsl,.nilsl]) (.agg (encJ JV.nil))] ⟨sO,eqvI_flat _ _ kR,(show EqvD (.agg [.int .i64 (0:Int),.bool false,.int .i64 (0:Int),.str [],.nilsl,.nilsl]) (.agg (encJ JV.nil)) from aS)⟩ ?_
  exact zb []
 have hlt:q<s.length:=by omega
 rw [if_neg hge]
 have hmL:=hmL hlt
 have hmO:=hmO hlt
 have ht:decide ((q:Int)≥(s.length:Int))=false:=decide_eq_false oM
 have hz:∀ d:UInt8,atB s q d=(s.getD q 0==d):=fun d=>by unfold atB;rw [decide_eq_true hlt];rfl
 rw [hz] at a1 a2 a3 a4 a5 a6 a7
 clear hz hge
 have hdg:=digit6_ok (G:=G) (s.getD q 0)
 by_cases h1:s.getD q 0=110
 ·rw [if_pos h1]
  rw [h1] at a1
  cases hw:wordB s q [110,117,108,108] with
  | true =>
   have cw:=word_yes (G:=G) s q [110,117,108,108] hl dC hq hw
   clear hw hmL hmO
   refine zg [(7,{fm:=[(0,.agg (encJ (.mk 1 false 0 [] [] [])))]}),(1,{cs:=[(1,cb [0] c1)]}),(5,{cs:=[(1,cb [0] a1)]}),(6,{cs:=[(1,cb [0] cw)]})] [false,true] [decide ((q:Int)≥(s.length:Int))=false,((110:UInt8)==(110:UInt8))=true,EqvI (.agg [.int .i64 1,.bool false,.int .i64 0,.str [],.nilsl,.nilsl]) (.agg (encJ (JV.mk (1:Int) false (0:Int) [] [] []))),EqvD (.agg [.int .i64 1,.bool false,.int .i64 0,.str [],.nilsl,.nilsl]) (.agg (encJ (JV.mk (1:Int) false (0:Int) [] [] [])))] ⟨aS,rfl,eqvI_flat _ _ kR,(show EqvD (.agg [.int .i64 (1:Int),.bool false,.int .i64 (0:Int),.str [],.nilsl,.nilsl]) (.agg (encJ (JV.mk (1:Int) false (0:Int) [] [] []))) from aS)⟩ ?_
   exact zb []
  | false =>
   have cw:=word_no (G:=G) s q [110,117,108,108] hl dC hq hw
   clear hw hmL hmO
   refine zg [(7,{fm:=[(0,.agg (encJ (.mk 1 false 0 [] [] [])))]}),(1,{cs:=[(1,cb [0] c1)]}),(5,{cs:=[(1,cb [0] a1)]}),(6,{cs:=[(1,cb [0] cw)]})] [false,true] [decide ((q:Int)≥(s.length:Int))=false,((110:UInt8)==(110:UInt8))=true,EqvI (.agg [.int .i64 1,.bool false,.int .i64 0,.str [],.nilsl,.nilsl]) (.agg (encJ (JV.mk (1:Int) false (0:Int) [] [] []))),EqvD (.agg [.int .i64 1,.bool false,.int .i64 0,.str [],.nilsl,.nilsl]) (.agg (encJ (JV.mk (1:Int) false (0:Int) [] [] [])))] ⟨aS,rfl,eqvI_flat _ _ kR,(show EqvD (.agg [.int .i64 (1:Int),.bool false,.int .i64 (0:Int),.str [],.nilsl,.nilsl]) (.agg (encJ (JV.mk (1:Int) false (0:Int) [] [] []))) from aS)⟩ ?_
   exact zb []
 rw [if_neg h1]
 rw [beq_eq_false_iff_ne.2 h1] at a1
 by_cases h2:s.getD q 0=116
 ·rw [if_pos h2]
  rw [h2] at a2
  cases hw:wordB s q [116,114,117,101] with
  | true =>
   have cw:=word_yes (G:=G) s q [116,114,117,101] hl dC hq hw
   clear hw hmL hmO
   refine zg [(10,{fm:=[(0,.agg (encJ (.mk 2 true 0 [] [] [])))]}),(1,{cs:=[(1,cb [0] c1)]}),(5,{cs:=[(1,cb [0] a1)]}),(8,{cs:=[(1,cb [0] a2)]}),(9,{cs:=[(1,cb [0] cw)]})] [false,false,true] [decide ((q:Int)≥(s.length:Int))=false,false=false,((116:UInt8)==(116:UInt8))=true,EqvI (.agg [.int .i64 2,.bool true,.int .i64 0,.str [],.nilsl,.nilsl]) (.agg (encJ (JV.mk (2:Int) true (0:Int) [] [] []))),EqvD (.agg [.int .i64 2,.bool true,.int .i64 0,.str [],.nilsl,.nilsl]) (.agg (encJ (JV.mk (2:Int) true (0:Int) [] [] [])))] ⟨aS,rfl,rfl,eqvI_flat _ _ kR,(show EqvD (.agg [.int .i64 (2:Int),.bool true,.int .i64 (0:Int),.str [],.nilsl,.nilsl]) (.agg (encJ (JV.mk (2:Int) true (0:Int) [] [] []))) from aS)⟩ ?_
   exact zb []
  | false =>
   have cw:=word_no (G:=G) s q [116,114,117,101] hl dC hq hw
   clear hw hmL hmO
   refine zg [(10,{fm:=[(0,.agg (encJ (.mk 2 true 0 [] [] [])))]}),(1,{cs:=[(1,cb [0] c1)]}),(5,{cs:=[(1,cb [0] a1)]}),(8,{cs:=[(1,cb [0] a2)]}),(9,{cs:=[(1,cb [0] cw)]})] [false,false,true] [decide ((q:Int)≥(s.length:Int))=false,false=false,((116:UInt8)==(116:UInt8))=true,EqvI (.agg [.int .i64 2,.bool true,.int .i64 0,.str [],.nilsl,.nilsl]) (.agg (encJ (JV.mk (2:Int) true (0:Int) [] [] []))),EqvD (.agg [.int .i64 2,.bool true,.int .i64 0,.str [],.nilsl,.nilsl]) (.agg (encJ (JV.mk (2:Int) true (0:Int) [] [] [])))] ⟨aS,rfl,rfl,eqvI_flat _ _ kR,(show EqvD (.agg [.int .i64 (2:Int),.bool true,.int .i64 (0:Int),.str [],.nilsl,.nilsl]) (.agg (encJ (JV.mk (2:Int) true (0:Int) [] [] []))) from aS)⟩ ?_
   exact zb []
 rw [if_neg h2]
 rw [beq_eq_false_iff_ne.2 h2] at a2
 by_cases h3:s.getD q 0=102
 ·rw [if_pos h3]
  rw [h3] at a3
  cases hw:wordB s q [102,97,108,115,101] with
  | true =>
   have cw:=word_yes (G:=G) s q [102,97,108,115,101] hl dC hq hw
   clear hw hmL hmO
   refine zg [(13,{fm:=[(0,.agg (encJ (.mk 2 false 0 [] [] [])))]}),(1,{cs:=[(1,cb [0] c1)]}),(5,{cs:=[(1,cb [0] a1)]}),(8,{cs:=[(1,cb [0] a2)]}),(11,{cs:=[(1,cb [0] a3)]}),(12,{cs:=[(1,cb [0] cw)]})] [false,false,false,true] [decide ((q:Int)≥(s.length:Int))=false,false=false,false=false,((102:UInt8)==(102:UInt8))=true,EqvI (.agg [.int .i64 2,.bool false,.int .i64 0,.str [],.nilsl,.nilsl]) (.agg (encJ (JV.mk (2:Int) false (0:Int) [] [] []))),EqvD (.agg [.int .i64 2,.bool false,.int .i64 0,.str [],.nilsl,.nilsl]) (.agg (encJ (JV.mk (2:Int) false (0:Int) [] [] [])))] ⟨aS,rfl,rfl,rfl,eqvI_flat _ _ kR,(show EqvD (.agg [.int .i64 (2:Int),.bool false,.int .i64 (0:Int),.str [],.nilsl,.nilsl]) (.agg (encJ (JV.mk (2:Int) false (0:Int) [] [] []))) from aS)⟩ ?_
   exact zb []
  | false =>
   have cw:=word_no (G:=G) s q [102,97,108,115,101] hl dC hq hw
   clear hw hmL hmO
   refine zg [(13,{fm:=[(0,.agg (encJ (.mk 2 false 0 [] [] [])))]}),(1,{cs:=[(1,cb [0] c1)]}),(5,{cs:=[(1,cb [0] a1)]}),(8,{cs:=[(1,cb [0] a2)]}),(11,{cs:=[(1,cb [0] a3)]}),(12,{cs:=[(1,cb [0] cw)]})] [false,false,false,true] [decide ((q:Int)≥(s.length:Int))=false,false=false,false=false,((102:UInt8)==(102:UInt8))=true,EqvI (.agg [.int .i64 2,.bool false,.int .i64 0,.str [],.nilsl,.nilsl]) (.agg (encJ (JV.mk (2:Int) false (0:Int) [] [] []))),EqvD (.agg [.int .i64 2,.bool false,.int .i64 0,.str [],.nilsl,.nilsl]) (.agg (encJ (JV.mk (2:Int) false (0:Int) [] [] [])))] ⟨aS,rfl,rfl,rfl,eqvI_flat _ _ kR,(show EqvD (.agg [.int .i64 (2:Int),.bool false,.int .i64 (0:Int),.str [],.nilsl,.nilsl]) (.agg (encJ (JV.mk (2:Int) false (0:Int) [] [] []))) from aS)⟩ ?_
   exact zb []
 rw [if_neg h3]
 rw [beq_eq_false_iff_ne.2 h3] at a3
 by_cases h4:s.getD q 0=34
 ·rw [if_pos h4]
  rw [h4] at a4
  have ct:=txt12_ok (G:=G) s q hl hq
  have e4:=wJ_den 4 false 0 (textR s q).1
  clear hmL hmO
  refine zg [(15,{cs:=[(1,cb [0] ct)],fm:=[(2,.agg (encJ (.mk 4 false 0 (textR s q).1 [] [])))]}),(1,{cs:=[(1,cb [0] c1)]}),(5,{cs:=[(1,cb [0] a1)]}),(8,{cs:=[(1,cb [0] a2)]}),(11,{cs:=[(1,cb [0] a3)]}),(14,{cs:=[(1,cb [0] a4)]})] [false,false,false,false,true] [decide ((q:Int)≥(s.length:Int))=false,false=false,false=false,false=false,((34:UInt8)==(34:UInt8))=true,EqvI (.agg [.int .i64 4,.bool false,.int .i64 0,.str (textR s q).1,.nilsl,.nilsl]) (.agg [.int .i64 (JV.mk (4:Int) false (0:Int) (textR s q).1 [] []).kind,.bool (JV.mk (4:Int) false (0:Int) (textR s q).1 [] []).b,.int .i64 (JV.mk (4:Int) false (0:Int) (textR s q).1 [] []).n,.str (JV.mk (4:Int) false (0:Int) (textR s q).1 [] []).s,encS [],.sl 6 (0:Nat) (kidC [])]),EqvD (.agg [.int .i64 4,.bool false,.int .i64 0,.str (textR s q).1,.nilsl,.nilsl]) (.agg [.int .i64 (JV.mk (4:Int) false (0:Int) (textR s q).1 [] []).kind,.bool (JV.mk (4:Int) false (0:Int) (textR s q).1 [] []).b,.int .i64 (JV.mk (4:Int) false (0:Int) (textR s q).1 [] []).n,.str (JV.mk (4:Int) false (0:Int) (textR s q).1 [] []).s,encS [],.sl 6 (0:Nat) (kidC [])])] ⟨aS,rfl,rfl,rfl,rfl,eqvI_flat _ _ kR,(show EqvD (.agg [.int .i64 (4:Int),.bool false,.int .i64 (0:Int),.str (textR s q).1,.nilsl,.nilsl]) (.agg [.int .i64 (JV.mk (4:Int) false (0:Int) (textR s q).1 [] []).kind,.bool (JV.mk (4:Int) false (0:Int) (textR s q).1 [] []).b,.int .i64 (JV.mk (4:Int) false (0:Int) (textR s q).1 [] []).n,.str (JV.mk (4:Int) false (0:Int) (textR s q).1 [] []).s,encS [],.sl (6:Nat) (0:Nat) (kidC [])]) from aS)⟩ ?_
  exact zb []
 rw [if_neg h4]
 rw [beq_eq_false_iff_ne.2 h4] at a4
 by_cases h5:s.getD q 0=91
 ·rw [if_pos h5]
  rw [h5] at a5
  clear hmO
  generalize listR (subR s k) (k==0) false s q=R at *
  refine zg [(1,{cs:=[(1,cb [0] c1)]}),(5,{cs:=[(1,cb [0] a1)]}),(8,{cs:=[(1,cb [0] a2)]}),(11,{cs:=[(1,cb [0] a3)]}),(14,{cs:=[(1,cb [0] a4)]}),(16,{cs:=[(1,cb [0] a5)]}),(17,{cs:=[(2,cb [0] hmL)]})] [false,false,false,false,false,true] [decide ((q:Int)≥(s.length:Int))=false,false=false,false=false,false=false,false=false,((91:UInt8)==(91:UInt8))=true] ⟨aS,rfl,rfl,rfl,rfl,rfl⟩ ?_
  exact zb []
 rw [if_neg h5]
 rw [beq_eq_false_iff_ne.2 h5] at a5
 clear hmL
 by_cases h6:s.getD q 0=123
 ·rw [if_pos h6]
  rw [h6] at a6
  generalize listR (subR s k) (k==0) true s q=R at *
  refine zg [(1,{cs:=[(1,cb [0] c1)]}),(5,{cs:=[(1,cb [0] a1)]}),(8,{cs:=[(1,cb [0] a2)]}),(11,{cs:=[(1,cb [0] a3)]}),(14,{cs:=[(1,cb [0] a4)]}),(16,{cs:=[(1,cb [0] a5)]}),(18,{cs:=[(1,cb [0] a6)]}),(19,{cs:=[(2,cb [0] hmO)]})] [false,false,false,false,false,false,true] [decide ((q:Int)≥(s.length:Int))=false,false=false,false=false,false=false,false=false,false=false,((123:UInt8)==(123:UInt8))=true] ⟨aS,rfl,rfl,rfl,rfl,rfl,rfl⟩ ?_
  exact zb []
 rw [if_neg h6]
 rw [beq_eq_false_iff_ne.2 h6] at a6
 clear hmO
 by_cases h7:s.getD q 0=45∨digitB (s.getD q 0)=true
 ·rw [if_pos h7]
  have cn:=num12_ok (G:=G) s q hl hlt
  have e7:=wJ_den 3 false (numR s q).1 []
  have hor:(bif s.getD q 0==45 then true else digitB (s.getD q 0))=true:=by
   rcases h7 with h | h
   ·rw [h];rfl
   ·rw [h];cases (s.getD q 0==45)<;>rfl
  clear h7
  refine zg [(21,{cs:=[(1,cb [0] cn)],fm:=[(2,.agg (encJ (.mk 3 false (numR s q).1 [] [] [])))]}),(1,{cs:=[(1,cb [0] c1)]}),(5,{cs:=[(1,cb [0] a1)]}),(8,{cs:=[(1,cb [0] a2)]}),(11,{cs:=[(1,cb [0] a3)]}),(14,{cs:=[(1,cb [0] a4)]}),(16,{cs:=[(1,cb [0] a5)]}),(18,{cs:=[(1,cb [0] a6)]}),(20,{cs:=[(1,cb [0] a7),(12,pc hdg)]})] [false,false,false,false,false,false,false,true] [decide ((q:Int)≥(s.length:Int))=false,false=false,false=false,false=false,false=false,false=false,false=false,(s.getD q (0:UInt8)==(45:UInt8))=false→(0:Int)≤(q:Int)∧(q:Int)<(s.length:Int),(bif s.getD q (0:UInt8)==(45:UInt8) then true else digitB (s.getD q (0:UInt8)))=true,EqvI (.agg [.int .i64 3,.bool false,.int .i64 (numV s q),.str [],.nilsl,.nilsl]) (.agg [.int .i64 (JV.mk (3:Int) false (numV s q) [] [] []).kind,.bool (JV.mk (3:Int) false (numV s q) [] [] []).b,.int .i64 (JV.mk (3:Int) false (numV s q) [] [] []).n,.str [],encS [],.sl 6 (0:Nat) (kidC [])]),EqvD (.agg [.int .i64 3,.bool false,.int .i64 (numV s q),.str [],.nilsl,.nilsl]) (.agg [.int .i64 (JV.mk (3:Int) false (numV s q) [] [] []).kind,.bool (JV.mk (3:Int) false (numV s q) [] [] []).b,.int .i64 (JV.mk (3:Int) false (numV s q) [] [] []).n,.str [],encS [],.sl 6 (0:Nat) (kidC [])])] ⟨aS,rfl,rfl,rfl,rfl,rfl,rfl,oM,aS,eqvI_flat _ _ kR,(show EqvD (.agg [.int .i64 (3:Int),.bool false,.int .i64 (numV s q),.str [],.nilsl,.nilsl]) (.agg [.int .i64 (JV.mk (3:Int) false (numV s q) [] [] []).kind,.bool (JV.mk (3:Int) false (numV s q) [] [] []).b,.int .i64 (JV.mk (3:Int) false (numV s q) [] [] []).n,.str [],encS [],.sl (6:Nat) (0:Nat) (kidC [])]) from aS)⟩ ?_
  exact zb []
 ·rw [if_neg h7]
  have hor:(bif s.getD q 0==45 then true else digitB (s.getD q 0))=false:=by
   rw [beq_eq_false_iff_ne.2 (fun h=>h7 (.inl h))]
   cases hd:digitB (s.getD q 0)
   ·rfl
   ·exact (h7 (.inr hd)).elim
  clear h7
  refine zg [(22,{fm:=[(0,.agg (encJ .nil))]}),(1,{cs:=[(1,cb [0] c1)]}),(5,{cs:=[(1,cb [0] a1)]}),(8,{cs:=[(1,cb [0] a2)]}),(11,{cs:=[(1,cb [0] a3)]}),(14,{cs:=[(1,cb [0] a4)]}),(16,{cs:=[(1,cb [0] a5)]}),(18,{cs:=[(1,cb [0] a6)]}),(20,{cs:=[(1,cb [0] a7),(12,pc hdg)]}),(2,{cs:=[(1,cb [0] (fail_0 s q (3:Int)))]})] [false,false,false,false,false,false,false,false] [decide ((q:Int)≥(s.length:Int))=false,false=false,false=false,false=false,false=false,false=false,false=false,(s.getD q (0:UInt8)==(45:UInt8))=false→(0:Int)≤(q:Int)∧(q:Int)<(s.length:Int),(bif s.getD q (0:UInt8)==(45:UInt8) then true else digitB (s.getD q (0:UInt8)))=false,EqvI (.agg [.int .i64 0,.bool false,.int .i64 0,.str [],.nilsl,.nilsl]) (.agg (encJ JV.nil)),EqvD (.agg [.int .i64 0,.bool false,.int .i64 0,.str [],.nilsl,.nilsl]) (.agg (encJ JV.nil))] ⟨aS,rfl,rfl,rfl,rfl,rfl,rfl,oM,aS,eqvI_flat _ _ kR,(show EqvD (.agg [.int .i64 (0:Int),.bool false,.int .i64 (0:Int),.str [],.nilsl,.nilsl]) (.agg (encJ JV.nil)) from aS)⟩ ?_
  exact zb []
theorem val12_ok (s:List UInt8) (hl:s.length≤1000000000):∀ (k:Nat),k≤8→∀ (p:Nat),p≤s.length→FnB Tryz.prog G 69 [rjB s p 0] [.c (.ptr 0 0),.c (.int .i64 (8-(k:Int)))] [.agg (encJ (valR s k p).1)] [(0,rjB s (valR s k p).2.1 (valR s k p).2.2)]
 | 0,hk,p,hp=>val12_main s hl 0 hk (fun h=>by cases h) (fun h=>by cases h) p hp
 | k+1,hk,p,hp=>by
  have ih:=val12_ok s hl k oM
  refine val12_main s hl (k+1) hk (fun _ p hp => ?_) (fun _ p hp=>valR_adv k p hp) p hp
  have:=ih p hp
  rw [show 8-(k:Int)=8-((k+1:Nat):Int)+1 by omega] at this
  exact this
theorem nilJ_den':EqvD (.agg [.int .i64 0,.bool false,.int .i64 0,.str [],.nilsl,.nilsl]) (.agg (encJ .nil)):=wJ_den 0 false 0 []
theorem parse12_ok (s:List UInt8) (hl:s.length≤1000000000):Pur Tryz.prog G 19 [.c (.str s)] [.agg (encJ (parseJ s).1),.c (.int .i64 (parseJ s).2)]:=by
 refine zp Tryz.func19 ?_
 have cv:=val12_ok (G:=G) s hl 8 (Nat.le_refl _) 0 (Nat.zero_le _)
 have av:=valR_adv (s:=s) 8 0 (Nat.zero_le _)
 have hP:parseJ s=if (valR s 8 0).2.2=0 then (if skP s (valR s 8 0).2.1<s.length then (.nil,5) else ((valR s 8 0).1,0)) else (.nil,(valR s 8 0).2.2):=rfl
 rw [hP]
 clear hP
 generalize valR s 8 0=y at *
 obtain ⟨v,p,e⟩:=y
 simp only at cv av ⊢
 have cv:FnB Tryz.prog G 69 [rjB s 0 0] [.c (.ptr 0 0),.c (.int .i64 0)] [.agg (encJ v)] [(0,rjB s p e)]:=cv
 have cb1:=blanks_ok (G:=G) s p e hl av.2
 have e0:=nilJ_den'
 by_cases h0:e=0
 ·subst h0
  rw [if_pos rfl]
  by_cases h1:skP s p<s.length
  ·rw [if_pos h1]
   refine zg [(7,{fm:=[(0,.agg (encJ .nil))]}),(2,{cs:=[(1,cb [64] cv)]}),(3,{cs:=[(1,cb [64] cb1)]}),(5,{cs:=[(1,cb [64] (fail_0 s (skP s p) (5:Int)))]})] [true,true] [decide ((↑(skP s p):Int)<(s.length:Int))=true,((5:Int) != (0:Int))=true,EqvI (.agg [.int .i64 0,.bool false,.int .i64 0,.str [],.nilsl,.nilsl]) (.agg (encJ JV.nil)),EqvD (.agg [.int .i64 0,.bool false,.int .i64 0,.str [],.nilsl,.nilsl]) (.agg (encJ JV.nil))] ⟨sO,rfl,eqvI_flat _ _ kR,(show EqvD (.agg [.int .i64 (0:Int),.bool false,.int .i64 (0:Int),.str [],.nilsl,.nilsl]) (.agg (encJ JV.nil)) from aS)⟩ ?_
   exact zr
  ·rw [if_neg h1]
   have ht:decide ((skP s p:Int)<(s.length:Int))=false:=decide_eq_false oM
   refine zg [(7,{fm:=[(0,.agg (encJ .nil))]}),(2,{cs:=[(1,cb [64] cv)]}),(3,{cs:=[(1,cb [64] cb1)]})] [false,false] [decide ((↑(skP s p):Int)<(s.length:Int))=false,((0:Int) != (0:Int))=false] ⟨aS,rfl⟩ ?_
   exact zr
 ·rw [if_neg h0]
  have h0:(e==0)=false:=by simpa using h0
  have h0':(e != 0)=true:=by simpa using h0
  by_cases h1:skP s p<s.length
  ·refine zg [(7,{fm:=[(0,.agg (encJ .nil))]}),(2,{cs:=[(1,cb [64] cv)]}),(3,{cs:=[(1,cb [64] cb1)]}),(5,{cs:=[(1,cb [64] (fail_e s (skP s p) e (5:Int) aS))]})] [true,true] [decide ((↑(skP s p):Int)<(s.length:Int))=true,(e != (0:Int))=true,EqvI (.agg [.int .i64 0,.bool false,.int .i64 0,.str [],.nilsl,.nilsl]) (.agg (encJ JV.nil)),EqvD (.agg [.int .i64 0,.bool false,.int .i64 0,.str [],.nilsl,.nilsl]) (.agg (encJ JV.nil))] ⟨sO,aS,eqvI_flat _ _ kR,(show EqvD (.agg [.int .i64 (0:Int),.bool false,.int .i64 (0:Int),.str [],.nilsl,.nilsl]) (.agg (encJ JV.nil)) from aS)⟩ ?_
   exact zr
  ·have ht:decide ((skP s p:Int)<(s.length:Int))=false:=decide_eq_false oM
   refine zg [(7,{fm:=[(0,.agg (encJ .nil))]}),(2,{cs:=[(1,cb [64] cv)]}),(3,{cs:=[(1,cb [64] cb1)]})] [false,true] [decide ((↑(skP s p):Int)<(s.length:Int))=false,(e != (0:Int))=true,EqvI (.agg [.int .i64 0,.bool false,.int .i64 0,.str [],.nilsl,.nilsl]) (.agg (encJ JV.nil)),EqvD (.agg [.int .i64 0,.bool false,.int .i64 0,.str [],.nilsl,.nilsl]) (.agg (encJ JV.nil))] ⟨aS,aS,eqvI_flat _ _ kR,(show EqvD (.agg [.int .i64 (0:Int),.bool false,.int .i64 (0:Int),.str [],.nilsl,.nilsl]) (.agg (encJ JV.nil)) from aS)⟩ ?_
   exact zr
end Go.Proofs.Tw
end
