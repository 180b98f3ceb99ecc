/- Own texts for this claim: Sto2, SvNil, Ow, Pp, Wt, Pq, Pr, Pc, Pd, Ps, Pf, Is1, Is2, Is3, Is4, Is5, Is6, Is7, Pv, Is8, Is9, Is10, Is11, Sm, Is12, Is13, Is14, Is15, Is16, Is17. -/
import Derived.Test.YtjccbeodlcjidaaGreatDoorIssueFullCardP3
import Derived.Test.YtjccbeodlcjidaaGreatDoorIssueFullCardP6
import Derived.Test.YtjccbeodlcjidaaGreatDoorIssueFullCardP5
set_option linter.all false
section
open Go Go.Sv Go.RowKit
namespace Go.Proofs.Tw
attribute [local irreducible] Wp FinQ resV Ent Pur Go.Sv.Fn Sat0
set_option maxRecDepth 100000
set_option maxHeartbeats 4000000
variable {G:Nat→Option (List Cell)}
theorem dropD {α:Type} (l:List α) (d:α) (k:Nat) (h:k<l.length):l.drop k=l.getD k d::l.drop (k+1):=by
 rw [List.drop_eq_getElem_cons h];simp [List.getD,h]
theorem live_len (now:Int) (l:List RcT):(liveT now l).length≤l.length:=List.length_filter_le _ _
theorem keepL (l:List RcT) (d:Int) (hl:l.length≤1000000000):FnB Tryz.prog G 86 [bxN d] [.c (rcS l),.c (clo1 109 (.ptr 0 0))] [.c (.row 15 1 0 (l.filter (liveP d)).length)] [(0,bxN d),(1,rcB (l.filter (liveP d)))]:=by
 refine zf Tryz.func86 ?_
 refine z0 [] [] ?_
 refine Wp.loopK kR (fun (x:Nat×Nat×List RcT)=>⟨[(0,.v (.c (rcS l))),(1,.v (.c (clo1 109 (.ptr 0 0)))),(5,.v (.c (.row 15 81 0 x.2.1))),(8,.v (.c (rcS l))),(9,.v (.c (.int .i64 (l.length:Int)))),(10,.v (.c (.int .i64 (x.1:Int))))],[(0,bxN d),(81,.row 37 15 x.2.1 (rowF encRc .nil x.2.2))],97⟩) (fun x=>x.1≤l.length∧x.2.1=x.2.2.length∧x.2.2.length≤x.1∧l.filter (liveP d)=x.2.2++(l.drop x.1).filter (liveP d)) (fun x=>l.length-x.1) (0,0,[]) (Ent.trans (Ent.empT (t:=5) (sz:=15) (e:=37) (f:=(rowF encRc .nil [])) dC kR rfl) (Ent.of [] kR kR kR trivial)) ⟨Nat.zero_le _,rfl,Nat.zero_le _,rfl⟩ ?_
 rintro ⟨k,n,acc⟩ L ⟨hk,hn,hm,hf⟩ again
 simp only at hk hn hm hf
 rcases Nat.lt_or_ge k l.length with hlt | hge
 ·rw [dropD l .nil k hlt,List.filter_cons] at hf
  have c:=live1_ok (G:=G) d (l.getD k .nil)
  cases hp:liveP d (l.getD k .nil) with
  | true =>
   rw [hp] at c
   rw [hp,if_pos rfl] at hf
   have hf2:l.filter (liveP d)=(acc++[l.getD k .nil])++(l.drop (k+1)).filter (liveP d):=by rw [hf];simp
   have e1:BlkEqv (.row 37 15 (n+1) (catF n (rowF encRc .nil acc) (fun i j=>nthD (encRc (l.getD k .nil)) ((0+i)*15+j)))) (.row 37 15 (n+1) (rowF encRc .nil (acc++[l.getD k .nil]))):=enc_app acc _ hn
   have q2:n+1=(acc++[l.getD k .nil]).length:=by simp [hn]
   clear hf hp
   generalize acc++[l.getD k .nil]=acc2 at e1 q2 hf2
   have hm2:acc2.length≤k+1:=by omega
   have hk2:k+1≤l.length:=by omega
   refine zg [(6,{bs:=[(3,.row 37 15 (n+1) (rowF encRc .nil acc2))]}),(5,{cs:=[(2,cb [0] c)]})] [true,true] [decide ((k:Int)<(l.length:Int))=true,(0:Int)≤(k:Int)∧(k:Int)<(l.length:Int),true=true,(n+1)*176≤140737488355328,BlkEqv (.row 37 15 (n+1) (catF n (fun i j=>nthD (encRc (acc.getD i .nil)) j) fun i j=>nthD (encRc (l.getD k .nil)) ((0+i)*15+j))) (.row 37 15 (n+1) (rowF encRc RcT.nil acc2)),n≤n,0+1≤1,inR .i64 ((k:Int)+1)] ⟨sO,oM,rfl,oM,aS,oM,oM,i6⟩ ?_
   exact za [(81,273)] (again _ (k+1,n+1,acc2) ⟨aS,⟨aS,⟨aS,aS⟩⟩⟩ oM)
  | false =>
   rw [hp] at c
   rw [hp,if_neg (by simp)] at hf
   clear hp
   refine zg [(5,{cs:=[(2,cb [0] c)]})] [true,false] [decide ((k:Int)<(l.length:Int))=true,(0:Int)≤(k:Int)∧(k:Int)<(l.length:Int),false=false,inR .i64 ((k:Int)+1)] ⟨sO,oM,rfl,i6⟩ ?_
   exact za [] (again _ (k+1,n,acc) ⟨aS,⟨aS,⟨sO,aS⟩⟩⟩ oM)
 ·rw [List.drop_of_length_le hge,List.filter_nil,List.append_nil] at hf
  rw [hf]
  subst hn
  refine zg [] [false] [decide ((k:Int)<(l.length:Int))=false] (oN sO) ?_
  exact zb [81]
theorem keepR (l:List RcT) (d:Int) (hl:l.length≤1000000000):FnB Tryz.prog G 86 [bxN d] [.c (rcS l),.c (clo1 88 (.ptr 0 0))] [.c (.row 15 1 0 (l.filter (roomP d)).length)] [(0,bxN d),(1,rcB (l.filter (roomP d)))]:=by
 refine zf Tryz.func86 ?_
 refine z0 [] [] ?_
 refine Wp.loopK kR (fun (x:Nat×Nat×List RcT)=>⟨[(0,.v (.c (rcS l))),(1,.v (.c (clo1 88 (.ptr 0 0)))),(5,.v (.c (.row 15 81 0 x.2.1))),(8,.v (.c (rcS l))),(9,.v (.c (.int .i64 (l.length:Int)))),(10,.v (.c (.int .i64 (x.1:Int))))],[(0,bxN d),(81,.row 37 15 x.2.1 (rowF encRc .nil x.2.2))],97⟩) (fun x=>x.1≤l.length∧x.2.1=x.2.2.length∧x.2.2.length≤x.1∧l.filter (roomP d)=x.2.2++(l.drop x.1).filter (roomP d)) (fun x=>l.length-x.1) (0,0,[]) (Ent.trans (Ent.empT (t:=5) (sz:=15) (e:=37) (f:=(rowF encRc .nil [])) dC kR rfl) (Ent.of [] kR kR kR trivial)) ⟨Nat.zero_le _,rfl,Nat.zero_le _,rfl⟩ ?_
 rintro ⟨k,n,acc⟩ L ⟨hk,hn,hm,hf⟩ again
 simp only at hk hn hm hf
 rcases Nat.lt_or_ge k l.length with hlt | hge
 ·rw [dropD l .nil k hlt,List.filter_cons] at hf
  have c:=room1_ok (G:=G) d (l.getD k .nil)
  cases hp:roomP d (l.getD k .nil) with
  | true =>
   rw [hp] at c
   rw [hp,if_pos rfl] at hf
   have hf2:l.filter (roomP d)=(acc++[l.getD k .nil])++(l.drop (k+1)).filter (roomP d):=by rw [hf];simp
   have e1:BlkEqv (.row 37 15 (n+1) (catF n (rowF encRc .nil acc) (fun i j=>nthD (encRc (l.getD k .nil)) ((0+i)*15+j)))) (.row 37 15 (n+1) (rowF encRc .nil (acc++[l.getD k .nil]))):=enc_app acc _ hn
   have q2:n+1=(acc++[l.getD k .nil]).length:=by simp [hn]
   clear hf hp
   generalize acc++[l.getD k .nil]=acc2 at e1 q2 hf2
   have hm2:acc2.length≤k+1:=by omega
   have hk2:k+1≤l.length:=by omega
   refine zg [(6,{bs:=[(3,.row 37 15 (n+1) (rowF encRc .nil acc2))]}),(5,{cs:=[(2,cb [0] c)]})] [true,true] [decide ((k:Int)<(l.length:Int))=true,(0:Int)≤(k:Int)∧(k:Int)<(l.length:Int),true=true,(n+1)*176≤140737488355328,BlkEqv (.row 37 15 (n+1) (catF n (fun i j=>nthD (encRc (acc.getD i .nil)) j) fun i j=>nthD (encRc (l.getD k .nil)) ((0+i)*15+j))) (.row 37 15 (n+1) (rowF encRc RcT.nil acc2)),n≤n,0+1≤1,inR .i64 ((k:Int)+1)] ⟨sO,oM,rfl,oM,aS,oM,oM,i6⟩ ?_
   exact za [(81,273)] (again _ (k+1,n+1,acc2) ⟨aS,⟨aS,⟨aS,aS⟩⟩⟩ oM)
  | false =>
   rw [hp] at c
   rw [hp,if_neg (by simp)] at hf
   clear hp
   refine zg [(5,{cs:=[(2,cb [0] c)]})] [true,false] [decide ((k:Int)<(l.length:Int))=true,(0:Int)≤(k:Int)∧(k:Int)<(l.length:Int),false=false,inR .i64 ((k:Int)+1)] ⟨sO,oM,rfl,i6⟩ ?_
   exact za [] (again _ (k+1,n,acc) ⟨aS,⟨aS,⟨sO,aS⟩⟩⟩ oM)
 ·rw [List.drop_of_length_le hge,List.filter_nil,List.append_nil] at hf
  rw [hf]
  subst hn
  refine zg [] [false] [decide ((k:Int)<(l.length:Int))=false] (oN sO) ?_
  exact zb [81]
theorem liveR_ok (l:List RcT) (now:Int) (hl:l.length≤1000000000):FnB Tryz.prog G 87 [] [.c (rcS l),.c (.int .i64 now)] [.c (.row 15 0 0 (liveT now l).length)] [(0,rcB (liveT now l))]:=by
 refine zf Tryz.func87 ?_
 have c:=keepL (G:=G) l now hl
 refine zg [(1,{cs:=[(2,cb [0] c)],fm:=[(1,.c (clo1 109 (.ptr 0 0)))]})] [] [EqvI (.c (cloRaw 109 [.c (.ptr 0 0)])) (.c (clo1 109 (.ptr 0 0))),EqvD (.c (cloRaw 109 [.c (.ptr 0 0)])) (.c (clo1 109 (.ptr 0 0)))] ⟨clo1_I _ _,clo1_D _ _⟩ ?_
 exact zb [64]
theorem live_ok (l:List RcT) (now:Int) (hl:l.length≤1000000000):Pur Tryz.prog G 87 [.c (rcS l),.c (.int .i64 now)] [.c (rcS (liveT now l))]:=by
 refine zp Tryz.func87 ?_
 have c:=keepL (G:=G) l now hl
 refine zg [(1,{cs:=[(2,cb [0] c)],fm:=[(1,.c (clo1 109 (.ptr 0 0)))]})] [] [EqvI (.c (cloRaw 109 [.c (.ptr 0 0)])) (.c (clo1 109 (.ptr 0 0))),EqvD (.c (cloRaw 109 [.c (.ptr 0 0)])) (.c (clo1 109 (.ptr 0 0)))] ⟨clo1_I _ _,clo1_D _ _⟩ ?_
 refine Wp.ent' kR (Ent.pubT (t:=4) (e:=37) (sz:=(15:Nat)) (id:=64) (off:=(0:Nat)) (m:=(List.filter (liveP now) l).length) (n:=(List.filter (liveP now) l).length) (f:=rowF encRc RcT.nil (List.filter (liveP now) l)) (m':=(liveT now l).length) (f':=rowF encRc RcT.nil (liveT now l)) kR kR oM rfl (fun i _ j _=>by rw [Nat.zero_add];rfl) rfl) ?_
 exact zr
def maxZ (x:Int):Int:=if 0>x then 0 else x
def roomK (l:List RcT) (now kind:Int):Int:=maxZ (mostT kind-(((liveT now l).filter (roomP kind)).length:Int))
theorem mostT_rng (k:Int):0≤mostT k∧mostT k≤12:=by
 unfold mostT
 cases (k==1)<;>cases (k==2)<;>cases (k==3)<;>cases (k==4)<;>cases (k==5)<;>cases (k==6)<;>simp
theorem room_ok (l:List RcT) (now kind:Int) (hl:l.length≤1000000000):Pur Tryz.prog G 72 [.c (rcS l),.c (.int .i64 now),.c (.int .i64 kind)] [.c (.int .i64 (roomK l now kind))]:=by
 refine zp Tryz.func72 ?_
 have c1:=live_ok (G:=G) l now hl
 have c2:=keepR (G:=G) (liveT now l) kind (Nat.le_trans (live_len now l) hl)
 have c3:=most_ok (G:=G) kind
 have hr:=mostT_rng kind
 have hlen:((liveT now l).filter (roomP kind)).length≤1000000000:=Nat.le_trans (List.length_filter_le _ _) (Nat.le_trans (live_len now l) hl)
 refine zg [(1,{cs:=[(2,pc c1),(4,cb [0] c2)],fm:=[(3,.c (clo1 88 (.ptr 0 0)))]}),(2,{cs:=[(1,pc c3)]})] [] [EqvI (.c (cloRaw 88 [.c (.ptr 0 0)])) (.c (clo1 88 (.ptr 0 0))),EqvD (.c (cloRaw 88 [.c (.ptr 0 0)])) (.c (clo1 88 (.ptr 0 0))),inR .i64 (mostT kind-(↑(List.filter (roomP kind) (liveT now l)).length:Int))] ⟨clo1_I _ _,clo1_D _ _,i6⟩ ?_
 exact zr
theorem live19R_ok (l:List RcT) (now:Int) (hl:l.length≤1000000000):FnB Tryz.prog G 32 [] [.c (rcS l),.c (.int .i64 now)] [.c (.row 15 0 0 (liveT now l).length)] [(0,rcB (liveT now l))]:=by
 refine zf Tryz.func32 ?_
 refine z0 [] [] ?_
 refine Wp.loopK kR (fun (x:Nat×Nat×List RcT)=>⟨[(0,.v (.c (rcS l))),(1,.v (.c (.int .i64 now))),(5,.v (.c (.row 15 48 0 x.2.1))),(6,.v (.c (.int .i64 (x.1:Int))))],[(48,.row 37 15 x.2.1 (rowF encRc .nil x.2.2))],64⟩) (fun x=>x.1≤l.length∧x.2.1=x.2.2.length∧x.2.2.length≤x.1∧liveT now l=x.2.2++(l.drop x.1).filter (liveP now)) (fun x=>l.length-x.1) (0,0,[]) (Ent.trans (Ent.empT (t:=5) (sz:=15) (e:=37) (f:=(rowF encRc .nil [])) dC kR rfl) (Ent.of [] kR kR kR trivial)) ⟨Nat.zero_le _,rfl,Nat.zero_le _,rfl⟩ ?_
 rintro ⟨k,n,acc⟩ L ⟨hk,hn,hm,hf⟩ again
 simp only at hk hn hm hf
 rcases Nat.lt_or_ge k l.length with hlt | hge
 ·rw [dropD l .nil k hlt,List.filter_cons] at hf
  have c:=live5_ok (G:=G) now (l.getD k .nil).til
  cases hp:decide (now<(l.getD k .nil).til) with
  | true =>
   rw [hp] at c
   rw [show liveP now (l.getD k .nil)=true from hp,if_pos rfl] at hf
   have hf2:liveT now l=(acc++[l.getD k .nil])++(l.drop (k+1)).filter (liveP now):=by rw [hf];simp
   have e1:BlkEqv (.row 37 15 (n+1) (catF n (rowF encRc .nil acc) (fun i j=>nthD (encRc (l.getD k .nil)) ((0+i)*15+j)))) (.row 37 15 (n+1) (rowF encRc .nil (acc++[l.getD k .nil]))):=enc_app acc _ hn
   have q2:n+1=(acc++[l.getD k .nil]).length:=by simp [hn]
   clear hf hp
   generalize acc++[l.getD k .nil]=acc2 at e1 q2 hf2
   have hm2:acc2.length≤k+1:=by omega
   have hk2:k+1≤l.length:=by omega
   refine zg [(6,{bs:=[(6,.row 37 15 (n+1) (rowF encRc .nil acc2))]}),(5,{cs:=[(6,pc c)]})] [true,true] [decide ((k:Int)<(l.length:Int))=true,(0:Int)≤(k:Int)∧(k:Int)<(l.length:Int),true=true,(0:Int)≤(k:Int)∧(k:Int)<(l.length:Int),(n+1)*176≤140737488355328,BlkEqv (.row 37 15 (n+1) (catF n (fun i j=>nthD (encRc (acc.getD i .nil)) j) fun i j=>nthD (encRc (l.getD k .nil)) ((0+i)*15+j))) (.row 37 15 (n+1) (rowF encRc RcT.nil acc2)),n≤n,0+1≤1,inR .i64 ((k:Int)+1)] ⟨sO,oM,rfl,oM,oM,aS,oM,oM,i6⟩ ?_
   exact za [(48,336)] (again _ (k+1,n+1,acc2) ⟨aS,⟨aS,⟨aS,aS⟩⟩⟩ oM)
  | false =>
   rw [hp] at c
   rw [show liveP now (l.getD k .nil)=false from hp,if_neg (by simp)] at hf
   clear hp
   refine zg [(5,{cs:=[(6,pc c)]})] [true,false] [decide ((k:Int)<(l.length:Int))=true,(0:Int)≤(k:Int)∧(k:Int)<(l.length:Int),false=false,inR .i64 ((k:Int)+1)] ⟨sO,oM,rfl,i6⟩ ?_
   exact za [] (again _ (k+1,n,acc) ⟨aS,⟨aS,⟨sO,aS⟩⟩⟩ oM)
 ·rw [List.drop_of_length_le hge,List.filter_nil,List.append_nil] at hf
  rw [hf]
  subst hn
  refine zg [] [false] [decide ((k:Int)<(l.length:Int))=false] (oN sO) ?_
  exact zb [48]
theorem live19_ok (l:List RcT) (now:Int) (hl:l.length≤1000000000):Pur Tryz.prog G 32 [.c (rcS l),.c (.int .i64 now)] [.c (rcS (liveT now l))]:=by
 refine zp Tryz.func32 ?_
 refine z0 [] [] ?_
 refine Wp.loopK kR (fun (x:Nat×Nat×List RcT)=>⟨[(0,.v (.c (rcS l))),(1,.v (.c (.int .i64 now))),(5,.v (.c (.row 15 48 0 x.2.1))),(6,.v (.c (.int .i64 (x.1:Int))))],[(48,.row 37 15 x.2.1 (rowF encRc .nil x.2.2))],64⟩) (fun x=>x.1≤l.length∧x.2.1=x.2.2.length∧x.2.2.length≤x.1∧liveT now l=x.2.2++(l.drop x.1).filter (liveP now)) (fun x=>l.length-x.1) (0,0,[]) (Ent.trans (Ent.empT (t:=5) (sz:=15) (e:=37) (f:=(rowF encRc .nil [])) dC kR rfl) (Ent.of [] kR kR kR trivial)) ⟨Nat.zero_le _,rfl,Nat.zero_le _,rfl⟩ ?_
 rintro ⟨k,n,acc⟩ L ⟨hk,hn,hm,hf⟩ again
 simp only at hk hn hm hf
 rcases Nat.lt_or_ge k l.length with hlt | hge
 ·rw [dropD l .nil k hlt,List.filter_cons] at hf
  have c:=live5_ok (G:=G) now (l.getD k .nil).til
  cases hp:decide (now<(l.getD k .nil).til) with
  | true =>
   rw [hp] at c
   rw [show liveP now (l.getD k .nil)=true from hp,if_pos rfl] at hf
   have hf2:liveT now l=(acc++[l.getD k .nil])++(l.drop (k+1)).filter (liveP now):=by rw [hf];simp
   have e1:BlkEqv (.row 37 15 (n+1) (catF n (rowF encRc .nil acc) (fun i j=>nthD (encRc (l.getD k .nil)) ((0+i)*15+j)))) (.row 37 15 (n+1) (rowF encRc .nil (acc++[l.getD k .nil]))):=enc_app acc _ hn
   have q2:n+1=(acc++[l.getD k .nil]).length:=by simp [hn]
   clear hf hp
   generalize acc++[l.getD k .nil]=acc2 at e1 q2 hf2
   have hm2:acc2.length≤k+1:=by omega
   have hk2:k+1≤l.length:=by omega
   refine zg [(6,{bs:=[(6,.row 37 15 (n+1) (rowF encRc .nil acc2))]}),(5,{cs:=[(6,pc c)]})] [true,true] [decide ((k:Int)<(l.length:Int))=true,(0:Int)≤(k:Int)∧(k:Int)<(l.length:Int),true=true,(0:Int)≤(k:Int)∧(k:Int)<(l.length:Int),(n+1)*176≤140737488355328,BlkEqv (.row 37 15 (n+1) (catF n (fun i j=>nthD (encRc (acc.getD i .nil)) j) fun i j=>nthD (encRc (l.getD k .nil)) ((0+i)*15+j))) (.row 37 15 (n+1) (rowF encRc RcT.nil acc2)),n≤n,0+1≤1,inR .i64 ((k:Int)+1)] ⟨sO,oM,rfl,oM,oM,aS,oM,oM,i6⟩ ?_
   exact za [(48,336)] (again _ (k+1,n+1,acc2) ⟨aS,⟨aS,⟨aS,aS⟩⟩⟩ oM)
  | false =>
   rw [hp] at c
   rw [show liveP now (l.getD k .nil)=false from hp,if_neg (by simp)] at hf
   clear hp
   refine zg [(5,{cs:=[(6,pc c)]})] [true,false] [decide ((k:Int)<(l.length:Int))=true,(0:Int)≤(k:Int)∧(k:Int)<(l.length:Int),false=false,inR .i64 ((k:Int)+1)] ⟨sO,oM,rfl,i6⟩ ?_
   exact za [] (again _ (k+1,n,acc) ⟨aS,⟨aS,⟨sO,aS⟩⟩⟩ oM)
 ·rw [List.drop_of_length_le hge,List.filter_nil,List.append_nil] at hf
  rw [hf]
  subst hn
  refine zg [] [false] [decide ((k:Int)<(l.length:Int))=false] (oN sO) ?_
  refine Wp.ent' kR (Ent.pubT (t:=4) (e:=37) (sz:=(15:Nat)) (id:=48) (off:=(0:Nat)) (m:=acc.length) (n:=acc.length) (f:=fun (i j:Nat)=>nthD [Cell.int .i64 (acc.getD i RcT.nil).kind,Cell.int .i64 (acc.getD i RcT.nil).key,Cell.int .i64 (acc.getD i RcT.nil).til,Cell.bool (acc.getD i RcT.nil).used,Cell.int .i64 (acc.getD i RcT.nil).client,Cell.int .i64 (acc.getD i RcT.nil).user,Cell.int .i64 (acc.getD i RcT.nil).sess,Cell.int .i64 (acc.getD i RcT.nil).fam,Cell.str (acc.getD i RcT.nil).w.ty,Cell.str (acc.getD i RcT.nil).w.redir,Cell.str (acc.getD i RcT.nil).w.scope,Cell.str (acc.getD i RcT.nil).w.state,Cell.str (acc.getD i RcT.nil).w.nonce,Cell.str (acc.getD i RcT.nil).w.chal,Cell.str (acc.getD i RcT.nil).w.meth] j) (m':=acc.length) (f':=rowF encRc RcT.nil acc) kR kR oM rfl (fun i _ j _=>by rw [Nat.zero_add];rfl) rfl) ?_
  exact zr
theorem take_suc {α:Type} (l:List α) (d:α) (k:Nat) (h:k<l.length):l.take (k+1)=l.take k++[l.getD k d]:=by
 rw [List.take_succ];simp [List.getD,h]
theorem most19A_ok (k:Int):Pur Tryz.prog G 61 [.c (.int .i64 k)] [.c (.int .i64 (mostT k))]:=by
 refine zp Tryz.func61 ?_
 by_cases h:1≤k∧k≤6
 ·have:k=1∨k=2∨k=3∨k=4∨k=5∨k=6:=by omega
  rcases this with rfl | rfl | rfl | rfl | rfl | rfl
  ·refine zg [] [false] [(bif decide ((1:Int)<(1:Int)) then true else decide ((1:Int)>(6:Int)))=false,inR .i64 (1-1),(0:Int)≤(1:Int)-(1:Int)∧(1:Int)-(1:Int)<(↑(6:Nat):Int),0<6] ⟨rfl,i6,oM,(show (0:Nat)<(6:Nat) from oM)⟩ ?_
   exact zr
  ·refine zg [] [false] [(bif decide ((2:Int)<(1:Int)) then true else decide ((2:Int)>(6:Int)))=false,inR .i64 (2-1),(0:Int)≤(2:Int)-(1:Int)∧(2:Int)-(1:Int)<(↑(6:Nat):Int),1<6] ⟨rfl,i6,oM,(show (1:Nat)<(6:Nat) from oM)⟩ ?_
   exact zr
  ·refine zg [] [false] [(bif decide ((3:Int)<(1:Int)) then true else decide ((3:Int)>(6:Int)))=false,inR .i64 (3-1),(0:Int)≤(3:Int)-(1:Int)∧(3:Int)-(1:Int)<(↑(6:Nat):Int),2<6] ⟨rfl,i6,oM,(show (2:Nat)<(6:Nat) from oM)⟩ ?_
   exact zr
  ·refine zg [] [false] [(bif decide ((4:Int)<(1:Int)) then true else decide ((4:Int)>(6:Int)))=false,inR .i64 (4-1),(0:Int)≤(4:Int)-(1:Int)∧(4:Int)-(1:Int)<(↑(6:Nat):Int),3<6] ⟨rfl,i6,oM,(show (3:Nat)<(6:Nat) from oM)⟩ ?_
   exact zr
  ·refine zg [] [false] [(bif decide ((5:Int)<(1:Int)) then true else decide ((5:Int)>(6:Int)))=false,inR .i64 (5-1),(0:Int)≤(5:Int)-(1:Int)∧(5:Int)-(1:Int)<(↑(6:Nat):Int),4<6] ⟨rfl,i6,oM,(show (4:Nat)<(6:Nat) from oM)⟩ ?_
   exact zr
  ·refine zg [] [false] [(bif decide ((6:Int)<(1:Int)) then true else decide ((6:Int)>(6:Int)))=false,inR .i64 (6-1),(0:Int)≤(6:Int)-(1:Int)∧(6:Int)-(1:Int)<(↑(6:Nat):Int),5<6] ⟨rfl,i6,oM,(show (5:Nat)<(6:Nat) from oM)⟩ ?_
   exact zr
 ·have hm:mostT k=0:=by
   unfold mostT
   rw [show (k==1)=false by simp;omega,show (k==2)=false by simp;omega,show (k==3)=false by simp;omega,show (k==4)=false by simp;omega,show (k==5)=false by simp;omega,show (k==6)=false by simp;omega]
   rfl
  have ht:(bif decide (k<1) then true else decide (k>6))=true:=by simp;omega
  rw [hm]
  refine zg [] [true] [(bif decide (k<(1:Int)) then true else decide (k>(6:Int)))=true] (oN aS) ?_
  exact zr
theorem life19A_ok (k:Int):Pur Tryz.prog G 39 [.c (.int .i64 k)] [.c (.int .i64 (lifeT k))]:=by
 refine zp Tryz.func39 ?_
 by_cases h:1≤k∧k≤6
 ·have:k=1∨k=2∨k=3∨k=4∨k=5∨k=6:=by omega
  rcases this with rfl | rfl | rfl | rfl | rfl | rfl
  ·refine zg [] [false] [(bif decide ((1:Int)<(1:Int)) then true else decide ((1:Int)>(6:Int)))=false,inR .i64 (1-1),(0:Int)≤(1:Int)-(1:Int)∧(1:Int)-(1:Int)<(↑(6:Nat):Int),0<6] ⟨rfl,i6,oM,(show (0:Nat)<(6:Nat) from oM)⟩ ?_
   exact zr
  ·refine zg [] [false] [(bif decide ((2:Int)<(1:Int)) then true else decide ((2:Int)>(6:Int)))=false,inR .i64 (2-1),(0:Int)≤(2:Int)-(1:Int)∧(2:Int)-(1:Int)<(↑(6:Nat):Int),1<6] ⟨rfl,i6,oM,(show (1:Nat)<(6:Nat) from oM)⟩ ?_
   exact zr
  ·refine zg [] [false] [(bif decide ((3:Int)<(1:Int)) then true else decide ((3:Int)>(6:Int)))=false,inR .i64 (3-1),(0:Int)≤(3:Int)-(1:Int)∧(3:Int)-(1:Int)<(↑(6:Nat):Int),2<6] ⟨rfl,i6,oM,(show (2:Nat)<(6:Nat) from oM)⟩ ?_
   exact zr
  ·refine zg [] [false] [(bif decide ((4:Int)<(1:Int)) then true else decide ((4:Int)>(6:Int)))=false,inR .i64 (4-1),(0:Int)≤(4:Int)-(1:Int)∧(4:Int)-(1:Int)<(↑(6:Nat):Int),3<6] ⟨rfl,i6,oM,(show (3:Nat)<(6:Nat) from oM)⟩ ?_
   exact zr
  ·refine zg [] [false] [(bif decide ((5:Int)<(1:Int)) then true else decide ((5:Int)>(6:Int)))=false,inR .i64 (5-1),(0:Int)≤(5:Int)-(1:Int)∧(5:Int)-(1:Int)<(↑(6:Nat):Int),4<6] ⟨rfl,i6,oM,(show (4:Nat)<(6:Nat) from oM)⟩ ?_
   exact zr
  ·refine zg [] [false] [(bif decide ((6:Int)<(1:Int)) then true else decide ((6:Int)>(6:Int)))=false,inR .i64 (6-1),(0:Int)≤(6:Int)-(1:Int)∧(6:Int)-(1:Int)<(↑(6:Nat):Int),5<6] ⟨rfl,i6,oM,(show (5:Nat)<(6:Nat) from oM)⟩ ?_
   exact zr
 ·have hm:lifeT k=0:=by
   unfold lifeT
   rw [show (k==1)=false by simp;omega,show (k==2)=false by simp;omega,show (k==3)=false by simp;omega,show (k==4)=false by simp;omega,show (k==5)=false by simp;omega,show (k==6)=false by simp;omega]
   rfl
  have ht:(bif decide (k<1) then true else decide (k>6))=true:=by simp;omega
  rw [hm]
  refine zg [] [true] [(bif decide (k<(1:Int)) then true else decide (k>(6:Int)))=true] (oN aS) ?_
  exact zr
theorem room19_ok (l:List RcT) (now q:Int) (hl:l.length≤1000000000):Pur Tryz.prog G 36 [.c (rcS l),.c (.int .i64 now),.c (.int .i64 q)] [.c (.int .i64 (roomK l now q))]:=by
 refine zp Tryz.func36 ?_
 have c1:=live19_ok (G:=G) l now hl
 have c3:=most19A_ok (G:=G) q
 have hr:=mostT_rng q
 have hlen:=Nat.le_trans (live_len now l) hl
 unfold roomK maxZ
 generalize liveT now l=v at c1 hlen ⊢
 generalize mostT q=m at c3 hr ⊢
 refine z0 [(1,{cs:=[(1,pc c3)]}),(2,{cs:=[(2,pc c1)]})] [] ?_
 refine zl (fun (x:Nat×Int)=>⟨[(2,.v (.c (.int .i64 q))),(7,.v (.c (.int .i64 x.2))),(8,.v (.c (rcS v))),(9,.v (.c (.int .i64 (x.1:Int))))],[],96⟩) (fun x=>x.1≤v.length∧x.2=m-(((v.take x.1).filter (roomP q)).length:Int)∧m-(x.1:Int)≤x.2∧x.2≤m) (fun x=>v.length-x.1) (0,m) ⟨Nat.zero_le _,by simp,by simp,by simp⟩ ?_
 rintro ⟨k,z⟩ L ⟨hk,hz,h1,h2⟩ again
 simp only at hk hz h1 h2
 rcases Nat.lt_or_ge k v.length with hlt | hge
 ·have ht:=take_suc v .nil k hlt
  cases hp:((v.getD k .nil).kind==q) with
  | true =>
   have hq:z-1=m-(((v.take (k+1)).filter (roomP q)).length:Int):=by
    rw [ht,List.filter_append,List.length_append,hz]
    rw [show [v.getD k .nil].filter (roomP q)=[v.getD k .nil] from by rw [List.filter_cons,show roomP q (v.getD k .nil)=true from hp];rfl]
    simp only [List.length_cons,List.length_nil]
    omega
   refine zg [] [true,true] [decide ((k:Int)<(v.length:Int))=true,(0:Int)≤(k:Int)∧(k:Int)<(v.length:Int),((v.getD k .nil).kind==q)=true,inR .i64 (z-1),inR .i64 ((k:Int)+1)] ⟨sO,oM,aS,i6,i6⟩ ?_
   exact za [] (again _ (k+1,z-1) ⟨aS,⟨aS,oM⟩⟩ oM)
  | false =>
   have hq:z=m-(((v.take (k+1)).filter (roomP q)).length:Int):=by
    rw [ht,List.filter_append,List.length_append,hz]
    rw [show [v.getD k .nil].filter (roomP q)=[] from by rw [List.filter_cons,show roomP q (v.getD k .nil)=false from hp];rfl]
    simp only [List.length_nil]
    omega
   refine zg [] [true,false] [decide ((k:Int)<(v.length:Int))=true,(0:Int)≤(k:Int)∧(k:Int)<(v.length:Int),((v.getD k .nil).kind==q)=false,inR .i64 ((k:Int)+1)] ⟨sO,oM,aS,i6⟩ ?_
   exact za [] (again _ (k+1,z) ⟨aS,⟨aS,oM⟩⟩ oM)
 ·rw [List.take_of_length_le hge] at hz
  rw [← hz]
  refine zg [] [false] [decide ((k:Int)<(v.length:Int))=false] (oN sO) ?_
  exact zr
end Go.Proofs.Tw
end
section
namespace Go.Sv
theorem emp_D {sz:Nat} {f:Nat→Nat→Cell}:EqvD (.c .emp) (.c (.sl sz 0 f)):=fun D ρ u ⟨b,o,cap,h,hc⟩ =>
 ⟨some ⟨b,o,none⟩,cap,h,Nat.zero_le _,hc,.inr ⟨b,o,rfl,fun i hi=>(Nat.not_lt_zero _ hi).elim⟩⟩
section
variable {P:Program} {G:Nat→Option (List Cell)} {N kn:Nat} {k:List KI} {Q:St→Prop} {st st':St}
theorem Wp.nil0 (t sz:Nat) (f:Nat→Nat→Cell) (h:isCode k=true) (hl:look st.tm t=some (.v (.c (.sl sz 0 f)))) (h1:Wp P G N kn k Q (st.set (.tm t) (.tv (.v (.c .nilsl))))) (h2:Wp P G N kn k Q (st.set (.tm t) (.tv (.v (.c .emp))))):Wp P G N kn k Q st:=by
 unfold isCode at h
 split at h
 ·rename_i c k
  intro Γ g1 g2 g3 g4 a w hs
  obtain ⟨D,ρ,hs⟩:=hs
  obtain ⟨u,hu,b,cap,hd,_,hc,hor⟩:=hs.tm t _ hl
  have key:∀ x:Cell,Den D ρ x u→x.flat=true→Sat0 Γ (st.set (.tm t) (.tv (.v (.c x)))) a w:=by
   intro x hx hfl
   refine ⟨D,ρ,{ hs with tm := ?_,idT := ?_ }⟩
   ·intro i v hv
    have hv:look (put st.tm t (.v (.c x))) i=some v:=hv
    rw [look_put] at hv
    split at hv
    ·rename_i e
     simp only [Option.some.injEq] at hv
     subst hv e
     exact ⟨u,hu,hx⟩
    ·exact hs.tm i v hv
   ·intro i v hv
    have hv:look (put st.tm t (.v (.c x))) i=some v:=hv
    rw [look_put] at hv
    split at hv
    ·simp only [Option.some.injEq] at hv
     subst hv
     exact Cell.inS_flat hfl
    ·exact hs.idT i v hv
  rcases hor with ⟨rfl,rfl⟩ | ⟨b1,o,rfl,_⟩
  ·exact h1 Γ g1 g2 g3 g4 a w (key .nilsl hd rfl)
  ·exact h2 Γ g1 g2 g3 g4 a w (key .emp ⟨b1,o,cap,hd,hc⟩ rfl)
 ·cases h
end
end Go.Sv
end
section
open Go Go.Sv Go.RowKit
namespace Go.Proofs.Tw
attribute [local irreducible] Wp FinQ resV Ent Pur Go.Sv.Fn Sat0
set_option maxRecDepth 100000
set_option maxHeartbeats 4000000
variable {G:Nat→Option (List Cell)}
theorem ownC_ok (l:List ClT) (hl:l.length≤1000000000):FnB Tryz.prog G 67 [] [.c (clS l)] [.c (.row 4 0 0 l.length)] [(0,.row 56 4 l.length (rowF encCl .nil l))]:=by
 refine zf Tryz.func67 ?_
 have e1:BlkEqv (.row 56 4 l.length (cpyF 0 l.length (fun _ j=>nthD [.str [],.int .i64 0,.nilsl,.str []] j) (fun i j=>nthD (encCl (l.getD i .nil)) j))) (.row 56 4 l.length (rowF encCl .nil l)):=by
  refine BlkEqv.row_ext rfl fun i hi j hj => ?_
  unfold cpyF
  rw [if_neg oM,if_pos oM,Nat.sub_zero]
  rfl
 refine zg [(2,{bs:=[(2,.row 56 4 l.length (rowF encCl .nil l))]})] [] [(0:Int)≤(l.length:Int),(l.length:Int)≤(l.length:Int),(l.length:Int)*(↑(64:Nat):Int)≤(140737488355328:Int),l.length≤l.length,0+l.length≤l.length,BlkEqv (.row 56 4 l.length fun i j=>if i<0 then nthD [.str [],.int .i64 0,.nilsl,.str []] j else if i<0+l.length then rowF encCl ClT.nil l (i-0) j else nthD [.str [],.int .i64 0,.nilsl,.str []] j) (.row 56 4 l.length (rowF encCl ClT.nil l))] ⟨oM,oM,oM,oM,oM,(show BlkEqv (.row 56 (4:Nat) l.length fun i j=>if i<(0:Nat) then nthD [.str [],.int .i64 (0:Int),.nilsl,.str []] j else if i<(0:Nat)+l.length then rowF encCl ClT.nil l (i-(0:Nat)) j else nthD [.str [],.int .i64 (0:Int),.nilsl,.str []] j) (.row 56 (4:Nat) l.length (rowF encCl ClT.nil l)) from aS)⟩ ?_
 exact zb [48]
theorem ownU_ok (l:List UsT) (hl:l.length≤1000000000):FnB Tryz.prog G 68 [] [.c (usS l)] [.c (.row 2 0 0 l.length)] [(0,.row 70 2 l.length (rowF encUs .nil l))]:=by
 refine zf Tryz.func68 ?_
 have e1:BlkEqv (.row 70 2 l.length (cpyF 0 l.length (fun _ j=>nthD [.str [],.int .i64 0] j) (fun i j=>nthD (encUs (l.getD i .nil)) j))) (.row 70 2 l.length (rowF encUs .nil l)):=by
  refine BlkEqv.row_ext rfl fun i hi j hj => ?_
  unfold cpyF
  rw [if_neg oM,if_pos oM,Nat.sub_zero]
  rfl
 refine zg [(2,{bs:=[(2,.row 70 2 l.length (rowF encUs .nil l))]})] [] [(0:Int)≤(l.length:Int),(l.length:Int)≤(l.length:Int),(l.length:Int)*(↑(24:Nat):Int)≤(140737488355328:Int),l.length≤l.length,0+l.length≤l.length,BlkEqv (.row 70 2 l.length fun i j=>if i<0 then nthD [.str [],.int .i64 0] j else if i<0+l.length then rowF encUs UsT.nil l (i-0) j else nthD [.str [],.int .i64 0] j) (.row 70 2 l.length (rowF encUs UsT.nil l))] ⟨oM,oM,oM,oM,oM,(show BlkEqv (.row 70 (2:Nat) l.length fun i j=>if i<(0:Nat) then nthD [.str [],.int .i64 (0:Int)] j else if i<(0:Nat)+l.length then rowF encUs UsT.nil l (i-(0:Nat)) j else nthD [.str [],.int .i64 (0:Int)] j) (.row 70 (2:Nat) l.length (rowF encUs UsT.nil l)) from aS)⟩ ?_
 exact zb [48]
theorem ownR_ok (l:List RcT) (hl:l.length≤1000000000):FnB Tryz.prog G 69 [] [.c (rcS l)] [.c (.row 15 0 0 l.length)] [(0,.row 37 15 l.length (rowF encRc .nil l))]:=by
 refine zf Tryz.func69 ?_
 have e1:BlkEqv (.row 37 15 l.length (cpyF 0 l.length (fun _ j=>nthD [.int .i64 0,.int .i64 0,.int .i64 0,.bool false,.int .i64 0,.int .i64 0,.int .i64 0,.int .i64 0,.str [],.str [],.str [],.str [],.str [],.str [],.str []] j) (fun i j=>nthD (encRc (l.getD i .nil)) j))) (.row 37 15 l.length (rowF encRc .nil l)):=by
  refine BlkEqv.row_ext rfl fun i hi j hj => ?_
  unfold cpyF
  rw [if_neg oM,if_pos oM,Nat.sub_zero]
  rfl
 refine zg [(2,{bs:=[(2,.row 37 15 l.length (rowF encRc .nil l))]})] [] [(0:Int)≤(l.length:Int),(l.length:Int)≤(l.length:Int),(l.length:Int)*(↑(176:Nat):Int)≤(140737488355328:Int),l.length≤l.length,0+l.length≤l.length,BlkEqv (.row 37 15 l.length fun i j=>if i<0 then nthD [.int .i64 0,.int .i64 0,.int .i64 0,.bool false,.int .i64 0,.int .i64 0,.int .i64 0,.int .i64 0,.str [],.str [],.str [],.str [],.str [],.str [],.str []] j else if i<0+l.length then rowF encRc RcT.nil l (i-0) j else nthD [.int .i64 0,.int .i64 0,.int .i64 0,.bool false,.int .i64 0,.int .i64 0,.int .i64 0,.int .i64 0,.str [],.str [],.str [],.str [],.str [],.str [],.str []] j) (.row 37 15 l.length (rowF encRc RcT.nil l))] ⟨oM,oM,oM,oM,oM,(show BlkEqv (.row 37 (15:Nat) l.length fun i j=>if i<(0:Nat) then nthD [.int .i64 (0:Int),.int .i64 (0:Int),.int .i64 (0:Int),.bool false,.int .i64 (0:Int),.int .i64 (0:Int),.int .i64 (0:Int),.int .i64 (0:Int),.str [],.str [],.str [],.str [],.str [],.str [],.str []] j else if i<(0:Nat)+l.length then rowF encRc RcT.nil l (i-(0:Nat)) j else nthD [.int .i64 (0:Int),.int .i64 (0:Int),.int .i64 (0:Int),.bool false,.int .i64 (0:Int),.int .i64 (0:Int),.int .i64 (0:Int),.int .i64 (0:Int),.str [],.str [],.str [],.str [],.str [],.str [],.str []] j) (.row 37 (15:Nat) l.length (rowF encRc RcT.nil l)) from aS)⟩ ?_
 exact zb [48]
theorem ownS_ok (l:List (List UInt8)) (hl:l.length≤1000000000):Pur Tryz.prog G 85 [.c (.sl 1 l.length (strsF l))] [.c (.sl 1 l.length (strsF l))]:=by
 refine zp Tryz.func85 ?_
 have e1:BlkEqv (.row 9 1 l.length (cpyF 0 l.length (fun _ j=>nthD [.str []] j) (strsF l))) (.row 9 1 l.length (strsF l)):=by
  refine BlkEqv.row_ext rfl fun i hi j hj => ?_
  unfold cpyF
  rw [if_neg oM,if_pos oM,Nat.sub_zero]
 refine zg [(2,{bs:=[(2,.row 9 1 l.length (strsF l))]})] [] [(0:Int)≤(l.length:Int),(l.length:Int)≤(l.length:Int),(l.length:Int)*(↑(16:Nat):Int)≤(140737488355328:Int),l.length≤l.length,0+l.length≤l.length,BlkEqv (.row 9 1 l.length fun i j=>if i<0 then nthD [.str []] j else if i<0+l.length then strsF l (i-0) j else nthD [.str []] j) (.row 9 1 l.length (strsF l))] ⟨oM,oM,oM,oM,oM,(show BlkEqv (.row 9 (1:Nat) l.length fun i j=>if i<(0:Nat) then nthD [.str []] j else if i<(0:Nat)+l.length then strsF l (i-(0:Nat)) j else nthD [.str []] j) (.row 9 (1:Nat) l.length (strsF l)) from aS)⟩ ?_
 refine Wp.ent' kR (Ent.pubT (t:=2) (e:=9) (sz:=(1:Nat)) (id:=48) (off:=(0:Nat)) (m:=l.length) (n:=l.length) (f:=strsF l) (m':=l.length) (f':=strsF l) kR kR oM rfl (fun i _ j _=>by rw [Nat.zero_add]) rfl) ?_
 exact zr
theorem ownTx_ok (l:List (List UInt8)) (hl:l.length≤1000000000):Pur Tryz.prog G 70 [.c (.sl 1 l.length (strsF l))] [.c (.sl 1 l.length (strsF l))]:=by
 refine zp Tryz.func70 ?_
 have c:=ownS_ok (G:=G) l hl
 refine z0 [(1,{cs:=[(1,pc c)]})] [] ?_
 exact zr
structure FitS (s:StT):Prop where
 cls:s.cls.length≤1000000
 usr:s.usr.length≤1000000
 recs:s.recs.length≤1000000
 cl:∀ k,FitC (s.cls.getD k .nil)
theorem ownState_ok (s:StT) (hs:FitS s):Pur Tryz.prog G 52 [.agg (encSt s)] [.agg (encSt s)]:=by
 refine zp Tryz.func52 ?_
 have hc1:=hs.cls
 have c1:=ownC_ok (G:=G) s.cls (by have:=hs.cls;omega)
 have c2:=ownU_ok (G:=G) s.usr (by have:=hs.usr;omega)
 have c3:=ownR_ok (G:=G) s.recs (by have:=hs.recs;omega)
 refine z0 [(1,{cs:=[(2,cb [] c1),(5,cb [] c2),(8,cb [] c3)]})] [] ?_
 refine zl (fun (k:Nat)=>⟨[(1,.v (.c (.ptr 0 0))),(2,.v (.c (.ptr 16 0))),(18,.v (.c (.row 4 64 0 s.cls.length))),(19,.v (.c (.int .i64 (s.cls.length:Int)))),(20,.v (.c (.int .i64 (k:Int))))],[(0,.box 28 [.str s.name,.int .i64 s.key,.row 4 64 0 s.cls.length,.row 2 112 0 s.usr.length,.row 15 160 0 s.recs.length]),(16,.box 28 [.str [],.int .i64 0,.nilsl,.nilsl,.nilsl]),(64,.row 56 4 s.cls.length (rowF encCl ClT.nil s.cls)),(112,.row 70 2 s.usr.length (rowF encUs UsT.nil s.usr)),(160,.row 37 15 s.recs.length (rowF encRc RcT.nil s.recs))],336⟩) (fun k=>k≤s.cls.length) (fun k=>s.cls.length-k) 0 (Nat.zero_le _) ?_
 intro k L hk again
 rcases Nat.lt_or_ge k s.cls.length with hlt | hge
 ·have c4:=ownTx_ok (G:=G) (s.cls.getD (0+k) .nil).reds (by have:=(hs.cl (0+k)).reds;omega)
  have e1:BlkEqv (.row 56 4 s.cls.length (fun i j=>if i=0+k∧2≤j∧j<3 then nthD [.sl 1 (s.cls.getD (0+k) .nil).reds.length (strsF (s.cls.getD (0+k) .nil).reds)] (j-2) else rowF encCl .nil s.cls i j)) (.row 56 4 s.cls.length (rowF encCl .nil s.cls)):=BlkEqv.row_ext rfl fun i hi j hj=>by
   split
   ·rename_i h
    obtain ⟨rfl,h2,h3⟩:=h
    obtain rfl:j=2:=by omega
    rfl
   ·rfl
  refine zg [(5,{cs:=[(5,pc c4)],bs:=[(8,.row 56 4 s.cls.length (rowF encCl ClT.nil s.cls))]})] [true] [decide ((k:Int)<(s.cls.length:Int))=true,(0:Int)≤(k:Int)∧(k:Int)<(s.cls.length:Int),0+k<s.cls.length,(0:Int)≤(k:Int)∧(k:Int)<(s.cls.length:Int),BlkEqv (.row 56 4 s.cls.length fun i j=>if i=0+k∧0+2≤j∧j<3 then nthD [.sl 1 (s.cls.getD (0+k) ClT.nil).reds.length (strsF (s.cls.getD (0+k) ClT.nil).reds)] (j-(0+2)) else rowF encCl ClT.nil s.cls i j) (.row 56 4 s.cls.length (rowF encCl ClT.nil s.cls)),0+k<s.cls.length,inR .i64 ((k:Int)+1)] ⟨sO,oM,oM,oM,aS,oM,i6⟩ ?_
  exact za [] (again _ (k+1) aS oM)
 ·refine zg [] [false] [decide ((k:Int)<(s.cls.length:Int))=false] (oN sO) ?_
  refine Wp.ent' kR (Ent.pubC (b:=16) (o:=2) (e:=56) (e':=28) (cs:=[Cell.str s.name,Cell.int .i64 s.key,Cell.row (4:Nat) (64:Nat) (0:Nat) s.cls.length,Cell.row (2:Nat) (112:Nat) (0:Nat) s.usr.length,Cell.row (15:Nat) (160:Nat) (0:Nat) s.recs.length]) (sz:=(4:Nat)) (id:=64) (off:=(0:Nat)) (m:=s.cls.length) (n:=s.cls.length) (f:=rowF encCl ClT.nil s.cls) (m':=s.cls.length) (f':=rowF encCl ClT.nil s.cls) kR kR kR oM rfl (fun i _ j _=>by rw [Nat.zero_add]) rfl) ?_
  refine Wp.ent' kR (Ent.pubC (b:=16) (o:=3) (e:=70) (e':=28) (cs:=[Cell.str s.name,Cell.int .i64 s.key,Cell.sl (4:Nat) s.cls.length (rowF encCl ClT.nil s.cls),Cell.row (2:Nat) (112:Nat) (0:Nat) s.usr.length,Cell.row (15:Nat) (160:Nat) (0:Nat) s.recs.length]) (sz:=(2:Nat)) (id:=112) (off:=(0:Nat)) (m:=s.usr.length) (n:=s.usr.length) (f:=rowF encUs UsT.nil s.usr) (m':=s.usr.length) (f':=rowF encUs UsT.nil s.usr) kR kR kR oM rfl (fun i _ j _=>by rw [Nat.zero_add]) rfl) ?_
  refine Wp.ent' kR (Ent.pubC (b:=16) (o:=4) (e:=37) (e':=28) (cs:=[Cell.str s.name,Cell.int .i64 s.key,Cell.sl (4:Nat) s.cls.length (rowF encCl ClT.nil s.cls),Cell.sl (2:Nat) s.usr.length (rowF encUs UsT.nil s.usr),Cell.row (15:Nat) (160:Nat) (0:Nat) s.recs.length]) (sz:=(15:Nat)) (id:=160) (off:=(0:Nat)) (m:=s.recs.length) (n:=s.recs.length) (f:=rowF encRc RcT.nil s.recs) (m':=s.recs.length) (f':=rowF encRc RcT.nil s.recs) kR kR kR oM rfl (fun i _ j _=>by rw [Nat.zero_add]) rfl) ?_
  exact zr
theorem live_live (now:Int) (l:List RcT):liveT now (liveT now l)=liveT now l:=by
 unfold liveT;rw [List.filter_filter];simp
theorem room_live (now kind:Int) (l:List RcT):roomK (liveT now l) now kind=roomK l now kind:=by
 unfold roomK;rw [live_live]
def putS (l:List RcT) (now:Int) (r:RcT):List RcT×Int :=
 if mostT r.kind=0 then (l,2) else if (liveT now l).any (fun x=>x.key==r.key)=true then (l,6) else if roomK l now r.kind=0 then (l,16) else (liveT now l++[r],0)
theorem clone_ok (l:List RcT) (hl:l.length≤1000000):Pur Tryz.prog G 91 [.c (rcS l)] [.c (rcS l)]:=by
 have e0:BlkEqv (.row 37 15 (0+l.length) (catF 0 (fun i j=>nthD [] (i*15+j)) (rowF encRc .nil l))) (.row 37 15 (0+l.length) (rowF encRc .nil l)):=by
  refine BlkEqv.row_ext rfl fun i hi j hj => ?_
  unfold catF
  rw [if_neg oM,Nat.sub_zero]
 refine zp Tryz.func91 ?_
 cases l with
 | nil =>
  have e2:EqvD (.c .nilsl) (.c (.sl 15 0 (rowF encRc .nil []))):=nilsl_D
  refine Wp.nil0 0 15 (rowF encRc .nil []) kR kR ?_ ?_
  ·refine zg [(2,{fm:=[(0,.c (.sl 15 0 (rowF encRc .nil [])))]})] [true] [true=true,EqvI (.c .nilsl) (.c (.sl 15 0 (rowF encRc RcT.nil []))),EqvD (.c .nilsl) (.c (.sl 15 0 (rowF encRc RcT.nil [])))] ⟨rfl,fun _ _=>trivial,(show EqvD (.c .nilsl) (.c (.sl (15:Nat) (0:Nat) (rowF encRc RcT.nil []))) from aS)⟩ ?_
   exact zr
  ·have e1:EqvD (.c .emp) (.c (.sl 15 0 (rowF encRc .nil []))):=emp_D
   refine zg [(3,{fm:=[(1,.c (.sl 15 0 (rowF encRc .nil [])))],bs:=[(2,.row 37 15 0 (rowF encRc .nil []))]})] [false] [false=false,EqvI (.c .emp) (.c (.sl 15 0 (rowF encRc RcT.nil []))),EqvD (.c .emp) (.c (.sl 15 0 (rowF encRc RcT.nil []))),0≤140737488355328,BlkEqv (.row 37 15 0 (catF 0 (fun i j=>nthD [] (i*15+j)) (rowF encRc RcT.nil []))) (.row 37 15 0 (rowF encRc RcT.nil [])),0≤0] ⟨rfl,fun _ _=>trivial,aS,oM,aS,(show (0:Nat)≤(0:Nat) from oM)⟩ ?_
   refine Wp.ent' kR (Ent.pubT (t:=2) (e:=37) (sz:=(15:Nat)) (id:=80) (off:=(0:Nat)) (m:=(0:Nat)) (n:=(0:Nat)) (f:=rowF encRc RcT.nil []) (m':=([]:List UInt8).length) (f':=rowF encRc RcT.nil []) kR kR oM rfl (fun i _ j _=>by rw [Nat.zero_add]) rfl) ?_
   exact zr
 | cons a r =>
  refine zg [(3,{bs:=[(2,.row 37 15 (0+(a::r).length) (rowF encRc .nil (a::r)))]})] [false] [false=false,(0+(a::r).length)*176≤140737488355328,BlkEqv (.row 37 15 (0+(a::r).length) (catF 0 (fun i j=>nthD [] (i*15+j)) (rowF encRc RcT.nil (a::r)))) (.row 37 15 (0+(a::r).length) (rowF encRc RcT.nil (a::r))),0≤0] ⟨rfl,oM,aS,(show (0:Nat)≤(0:Nat) from oM)⟩ ?_
  refine Wp.ent' kR (Ent.pubT (t:=2) (e:=37) (sz:=(15:Nat)) (id:=80) (off:=(0:Nat)) (m:=(0:Nat)+(a::r).length) (n:=(0:Nat)+(a::r).length) (f:=rowF encRc RcT.nil (a::r)) (m':=(a::r).length) (f':=rowF encRc RcT.nil (a::r)) kR kR oM oM (fun i _ j _=>by rw [Nat.zero_add]) rfl) ?_
  exact zr
theorem idxP_ok (q:RcT) (l:List RcT) (hl:l.length≤1000000):FnB Tryz.prog G 112 [.box 37 (encRc q),rcB l] [.c (.row 15 1 0 l.length),.c (clo1 117 (.ptr 0 0))] [.c (.int .i64 (ixF (fun x=>x.key==q.key) l))] [(0,.box 37 (encRc q)),(1,rcB l)]:=by
 refine zf Tryz.func112 ?_
 refine z0 [] [] ?_
 refine zl (fun (k:Nat)=>⟨[(0,.v (.c (.row 15 1 0 l.length))),(1,.v (.c (clo1 117 (.ptr 0 0)))),(7,.v (.c (.int .i64 (l.length:Int)))),(8,.v (.c (.int .i64 (k:Int))))],[(0,.box 37 (encRc q)),(1,.row 37 15 l.length (rowF encRc .nil l))],66⟩) (fun k=>k≤l.length∧∀ i,i<k→((l.getD i .nil).key==q.key)=false) (fun k=>l.length-k) 0 ⟨Nat.zero_le _,fun _ h=>absurd h (Nat.not_lt_zero _)⟩ ?_
 intro k L ⟨hk,hall⟩ again
 rcases Nat.lt_or_ge k l.length with hlt | hge
 ·have c:=put1_ok (G:=G) q (l.getD (0+k) .nil)
  cases hq:((l.getD k .nil).key==q.key) with
  | true =>
   rw [show ((l.getD (0+k) .nil).key==q.key)=true from by rw [Nat.zero_add];exact hq] at c
   rw [ixF_some (p:=fun x=>x.key==q.key) (d:=RcT.nil) hlt hall hq]
   refine zg [(4,{cs:=[(5,cb [0] c)]})] [true,true] [decide ((k:Int)<(l.length:Int))=true,(0:Int)≤(k:Int)∧(k:Int)<(l.length:Int),0+k<l.length,true=true] ⟨sO,oM,oM,rfl⟩ ?_
   exact zb []
  | false =>
   rw [show ((l.getD (0+k) .nil).key==q.key)=false from by rw [Nat.zero_add];exact hq] at c
   have hall':∀ i,i<k+1→((l.getD i .nil).key==q.key)=false:=fun i hi=>by
    rcases Nat.lt_or_ge i k with h | h
    ·exact hall i h
    ·rw [show i=k by omega];exact hq
   clear hall hq
   refine zg [(4,{cs:=[(5,cb [0] c)]})] [true,false] [decide ((k:Int)<(l.length:Int))=true,(0:Int)≤(k:Int)∧(k:Int)<(l.length:Int),0+k<l.length,false=false,inR .i64 ((k:Int)+1)] ⟨sO,oM,oM,rfl,i6⟩ ?_
   exact za [] (again _ (k+1) ⟨aS,aS⟩ oM)
 ·rw [ixF_none (p:=fun x=>x.key==q.key) (d:=RcT.nil) (fun i hi=>hall i oM)]
  refine zg [] [false] [decide ((k:Int)<(l.length:Int))=false] (oN sO) ?_
  exact zb []
theorem conP_ok (q:RcT) (l:List RcT) (hl:l.length≤1000000):FnB Tryz.prog G 116 [.box 37 (encRc q),rcB l] [.c (.row 15 1 0 l.length),.c (clo1 117 (.ptr 0 0))] [.c (.bool (l.any fun x=>x.key==q.key))] [(0,.box 37 (encRc q)),(1,rcB l)]:=by
 refine zf Tryz.func116 ?_
 have hx:=ixF_any (fun x:RcT=>x.key==q.key) l
 have c:=idxP_ok (G:=G) q l hl
 rw [← hx]
 refine z0 [(1,{cs:=[(2,cb [0,1] c)]})] [] ?_
 exact zb []
theorem storePut_ok (l:List RcT) (now:Int) (r:RcT) (hl:l.length≤100000):Pur Tryz.prog G 95 [.c (rcS l),.c (.int .i64 now),.agg (encRc r)] [.c (rcS (putS l now r).1),.c (.int .i64 (putS l now r).2)]:=by
 refine zp Tryz.func95 ?_
 have hll:=live_len now l
 have c1:=live_ok (G:=G) l now oM
 have c1r:=liveR_ok (G:=G) l now oM
 have c2:=most_ok (G:=G) r.kind
 have c3:=conP_ok (G:=G) r (liveT now l) oM
 have c4:=room_ok (G:=G) (liveT now l) now r.kind oM
 have c5:=clone_ok (G:=G) l oM
 rw [room_live] at c4
 unfold putS
 by_cases h1:mostT r.kind=0
 ·rw [if_pos h1]
  rw [h1] at c2
  refine zg [(1,{cs:=[(2,cb [] c1r)]}),(2,{cs:=[(2,pc c2)]}),(3,{cs:=[(1,pc c5)]})] [true] [((0:Int)==(0:Int))=true] rfl ?_
  exact zr
 ·rw [if_neg h1]
  have t1:(mostT r.kind==0)=false:=by simp [h1]
  cases h2:(liveT now l).any (fun x=>x.key==r.key) with
  | true =>
   rw [h2] at c3
   rw [if_pos rfl]
   clear h2
   refine zg [(4,{cs:=[(2,cb [0,80] c3)],fm:=[(1,.c (clo1 117 (.ptr 0 0)))]}),(1,{cs:=[(2,cb [] c1r)]}),(2,{cs:=[(2,pc c2)]}),(5,{cs:=[(1,pc c5)]})] [false,true] [(mostT r.kind==(0:Int))=false,EqvI (.c (cloRaw 117 [.c (.ptr 0 0)])) (.c (clo1 117 (.ptr 0 0))),EqvD (.c (cloRaw 117 [.c (.ptr 0 0)])) (.c (clo1 117 (.ptr 0 0))),true=true] ⟨aS,clo1_I _ _,clo1_D _ _,rfl⟩ ?_
   exact zr
  | false =>
   rw [h2] at c3
   rw [if_neg (by simp)]
   clear h2
   by_cases h3:roomK l now r.kind=0
   ·rw [if_pos h3]
    rw [h3] at c4
    refine zg [(4,{cs:=[(2,cb [0,80] c3)],fm:=[(1,.c (clo1 117 (.ptr 0 0)))]}),(1,{cs:=[(2,cb [] c1r)]}),(2,{cs:=[(2,pc c2)]}),(6,{cs:=[(4,lc [80] [.row 37 15 (liveT now l).length (rowF encRc RcT.nil (liveT now l))] [.c (.row 15 0 0 (liveT now l).length),.c (.int .i64 now),.c (.int .i64 r.kind)] c4 kR kR kR (show 0+(liveT now l).length≤(liveT now l).length from oM))]}),(7,{cs:=[(1,pc c5)]})] [false,false,true] [(mostT r.kind==(0:Int))=false,EqvI (.c (cloRaw 117 [.c (.ptr 0 0)])) (.c (clo1 117 (.ptr 0 0))),EqvD (.c (cloRaw 117 [.c (.ptr 0 0)])) (.c (clo1 117 (.ptr 0 0))),false=false,((0:Int)==(0:Int))=true] ⟨aS,clo1_I _ _,clo1_D _ _,rfl,rfl⟩ ?_
    exact zr
   ·rw [if_neg h3]
    have t3:(roomK l now r.kind==0)=false:=by simp [h3]
    generalize liveT now l=v at *
    have e1:BlkEqv (.row 37 15 (v.length+1) (catF v.length (rowF encRc .nil v) (fun i j=>nthD (encRc r) ((0+i)*15+j)))) (.row 37 15 (v.length+1) (rowF encRc .nil (v++[r]))):=enc_app v r rfl
    refine zg [(4,{cs:=[(2,cb [0,80] c3)],fm:=[(1,.c (clo1 117 (.ptr 0 0)))]}),(8,{bs:=[(3,.row 37 15 (v.length+1) (rowF encRc .nil (v++[r])))]}),(1,{cs:=[(2,cb [] c1r)]}),(2,{cs:=[(2,pc c2)]}),(6,{cs:=[(4,lc [80] [.row 37 15 v.length (rowF encRc RcT.nil v)] [.c (.row 15 0 0 v.length),.c (.int .i64 now),.c (.int .i64 r.kind)] c4 kR kR kR (show 0+v.length≤v.length from oM))]})] [false,false,false] [(mostT r.kind==(0:Int))=false,EqvI (.c (cloRaw 117 [.c (.ptr 0 0)])) (.c (clo1 117 (.ptr 0 0))),EqvD (.c (cloRaw 117 [.c (.ptr 0 0)])) (.c (clo1 117 (.ptr 0 0))),false=false,(roomK l now r.kind==(0:Int))=false,(v.length+1)*176≤140737488355328,BlkEqv (.row 37 15 (v.length+1) (catF v.length (rowF encRc RcT.nil v) fun i j=>nthD (encRc r) ((0+i)*15+j))) (.row 37 15 (v.length+1) (rowF encRc RcT.nil (v++[r]))),v.length≤v.length,0+1≤1] ⟨aS,clo1_I _ _,clo1_D _ _,rfl,aS,oM,aS,oM,(show (0:Nat)+(1:Nat)≤(1:Nat) from oM)⟩ ?_
    refine Wp.ent' kR (Ent.pubT (t:=6) (e:=37) (sz:=(15:Nat)) (id:=416) (off:=(0:Nat)) (m:=v.length+(1:Nat)) (n:=v.length+(1:Nat)) (f:=rowF encRc RcT.nil (v++[r])) (m':=(v++[r]).length) (f':=fun (i j:Nat)=>nthD [Cell.int .i64 ((v++[r]).getD i RcT.nil).kind,Cell.int .i64 ((v++[r]).getD i RcT.nil).key,Cell.int .i64 ((v++[r]).getD i RcT.nil).til,Cell.bool ((v++[r]).getD i RcT.nil).used,Cell.int .i64 ((v++[r]).getD i RcT.nil).client,Cell.int .i64 ((v++[r]).getD i RcT.nil).user,Cell.int .i64 ((v++[r]).getD i RcT.nil).sess,Cell.int .i64 ((v++[r]).getD i RcT.nil).fam,Cell.str ((v++[r]).getD i RcT.nil).w.ty,Cell.str ((v++[r]).getD i RcT.nil).w.redir,Cell.str ((v++[r]).getD i RcT.nil).w.scope,Cell.str ((v++[r]).getD i RcT.nil).w.state,Cell.str ((v++[r]).getD i RcT.nil).w.nonce,Cell.str ((v++[r]).getD i RcT.nil).w.chal,Cell.str ((v++[r]).getD i RcT.nil).w.meth] j) kR kR oM (by simp) (fun i _ j _=>by rw [Nat.zero_add];rfl) rfl) ?_
    exact zr

structure FitR (src:SoT):Prop where
 now0:0≤src.now
 now1:src.now≤1000000000
 n : -1000000000000≤src.n
def pRec (c:Int) (w:WT) (key til:Int):RcT:=⟨1,key,til,false,c,0,0,0,w⟩
def putsT (s:StT) (src:SoT) (c:Int) (w:WT):Int×Int×StT×SoT :=
 if 1073741824<src.n∨roomK s.recs src.now 1=0 then (0,16,s,src)
 else if (putS s.recs src.now (pRec c w src.n (src.now+60))).2=0 then (src.n,0,{ s with recs:=(putS s.recs src.now (pRec c w src.n (src.now+60))).1 },{ src with n:=src.n+1 })
 else (0,(putS s.recs src.now (pRec c w src.n (src.now+60))).2,s,src)
def pushT (s:StT) (src:SoT) (n:Int) (w:WT):StT×SoT×Int×Int :=
 if n<1∨(s.cls.length:Int)<n then (s,src,0,9)
 else if chkT (s.cls.getD (n-1).toNat .nil) w=0 then ((putsT s src n w).2.2.1,(putsT s src n w).2.2.2,(putsT s src n w).1,(putsT s src n w).2.1)
 else (s,src,0,chkT (s.cls.getD (n-1).toNat .nil) w)
theorem put19_ok (l:List RcT) (now:Int) (r:RcT) (hl:l.length≤100000):Pur Tryz.prog G 37 [.c (rcS l),.c (.int .i64 now),.agg (encRc r)] [.c (rcS (putS l now r).1),.c (.int .i64 (putS l now r).2)]:=by
 refine zp Tryz.func37 ?_
 have hll:=live_len now l
 have c1:=live19R_ok (G:=G) l now oM
 have c2:=most19A_ok (G:=G) r.kind
 have c4:=room19_ok (G:=G) l now r.kind oM
 unfold putS
 by_cases h1:mostT r.kind=0
 ·rw [if_pos h1]
  rw [h1] at c2
  refine zg [(1,{cs:=[(2,pc c2)]})] [true] [((0:Int)==(0:Int))=true] rfl ?_
  exact zr
 ·rw [if_neg h1]
  have t1:(mostT r.kind==0)=false:=by simp [h1]
  generalize mostT r.kind=mk at c2 t1
  generalize liveT now l=v at c1 hll ⊢
  clear h1
  refine zg [(1,{cs:=[(2,pc c2)]}),(3,{cs:=[(2,cb [] c1)]})] [false] [(mk==0)=false] t1 ?_
  refine zl (fun (k:Nat)=>⟨[(0,.v (.c (rcS l))),(1,.v (.c (.int .i64 now))),(5,.v (.c (.ptr 0 0))),(8,.v (.c (.row 15 144 0 v.length))),(9,.v (.c (.int .i64 (k:Int))))],[(0,.box 37 (encRc r)),(144,.row 37 15 v.length (rowF encRc .nil v))],192⟩) (fun k=>k≤v.length∧∀ i,i<k→((v.getD i .nil).key==r.key)=false) (fun k=>v.length-k) 0 ⟨Nat.zero_le _,fun _ h=>absurd h (Nat.not_lt_zero _)⟩ ?_
  intro k L ⟨hk,hall⟩ again
  rcases Nat.lt_or_ge k v.length with hlt | hge
  ·cases hq:((v.getD k .nil).key==r.key) with
   | true =>
    have ha:v.any (fun x=>x.key==r.key)=true:=List.any_eq_true.2 ⟨v.getD k .nil,by simp [List.getD,hlt],hq⟩
    rw [if_pos ha]
    have hq0:((v.getD (0+k) .nil).key==r.key)=true:=by rw [Nat.zero_add];exact hq
    clear ha hall
    refine zg [] [true,true] [decide ((k:Int)<(v.length:Int))=true,(0:Int)≤(k:Int)∧(k:Int)<(v.length:Int),0+k<v.length,((v.getD (0+k) RcT.nil).key==r.key)=true] ⟨sO,oM,oM,(show ((v.getD ((0:Nat)+k) RcT.nil).key==r.key)=true from aS)⟩ ?_
    exact zr
   | false =>
    have hq0:((v.getD (0+k) .nil).key==r.key)=false:=by rw [Nat.zero_add];exact hq
    have hall':∀ i,i<k+1→((v.getD i .nil).key==r.key)=false:=fun i hi=>by
     rcases Nat.lt_or_ge i k with h | h
     ·exact hall i h
     ·rw [show i=k by omega];exact hq
    clear hall hq
    refine zg [] [true,false] [decide ((k:Int)<(v.length:Int))=true,(0:Int)≤(k:Int)∧(k:Int)<(v.length:Int),0+k<v.length,((v.getD (0+k) RcT.nil).key==r.key)=false,inR .i64 ((k:Int)+1)] ⟨sO,oM,oM,aS,i6⟩ ?_
    exact za [] (again _ (k+1) ⟨aS,aS⟩ oM)
  ·have ha:v.any (fun x=>x.key==r.key)=false:=List.any_eq_false.2 fun x hx=>by
    obtain ⟨i,hi,rfl⟩:=List.getElem_of_mem hx
    have:=hall i oM
    simp only [List.getD,List.getElem?_eq_getElem hi,Option.getD_some] at this
    simp [this]
   rw [ha,if_neg (by simp)]
   clear ha hall
   by_cases h3:roomK l now r.kind=0
   ·rw [if_pos h3]
    rw [h3] at c4
    refine zg [(9,{cs:=[(4,pc c4)]})] [false,true] [decide ((k:Int)<(v.length:Int))=false,((0:Int)==(0:Int))=true] ⟨sO,rfl⟩ ?_
    exact zr
   ·rw [if_neg h3]
    have t3:(roomK l now r.kind==0)=false:=by simp [h3]
    have e1:BlkEqv (.row 37 15 (v.length+1) (catF v.length (rowF encRc .nil v) (fun i j=>nthD (encRc r) ((0+i)*15+j)))) (.row 37 15 (v.length+1) (rowF encRc .nil (v++[r]))):=enc_app v r rfl
    refine zg [(11,{bs:=[(3,.row 37 15 (v.length+1) (rowF encRc .nil (v++[r])))]}),(9,{cs:=[(4,pc c4)]})] [false,false] [decide ((k:Int)<(v.length:Int))=false,(roomK l now r.kind==(0:Int))=false,(v.length+1)*176≤140737488355328,BlkEqv (.row 37 15 (v.length+1) (catF v.length (rowF encRc RcT.nil v) fun i j=>nthD (encRc r) ((0+i)*15+j))) (.row 37 15 (v.length+1) (rowF encRc RcT.nil (v++[r]))),v.length≤v.length,0+1≤1] ⟨sO,aS,oM,aS,oM,(show (0:Nat)+(1:Nat)≤(1:Nat) from oM)⟩ ?_
    refine Wp.ent' kR (Ent.pubT (t:=6) (e:=37) (sz:=(15:Nat)) (id:=400) (off:=(0:Nat)) (m:=v.length+(1:Nat)) (n:=v.length+(1:Nat)) (f:=rowF encRc RcT.nil (v++[r])) (m':=(v++[r]).length) (f':=fun (i j:Nat)=>nthD [Cell.int .i64 ((v++[r]).getD i RcT.nil).kind,Cell.int .i64 ((v++[r]).getD i RcT.nil).key,Cell.int .i64 ((v++[r]).getD i RcT.nil).til,Cell.bool ((v++[r]).getD i RcT.nil).used,Cell.int .i64 ((v++[r]).getD i RcT.nil).client,Cell.int .i64 ((v++[r]).getD i RcT.nil).user,Cell.int .i64 ((v++[r]).getD i RcT.nil).sess,Cell.int .i64 ((v++[r]).getD i RcT.nil).fam,Cell.str ((v++[r]).getD i RcT.nil).w.ty,Cell.str ((v++[r]).getD i RcT.nil).w.redir,Cell.str ((v++[r]).getD i RcT.nil).w.scope,Cell.str ((v++[r]).getD i RcT.nil).w.state,Cell.str ((v++[r]).getD i RcT.nil).w.nonce,Cell.str ((v++[r]).getD i RcT.nil).w.chal,Cell.str ((v++[r]).getD i RcT.nil).w.meth] j) kR kR oM (by simp) (fun i _ j _=>by rw [Nat.zero_add];rfl) rfl) ?_
    exact zr
theorem fitC_base (k:Nat):FitC (baseC.getD k .nil):=by
 match k with
 | 0=>exact ⟨by decide,by decide⟩
 | 1=>exact ⟨by decide,by decide⟩
 | 2=>exact ⟨by decide,by decide⟩
 | k+3=>exact ⟨by show (0:Nat)<_; decide,by show (0:Nat)<_; decide⟩
theorem fitS_base:FitS baseT:=⟨by decide,by decide,by decide,fitC_base⟩
theorem red_len (x:Int):(rightR.getD x.toNat []).length≤20:=by
 match x.toNat with
 | 0=>decide
 | 1=>decide
 | 2=>decide
 | k+3=>simp [rightR]
structure Fit4 (w:WT):Prop where
 ty:w.ty.length≤400
 redir:w.redir.length≤400
 scope:w.scope.length≤400
 state:w.state.length≤400
 nonce:w.nonce.length≤400
 chal:w.chal.length≤400
 meth:w.meth.length≤400
theorem Fit4.fit {w:WT} (h:Fit4 w):FitW w:=⟨by have:=h.redir;omega,by have:=h.scope;omega,by have:=h.state;omega,by have:=h.nonce;omega,by have:=h.chal;omega⟩
theorem fit_right (n m:Int):Fit4 { rightT n with chal:=chalT m }:=⟨by show 4≤400;decide,by have:=red_len (withT (n-1) 3);show (rightR.getD (withT (n-1) 3).toNat []).length≤400;omega,by show 6≤400;decide,by show ([115]++keyT n).length≤400;rw [List.length_append,key_len];decide,by show 1≤400;decide,by show (chalT m).length≤400;rw [chalT_len];decide,by show 4≤400;decide⟩
theorem push1:pushT baseT src0 1 (rightT 1)=({ baseT with recs:=[pRec 1 (rightT 1) 100 60] },⟨101,1,0⟩,100,0):=by kernel_rfl
theorem chkR (k:Nat) (h:k<3):chkT (baseC.getD k .nil) (rightT ((k:Int)+1))=0:=by
 match k,h with
 | 0,_=>exact (by kernel_rfl:chkT (baseC.getD 0 .nil) (rightT ((0:Nat)+1:Int))=0)
 | 1,_=>exact (by kernel_rfl:chkT (baseC.getD 1 .nil) (rightT ((1:Nat)+1:Int))=0)
 | 2,_=>exact (by kernel_rfl:chkT (baseC.getD 2 .nil) (rightT ((2:Nat)+1:Int))=0)
def Gn (m:Int):Nat→Option (List Cell)
 | 0=>some [.int .i64 m]
 | _=>none
theorem Gn_len (m:Int):Gn m 0=some [.int .i64 m]:=rfl
theorem push20_ok (s:StT) (hs:FitS s) (hr:s.recs.length≤100000) (src:SoT) (hf:FitR src) (n:Int) (w:WT) (hw:FitW w):Pur Tryz.prog G 16 [.agg (encSt s),.agg (encSo src),.c (.int .i64 n),.agg (encW w)] [.agg (encSt (pushT s src n w).1),.agg (encSo (pushT s src n w).2.1),.c (.int .i64 (pushT s src n w).2.2.1),.c (.int .i64 (pushT s src n w).2.2.2)]:=by
 have h0:=hf.now0
 have h1:=hf.now1
 have h2:=hf.n
 have hc:=hs.cls
 refine zp Tryz.func16 ?_
 unfold pushT
 by_cases h:n<1∨(s.cls.length:Int)<n
 ·rw [if_pos h]
  rcases h with h | h
  ·have t1:decide (n<1)=true:=decide_eq_true h
   refine zg [] [true] [(bif decide (n<(1:Int)) then true else decide (n>(s.cls.length:Int)))=true] (oN sO) ?_
   exact zr
  ·have t1:decide (n<1)=false:=decide_eq_false oM
   have t2:decide (n>(s.cls.length:Int))=true:=decide_eq_true oM
   refine zg [] [true] [(bif decide (n<(1:Int)) then true else decide (n>(s.cls.length:Int)))=true] (oN sO) ?_
   exact zr
 ·rw [if_neg h]
  obtain ⟨k,rfl⟩:∃ k:Nat,n=(k:Int)+1:=⟨(n-1).toNat,by omega⟩
  have hkl:k<s.cls.length:=by omega
  rw [show (k:Int)+1-1=(k:Int) by omega,Int.toNat_natCast]
  have t1:decide ((k:Int)+1<1)=false:=decide_eq_false oM
  have t2:decide ((k:Int)+1>(s.cls.length:Int))=false:=decide_eq_false oM
  have e2:EqvD (.c (.int .i64 ((k:Int)+1-1))) (.c (.int .i64 (k:Int))):=eqvD_of (by rw [show (k:Int)+1-1=(k:Int) by omega])
  have c3:=check20_ok (G:=G) (s.cls.getD k .nil) w (hs.cl k) hw
  have c4:=room19_ok (G:=G) s.recs src.now 1 oM
  have c5:Pur Tryz.prog G 39 [.c (.int .i64 1)] [.c (.int .i64 60)]:=life19A_ok (G:=G) 1
  have c6:=until5_ok (G:=G) src.now 60 h0 h1 dC dC
  have c7:=put19_ok (G:=G) s.recs src.now (pRec ((k:Int)+1) w src.n (src.now+60)) hr
  clear h
  unfold putsT
  by_cases hn:1073741824<src.n
  ·have c1:=nonce5_no (G:=G) src hn
   by_cases he:chkT (s.cls.getD k .nil) w=0
   ·rw [if_pos he,if_pos (.inl hn)]
    rw [he] at c3
    clear he
    refine zg [(3,{cs:=[(7,pc c3)],fm:=[(3,.c (.int .i64 (k:Int)))]}),(4,{cs:=[(1,pc c1)]}),(5,{cs:=[(10,pc c4)]})] [false,true,true] [(bif decide ((k:Int)+(1:Int)<(1:Int)) then true else decide ((k:Int)+(1:Int)>(s.cls.length:Int)))=false,EqvI (.c (.int .i64 ((k:Int)+1-1))) (.c (.int .i64 (k:Int))),EqvD (.c (.int .i64 ((k:Int)+1-1))) (.c (.int .i64 (k:Int))),inR .i64 ((k:Int)+1-1),(0:Int)≤(k:Int)∧(k:Int)<(s.cls.length:Int),(bif (0:Int)==(0:Int) then bif !false then true else roomK s.recs src.now (1:Int)==(0:Int) else false)=true,((16:Int) != (0:Int))=true] ⟨aS,fun _ _=>trivial,aS,i6,oM,rfl,rfl⟩ ?_
    exact zr
   ·rw [if_neg he]
    have t3:(chkT (s.cls.getD k .nil) w==0)=false:=beq_eq_false_iff_ne.2 he
    have t4:(chkT (s.cls.getD k .nil) w != 0)=true:=bne_iff_ne.2 he
    generalize chkT (s.cls.getD k .nil) w=e at c3 t3 t4 ⊢
    clear he
    refine zg [(3,{cs:=[(7,pc c3)],fm:=[(3,.c (.int .i64 (k:Int)))]}),(4,{cs:=[(1,pc c1)]}),(5,{cs:=[(10,pc c4)]})] [false,false,true] [(bif decide ((k:Int)+(1:Int)<(1:Int)) then true else decide ((k:Int)+(1:Int)>(s.cls.length:Int)))=false,EqvI (.c (.int .i64 ((k:Int)+1-1))) (.c (.int .i64 (k:Int))),EqvD (.c (.int .i64 ((k:Int)+1-1))) (.c (.int .i64 (k:Int))),inR .i64 ((k:Int)+1-1),(0:Int)≤(k:Int)∧(k:Int)<(s.cls.length:Int),(bif e==(0:Int) then bif !false then true else roomK s.recs src.now (1:Int)==(0:Int) else false)=false,(e != (0:Int))=true] ⟨aS,fun _ _=>trivial,aS,i6,oM,(by simp_all<;>omega),(show (e != (0:Int))=true from aS)⟩ ?_
    exact zr
  ·have c1:Pur Tryz.prog G 35 [.agg (encSo src)] [.c (.int .i64 src.n),.agg [.int .i64 (src.n+1),.int .i64 src.conn,.int .i64 src.now],.c (.bool true)]:=nonce5_ok (G:=G) src oM h2
   by_cases he:chkT (s.cls.getD k .nil) w=0
   ·rw [if_pos he]
    rw [he] at c3
    clear he
    by_cases hk:roomK s.recs src.now 1=0
    ·rw [if_pos (.inr hk)]
     rw [hk] at c4
     refine zg [(3,{cs:=[(7,pc c3)],fm:=[(3,.c (.int .i64 (k:Int)))]}),(4,{cs:=[(1,pc c1)]}),(5,{cs:=[(10,pc c4)]})] [false,true,true] [(bif decide ((k:Int)+(1:Int)<(1:Int)) then true else decide ((k:Int)+(1:Int)>(s.cls.length:Int)))=false,EqvI (.c (.int .i64 ((k:Int)+1-1))) (.c (.int .i64 (k:Int))),EqvD (.c (.int .i64 ((k:Int)+1-1))) (.c (.int .i64 (k:Int))),inR .i64 ((k:Int)+1-1),(0:Int)≤(k:Int)∧(k:Int)<(s.cls.length:Int),(bif (0:Int)==(0:Int) then bif !true then true else (0:Int)==(0:Int) else false)=true,((16:Int) != (0:Int))=true] ⟨aS,fun _ _=>trivial,aS,i6,oM,rfl,rfl⟩ ?_
     exact zr
    ·rw [if_neg (by rintro (h | h);exact hn h;exact hk h)]
     have t5:(roomK s.recs src.now 1==0)=false:=by simp [hk]
     generalize roomK s.recs src.now 1=z at c4 t5
     generalize hp:putS s.recs src.now (pRec ((k:Int)+1) w src.n (src.now+60))=p at c7 ⊢
     obtain ⟨l,e⟩:=p
     by_cases he:e=0
     ·subst he
      rw [if_pos rfl]
      refine zg [(3,{cs:=[(7,pc c3)],fm:=[(3,.c (.int .i64 (k:Int)))]}),(4,{cs:=[(1,pc c1)]}),(5,{cs:=[(10,pc c4)]}),(9,{cs:=[(7,pc c5),(8,pc c6),(12,pc c7)]})] [false,false,false,false] [(bif decide ((k:Int)+(1:Int)<(1:Int)) then true else decide ((k:Int)+(1:Int)>(s.cls.length:Int)))=false,EqvI (.c (.int .i64 ((k:Int)+1-1))) (.c (.int .i64 (k:Int))),EqvD (.c (.int .i64 ((k:Int)+1-1))) (.c (.int .i64 (k:Int))),inR .i64 ((k:Int)+1-1),(0:Int)≤(k:Int)∧(k:Int)<(s.cls.length:Int),(bif (0:Int)==(0:Int) then bif !true then true else z==(0:Int) else false)=false,((0:Int) != (0:Int))=false,((0:Int) != (0:Int))=false] ⟨aS,fun _ _=>trivial,aS,i6,oM,aS,rfl,rfl⟩ ?_
      exact zr
     ·rw [if_neg he]
      have t6:(e != 0)=true:=by simp [he]
      refine zg [(3,{cs:=[(7,pc c3)],fm:=[(3,.c (.int .i64 (k:Int)))]}),(4,{cs:=[(1,pc c1)]}),(5,{cs:=[(10,pc c4)]}),(9,{cs:=[(7,pc c5),(8,pc c6),(12,pc c7)]})] [false,false,false,true] [(bif decide ((k:Int)+(1:Int)<(1:Int)) then true else decide ((k:Int)+(1:Int)>(s.cls.length:Int)))=false,EqvI (.c (.int .i64 ((k:Int)+1-1))) (.c (.int .i64 (k:Int))),EqvD (.c (.int .i64 ((k:Int)+1-1))) (.c (.int .i64 (k:Int))),inR .i64 ((k:Int)+1-1),(0:Int)≤(k:Int)∧(k:Int)<(s.cls.length:Int),(bif (0:Int)==(0:Int) then bif !true then true else z==(0:Int) else false)=false,((0:Int) != (0:Int))=false,(e != (0:Int))=true] ⟨aS,fun _ _=>trivial,aS,i6,oM,aS,rfl,(show (e != (0:Int))=true from aS)⟩ ?_
      exact zr
   ·rw [if_neg he]
    have t3:(chkT (s.cls.getD k .nil) w==0)=false:=beq_eq_false_iff_ne.2 he
    have t4:(chkT (s.cls.getD k .nil) w != 0)=true:=bne_iff_ne.2 he
    generalize chkT (s.cls.getD k .nil) w=e at c3 t3 t4 ⊢
    clear he
    refine zg [(3,{cs:=[(7,pc c3)],fm:=[(3,.c (.int .i64 (k:Int)))]}),(4,{cs:=[(1,pc c1)]}),(5,{cs:=[(10,pc c4)]})] [false,false,true] [(bif decide ((k:Int)+(1:Int)<(1:Int)) then true else decide ((k:Int)+(1:Int)>(s.cls.length:Int)))=false,EqvI (.c (.int .i64 ((k:Int)+1-1))) (.c (.int .i64 (k:Int))),EqvD (.c (.int .i64 ((k:Int)+1-1))) (.c (.int .i64 (k:Int))),inR .i64 ((k:Int)+1-1),(0:Int)≤(k:Int)∧(k:Int)<(s.cls.length:Int),(bif e==(0:Int) then bif !true then true else roomK s.recs src.now (1:Int)==(0:Int) else false)=false,(e != (0:Int))=true] ⟨aS,fun _ _=>trivial,aS,i6,oM,(by simp_all<;>omega),(show (e != (0:Int))=true from aS)⟩ ?_
    exact zr
def findP (kind key:Int) (x:RcT):Bool:=bif x.kind==kind then x.key==key else false
def findT (l:List RcT) (now kind key:Int):RcT×Bool :=
 if ixF (findP kind key) (liveT now l)<0 then (.nil,false) else ((liveT now l).getD (ixF (findP kind key) (liveT now l)).toNat .nil,true)
theorem at19_ok (l:List RcT) (kind key:Int) (hl:l.length≤1000000):Pur Tryz.prog G 33 [.c (rcS l),.c (.int .i64 kind),.c (.int .i64 key)] [.c (.int .i64 (ixF (findP kind key) l))]:=by
 refine zp Tryz.func33 ?_
 refine z0 [] [] ?_
 refine zl (fun (k:Nat)=>⟨[(0,.v (.c (rcS l))),(1,.v (.c (.int .i64 kind))),(2,.v (.c (.int .i64 key))),(6,.v (.c (.int .i64 0))),(7,.v (.c (.int .i64 (k:Int))))],[],32⟩) (fun k=>k≤l.length∧∀ i,i<k→findP kind key (l.getD i .nil)=false) (fun k=>l.length-k) 0 ⟨Nat.zero_le _,fun _ h=>absurd h (Nat.not_lt_zero _)⟩ ?_
 intro k L ⟨hk,hall⟩ again
 rcases Nat.lt_or_ge k l.length with hlt | hge
 ·cases hq:findP kind key (l.getD k .nil) with
  | true =>
   rw [ixF_some (p:=findP kind key) (d:=RcT.nil) hlt hall hq]
   unfold findP at hq
   refine zg [] [true,true] [decide ((k:Int)<(l.length:Int))=true,(0:Int)≤(k:Int)∧(k:Int)<(l.length:Int),((l.getD k .nil).kind==kind)=true→(0:Int)≤(k:Int)∧(k:Int)<(l.length:Int),(bif (l.getD k .nil).kind==kind then (l.getD k .nil).key==key else false)=true] ⟨sO,oM,oM,(show (bif (l.getD k .nil).kind==kind then (l.getD k .nil).key==key else false)=true from aS)⟩ ?_
   exact zr
  | false =>
   have hall':∀ i,i<k+1→findP kind key (l.getD i .nil)=false:=fun i hi=>by
    rcases Nat.lt_or_ge i k with h | h
    ·exact hall i h
    ·rw [show i=k by omega];exact hq
   unfold findP at hq
   refine zg [] [true,false] [decide ((k:Int)<(l.length:Int))=true,(0:Int)≤(k:Int)∧(k:Int)<(l.length:Int),((l.getD k .nil).kind==kind)=true→(0:Int)≤(k:Int)∧(k:Int)<(l.length:Int),(bif (l.getD k .nil).kind==kind then (l.getD k .nil).key==key else false)=false,inR .i64 ((k:Int)+1)] ⟨sO,oM,oM,aS,i6⟩ ?_
   exact za [] (again _ (k+1) ⟨aS,aS⟩ oM)
 ·rw [ixF_none (p:=findP kind key) (d:=RcT.nil) (fun i hi=>hall i oM)]
  refine zg [] [false] [decide ((k:Int)<(l.length:Int))=false] (oN sO) ?_
  exact zr
theorem find19_ok (l:List RcT) (now kind key:Int) (hl:l.length≤1000000):Pur Tryz.prog G 14 [.c (rcS l),.c (.int .i64 now),.c (.int .i64 kind),.c (.int .i64 key)] [.agg (encRc (findT l now kind key).1),.c (.bool (findT l now kind key).2)]:=by
 refine zp Tryz.func14 ?_
 have c1:=live19_ok (G:=G) l now oM
 have hll:=live_len now l
 have c2:=at19_ok (G:=G) (liveT now l) kind key oM
 unfold findT
 by_cases h:ixF (findP kind key) (liveT now l)<0
 ·rw [if_pos h]
  have t1:decide (ixF (findP kind key) (liveT now l)<0)=true:=decide_eq_true h
  clear h
  generalize ixF (findP kind key) (liveT now l)=x at *
  refine zg [(1,{cs:=[(2,pc c1)]}),(2,{cs:=[(3,pc c2)]})] [true] [decide (x<(0:Int))=true] (oN aS) ?_
  exact zr
 ·rw [if_neg h]
  obtain ⟨k,hk,hkl⟩:∃ k:Nat,ixF (findP kind key) (liveT now l)=(k:Int)∧k<(liveT now l).length:=by
   unfold ixF at h ⊢
   cases hf:(liveT now l).findIdx? (findP kind key) with
   | none=>rw [hf] at h; exact absurd dC h
   | some k=>exact ⟨k,rfl,(List.findIdx?_eq_some_iff_getElem.1 hf).1⟩
  rw [hk] at c2 ⊢
  rw [Int.toNat_natCast]
  clear h hk
  refine zg [(1,{cs:=[(2,pc c1)]}),(2,{cs:=[(3,pc c2)]})] [false] [decide ((k:Int)<0)=false,(0:Int)≤(k:Int)∧(k:Int)<(↑(liveT now l).length:Int)] ⟨rfl,(show (0:Int)≤(↑k:Int)∧(↑k:Int)<(↑(liveT now l).length:Int) from oM)⟩ ?_
  exact zr
theorem ix_lt {α:Type} {p:α→Bool} {l:List α} {k:Nat} (h:ixF p l=(k:Int)):k<l.length:=by
 unfold ixF at h
 cases hf:l.findIdx? p with
 | none=>rw [hf] at h; simp only at h; omega
 | some j=>rw [hf] at h; have:=(List.findIdx?_eq_some_iff_getElem.1 hf).1; simp only at h; omega
def takeT (l:List RcT) (now:Int) (k:Nat):List RcT:=(liveT now l).take k++(liveT now l).drop (k+1)
def changeT (l:List RcT) (now:Int) (k:Nat) (r:RcT):List RcT:=(liveT now l).set k r
theorem take_D (v:List RcT) (k:Nat) (hk:k≤v.length):EqvD (.c (.sl 15 (k-0) (fun i j=>rowF encRc .nil v (0+i) j))) (.c (.sl 15 k (rowF encRc .nil (v.take k)))):=by
 refine EqvD.sl oM fun i hi j hj => ?_
 have hik:i<k:=by omega
 unfold rowF
 rw [Nat.zero_add]
 simp [List.getD,List.getElem?_take,hik]
theorem drop_D (v:List RcT) (k:Nat):EqvD (.c (.sl 15 (v.length-(k+1)) (fun i j=>rowF encRc .nil v (k+1+i) j))) (.c (.sl 15 (v.length-(k+1)) (rowF encRc .nil (v.drop (k+1))))):=by
 refine EqvD.sl rfl fun i hi j hj => ?_
 unfold rowF
 simp [List.getD]
theorem zero_blk (v:List RcT) (n:Nat):BlkEqv (.row 37 15 (0+n) (catF 0 (fun i j=>nthD [] (i*15+j)) (rowF encRc .nil v))) (.row 37 15 (0+n) (rowF encRc .nil v)):=by
 refine BlkEqv.row_ext rfl fun i hi j hj => ?_
 unfold catF
 rw [if_neg oM,Nat.sub_zero]
theorem take19_ok (l:List RcT) (now kind key:Int) (k:Nat) (hl:l.length≤100000) (hk:ixF (findP kind key) (liveT now l)=(k:Int)):Pur Tryz.prog G 41 [.c (rcS l),.c (.int .i64 now),.c (.int .i64 kind),.c (.int .i64 key)] [.c (rcS (takeT l now k)),.agg (encRc ((liveT now l).getD k .nil)),.c (.bool true)]:=by
 refine zp Tryz.func41 ?_
 have hll:=live_len now l
 have hkl:=ix_lt hk
 have c1:=live19_ok (G:=G) l now oM
 have c2:=at19_ok (G:=G) (liveT now l) kind key oM
 rw [hk] at c2
 unfold takeT
 generalize liveT now l=v at *
 have t1:decide ((k:Int)<0)=false:=decide_eq_false (by omega)
 obtain ⟨m,hm⟩:∃ m,m=v.length-(k+1):=⟨_,rfl⟩
 have e1:=take_D v k oM
 have e2:EqvD (.c (.sl 15 (v.length-(k+1)) (fun i j=>rowF encRc .nil v (k+1+i) j))) (.c (.sl 15 m (rowF encRc .nil (v.drop (k+1))))):=by rw [hm];exact drop_D v k
 have e3:=zero_blk (v.take k) k
 have e4:BlkEqv (.row 37 15 (0+k+m) (catF (0+k) (rowF encRc .nil (v.take k)) (rowF encRc .nil (v.drop (k+1))))) (.row 37 15 (0+k+m) (rowF encRc .nil (v.take k++v.drop (k+1)))):=enc_cat _ _ (by rw [List.length_take];omega) (by rw [List.length_drop];exact hm)
 have e5:0+k+m=(v.take k++v.drop (k+1)).length:=by rw [List.length_append,List.length_take,List.length_drop];omega
 generalize v.take k++v.drop (k+1)=C at *
 generalize v.take k=A at *
 generalize v.drop (k+1)=B at *
 refine zg [(1,{cs:=[(2,pc c1)]}),(2,{cs:=[(3,pc c2)]}),(6,{fm:=[(3,.c (.sl 15 k (rowF encRc .nil A))),(8,.c (.sl 15 m (rowF encRc .nil B)))],bs:=[(4,.row 37 15 (0+k) (rowF encRc .nil A)),(9,.row 37 15 (0+k+m) (rowF encRc .nil C))]})] [false] [decide ((k:Int)<0)=false,(0:Int)≤(k:Int)∧(k:Int)<(v.length:Int),EqvI (.c (.sl 15 (k-0) (fun i j=>rowF encRc .nil v (0+i) j))) (.c (.sl 15 k (rowF encRc .nil A))),type_of% e1,(0:Int)≤(0:Int)∧(0:Int)≤(k:Int)∧(k:Int)≤(v.length:Int),(0+k)*176≤140737488355328,type_of% e3,0≤0,inR .i64 ((k:Int)+1),EqvI (.c (.sl 15 (v.length-(k+1)) (fun i j=>rowF encRc .nil v (k+1+i) j))) (.c (.sl 15 m (rowF encRc .nil B))),type_of% e2,(0:Int)≤(k:Int)+1∧(k:Int)+1≤(v.length:Int)∧(v.length:Int)≤(v.length:Int),(0+k+m)*176≤140737488355328,type_of% e4,0+k≤0+k] ⟨aS,oM,fun _ _=>trivial,e1,oM,oM,e3,Nat.le_refl _,i6,fun _ _=>trivial,e2,oM,oM,e4,Nat.le_refl _⟩ ?_
 refine Wp.ent' kR (Ent.pubT (t:=8) (e:=37) (sz:=15) (id:=464) (off:=0) (m:=0+k+m) (n:=0+k+m) (f:=rowF encRc .nil C) (m':=C.length) (f':=rowF encRc .nil C) kR kR oM e5 (fun i _ j _=>by rw [Nat.zero_add]) rfl) ?_
 exact zr
theorem change19_ok (l:List RcT) (now:Int) (r:RcT) (k:Nat) (hl:l.length≤100000) (hk:ixF (findP r.kind r.key) (liveT now l)=(k:Int)):Pur Tryz.prog G 43 [.c (rcS l),.c (.int .i64 now),.agg (encRc r)] [.c (rcS (changeT l now k r)),.c (.bool true)]:=by
 refine zp Tryz.func43 ?_
 have hll:=live_len now l
 have hkl:=ix_lt hk
 have c1:=live19R_ok (G:=G) l now oM
 have c2:=at19_ok (G:=G) (liveT now l) r.kind r.key oM
 rw [hk] at c2
 unfold changeT
 generalize liveT now l=v at *
 have t1:decide ((k:Int)<0)=false:=decide_eq_false (by omega)
 have e1:BlkEqv (.row 37 15 v.length (rowSet (rowF encRc .nil v) (0+k) 0 15 (encRc r))) (.row 37 15 v.length (rowF encRc .nil (v.set k r))):=enc_set v r rfl hkl
 refine Wp.go (mx:=true) (fun _=>mixed) [(5,{bs:=[(4,Blk.row 37 15 v.length (rowF encRc .nil (v.set k r)))]}),(1,{cs:=[(2,cb [] c1)]}),(2,{cs:=[(5,lc [80] [Blk.row 37 (15:Nat) v.length (rowF encRc RcT.nil v)] [V1.c (Cell.row (15:Nat) (0:Nat) (0:Nat) v.length),V1.c (Cell.int .i64 r.kind),V1.c (Cell.int .i64 r.key)] c2 (by kernel_rfl) (by kernel_rfl) (by kernel_rfl) (show (0:Nat)+v.length≤v.length from (by omega)))]})] 100 [false] [decide ((↑k:Int)<(0:Int))=false,(0:Int)≤(↑k:Int)∧(↑k:Int)<(↑v.length:Int),BlkEqv (Blk.row 37 (15:Nat) v.length fun (i j:Nat)=>if i=(0:Nat)+k∧(0:Nat)≤j∧j<(15:Nat) then nthD (V1.agg (V1.agg (encRc r)).cells).cells (j-(0:Nat)) else rowF encRc RcT.nil v i j) (Blk.row 37 (15:Nat) v.length (rowF encRc RcT.nil (v.set k r))),(0:Nat)+k<v.length] (by kernel_rfl) (by kernel_rfl) (by kernel_rfl) ⟨rfl,(by omega),(by assumption),(show (0:Nat)+k<v.length from (by omega))⟩ ?_
 refine Wp.ent' kR (Ent.pubT (t:=6) (e:=37) (sz:=(15:Nat)) (id:=80) (off:=(0:Nat)) (m:=v.length) (n:=v.length) (f:=rowF encRc RcT.nil (v.set k r)) (m':=(v.set k r).length) (f':=rowF encRc RcT.nil (v.set k r)) kR kR oM (by simp) (fun i _ j _=>by rw [Nat.zero_add]) rfl) ?_
 exact zr
theorem ix_is {α:Type} {p:α→Bool} {l:List α} {k:Nat} (d:α) (h:ixF p l=(k:Int)):p (l.getD k d)=true∧∀ i,i<k→p (l.getD i d)=false:=by
 unfold ixF at h
 cases hf:l.findIdx? p with
 | none=>rw [hf] at h; simp only at h; omega
 | some j =>
  rw [hf] at h
  obtain rfl:j=k:=by simp only at h;omega
  obtain ⟨hl,h1,h2⟩:=List.findIdx?_eq_some_iff_getElem.1 hf
  refine ⟨by simpa [List.getD,hl] using h1,fun i hi => ?_⟩
  have:=h2 i hi
  have hil:i<l.length:=by omega
  simpa [List.getD,hil] using this
theorem putI_len (l:List RcT) (now:Int) (r:RcT):(putS l now r).1.length≤l.length+1:=by
 unfold putS
 have:=live_len now l
 split
 ·exact Nat.le_succ _
 split
 ·exact Nat.le_succ _
 split
 ·exact Nat.le_succ _
 ·simp only [List.length_append,List.length_cons,List.length_nil];omega
theorem takeT_len (l:List RcT) (now:Int) (k:Nat):(takeT l now k).length≤l.length:=by
 have:=live_len now l
 unfold takeT;rw [List.length_append,List.length_take,List.length_drop];omega
theorem findT_at {l:List RcT} {now kind key:Int} {k:Nat} (h:ixF (findP kind key) (liveT now l)=(k:Int)):findT l now kind key=((liveT now l).getD k .nil,true):=by
 unfold findT;rw [h,if_neg oM,Int.toNat_natCast]
theorem clFind17_ok (l:List ClT) (id:List UInt8) (k:Nat) (hl:l.length≤1000000) (hk:ixF (fun c:ClT=>c.id==id) l=(k:Int)):Pur Tryz.prog G 40 [.c (clS l),.c (.str id)] [.c (.int .i64 ((k:Int)+1)),.c (.bool true)]:=by
 refine zp Tryz.func40 ?_
 have hkl:=ix_lt hk
 obtain ⟨p1,p2⟩:=ix_is ClT.nil hk
 refine z0 [] [] ?_
 refine zl (fun (i:Nat)=>⟨[(0,.v (.c (clS l))),(1,.v (.c (.str id))),(4,.v (.c (.int .i64 0))),(5,.v (.c (.bool false))),(6,.v (.c (.int .i64 (i:Int))))],[],48⟩) (fun i=>i≤k) (fun i=>k-i) 0 (Nat.zero_le _) ?_
 intro i L hi again
 rcases Nat.lt_or_ge i k with hlt | hge
 ·have q:((l.getD i .nil).id==id)=false:=p2 i hlt
  clear p1 p2
  refine zg [] [true,false] [decide ((i:Int)<(l.length:Int))=true,(0:Int)≤(i:Int)∧(i:Int)<(l.length:Int),((l.getD i .nil).id==id)=false,inR .i64 ((i:Int)+1)] ⟨sO,oM,aS,i6⟩ ?_
  exact za [] (again _ (i+1) aS oM)
 ·obtain rfl:i=k:=by omega
  clear p2
  refine zg [] [true,true] [decide ((i:Int)<(l.length:Int))=true,(0:Int)≤(i:Int)∧(i:Int)<(l.length:Int),((l.getD i .nil).id==id)=true,inR .i64 ((i:Int)+1)] ⟨sO,oM,aS,i6⟩ ?_
  exact zr
def nextS (src:SoT):SoT:=⟨src.n+1,src.conn,src.now⟩
def sessR (key now:Int):RcT:=⟨2,key,now+900,false,0,0,0,0,.nil⟩
def doorR (key now client sess:Int) (w:WT):RcT:=⟨3,key,now+120,false,client,0,sess,0,w⟩
def enterL (l:List RcT) (src:SoT) (k:Nat) (n:Int):List RcT :=
 (putS (putS (takeT l src.now k) src.now (sessR src.n src.now)).1 src.now (doorR (src.n+1) src.now n src.n ((liveT src.now l).getD k .nil).w)).1
theorem enter_ok (s:StT) (src:SoT) (sess:Int) (id:List UInt8) (key:Int) (c k:Nat) (hs:FitS s) (hr:s.recs.length≤1000) (hf:FitR src) (hn:src.n≤1000000)
  (hc:ixF (fun c:ClT=>c.id==id) s.cls=(c:Int)) (hk:ixF (findP 1 key) (liveT src.now s.recs)=(k:Int)) (hcl:((liveT src.now s.recs).getD k .nil).client=(c:Int)+1)
  (h3:findT (takeT s.recs src.now k) src.now 2 sess=(.nil,false)) (h4:(roomK (takeT s.recs src.now k) src.now 2==0)=false) (h5:(roomK (putS (takeT s.recs src.now k) src.now (sessR src.n src.now)).1 src.now 3==0)=false) :
  Pur Tryz.prog G 17 [.agg (encSt s),.agg (encSo src),.c (.int .i64 sess),.c (.str id),.c (.int .i64 key)] [.agg (encSt { s with recs:=enterL s.recs src k ((c:Int)+1) }),.agg (encSo ⟨src.n+1+1,src.conn,src.now⟩),.c (.int .i64 src.n),.c (.int .i64 (src.n+1)),.c (.int .i64 0)]:=by
 refine zp Tryz.func17 ?_
 have hn0:=hf.n
 have hw0:=hf.now0
 have hw1:=hf.now1
 have hcc:=hs.cls
 have c1:=clFind17_ok (G:=G) s.cls id c oM hc
 have c2:=find19_ok (G:=G) s.recs src.now 1 key oM
 rw [findT_at hk] at c2
 have c3:=take19_ok (G:=G) s.recs src.now 1 key k oM hk
 have l1:=takeT_len s.recs src.now k
 have c4:=find19_ok (G:=G) (takeT s.recs src.now k) src.now 2 sess oM
 rw [h3] at c4
 have c5:Pur Tryz.prog G 35 [.agg (encSo src)] [.c (.int .i64 src.n),.agg (encSo (nextS src)),.c (.bool true)]:=nonce5_ok src oM hn0
 have c6:=room19_ok (G:=G) (takeT s.recs src.now k) src.now 2 oM
 have c7:=life19A_ok (G:=G) 2
 have c8:Pur Tryz.prog G 38 [.c (.int .i64 src.now),.c (.int .i64 900)] [.c (.int .i64 (src.now+900))]:=until5_ok src.now 900 hw0 hw1 dC dC
 have c9:=put19_ok (G:=G) (takeT s.recs src.now k) src.now (sessR src.n src.now) oM
 have l2:=putI_len (takeT s.recs src.now k) src.now (sessR src.n src.now)
 have d5:Pur Tryz.prog G 35 [.agg (encSo (nextS src))] [.c (.int .i64 (src.n+1)),.agg (encSo (nextS (nextS src))),.c (.bool true)]:=nonce5_ok (nextS src) (by show src.n+1≤1073741824;omega) (by show -1000000000000≤src.n+1;omega)
 have d6:=room19_ok (G:=G) (putS (takeT s.recs src.now k) src.now (sessR src.n src.now)).1 src.now 3 oM
 have d7:=life19A_ok (G:=G) 3
 have d8:Pur Tryz.prog G 38 [.c (.int .i64 src.now),.c (.int .i64 120)] [.c (.int .i64 (src.now+120))]:=until5_ok src.now 120 hw0 hw1 dC dC
 have d9:=put19_ok (G:=G) (putS (takeT s.recs src.now k) src.now (sessR src.n src.now)).1 src.now (doorR (src.n+1) src.now ((c:Int)+1) src.n ((liveT src.now s.recs).getD k .nil).w) oM
 have t1:(((liveT src.now s.recs).getD k .nil).client != (c:Int)+1)=false:=by rw [hcl];simp
 unfold enterL
 generalize (liveT src.now s.recs).getD k .nil=r at *
 generalize takeT s.recs src.now k=v1 at *
 generalize (putS v1 src.now (sessR src.n src.now))=p2 at *
 obtain ⟨v2,e2⟩:=p2
 generalize roomK v1 src.now 2=ro1 at *
 generalize roomK v2 src.now 3=ro2 at *
 refine zg [(1,{cs:=[(3,pc c1)]}),(4,{cs:=[(5,pc c2)]}),(7,{cs:=[(5,pc c3)]}),(9,{cs:=[(4,pc c4)]}),(11,{cs:=[(1,pc c5)]}),(12,{cs:=[(6,pc c6)]}),(14,{cs:=[(6,pc c7),(7,pc c8),(9,pc c9)]}),(15,{cs:=[(1,pc d5)]}),(16,{cs:=[(6,pc d6)]}),(18,{cs:=[(6,pc d7),(7,pc d8),(13,pc d9)]})] [false,false,true,false,false] [(!true)=false,(bif !true then true else r.client != (c:Int)+(1:Int))=false,(!false)=true,(bif !true then true else ro1==(0:Int))=false,(bif !true then true else ro2==(0:Int))=false] ⟨rfl,aS,rfl,aS,(show (bif !true then true else ro2==(0:Int))=false from aS)⟩ ?_
 exact zr
theorem both_ok (s:StT) (now sess door:Int) (a b:Nat) (hr:s.recs.length≤1000) (ha:ixF (findP 2 sess) (liveT now s.recs)=(a:Int)) (hb:ixF (findP 3 door) (liveT now s.recs)=(b:Int)) (hs:((liveT now s.recs).getD b .nil).sess=sess) :
  Pur Tryz.prog G 42 [.agg (encSt s),.c (.int .i64 now),.c (.int .i64 sess),.c (.int .i64 door)] [.agg (encRc ((liveT now s.recs).getD a .nil)),.agg (encRc ((liveT now s.recs).getD b .nil)),.c (.bool true)]:=by
 refine zp Tryz.func42 ?_
 have c1:=find19_ok (G:=G) s.recs now 2 sess oM
 rw [findT_at ha] at c1
 have c2:=find19_ok (G:=G) s.recs now 3 door oM
 rw [findT_at hb] at c2
 generalize (liveT now s.recs).getD a .nil=x at *
 generalize (liveT now s.recs).getD b .nil=y at *
 subst hs
 refine z0 [(1,{cs:=[(4,pc c1)]}),(2,{cs:=[(4,pc c2)]})] [] ?_
 exact zS [.agg (encRc x),.agg (encRc y),.c (.bool (bif bif true then true else false then y.sess==y.sess else false))] (by simp [encRc];done)
theorem login_ok (s:StT) (now sess door:Int) (user pass:List UInt8) (a b i:Nat) (hs:FitS s) (hr:s.recs.length≤1000) (ha:ixF (findP 2 sess) (liveT now s.recs)=(a:Int)) (hb:ixF (findP 3 door) (liveT now s.recs)=(b:Int)) (hse:((liveT now s.recs).getD b .nil).sess=sess)
  (hu:ixF (fun u:UsT=>u.name==user) s.usr=(i:Int)) (hp0:0≤(s.usr.getD i .nil).pass) (hp1:(s.usr.getD i .nil).pass≤1073741824) (hp:pass=keyT (s.usr.getD i .nil).pass) :
  Pur Tryz.prog G 18 [.agg (encSt s),.c (.int .i64 now),.c (.int .i64 sess),.c (.int .i64 door),.c (.str user),.c (.str pass)] [.agg (encSt { s with recs:=changeT s.recs now a { (liveT now s.recs).getD a .nil with user:=(i:Int)+1 } }),.c (.int .i64 0)]:=by
 refine Pur.of Tryz.func18 (by kernel_rfl) (by kernel_rfl) (by kernel_rfl) ?_
 have hul:=ix_lt hu
 have huc:=hs.usr
 obtain ⟨p1,p2⟩:=ix_is UsT.nil hu
 have c1:=both_ok (G:=G) s now sess door a b hr ha hb hse
 have hq:=(ix_is RcT.nil ha).1
 have hk1:((liveT now s.recs).getD a .nil).kind=2∧((liveT now s.recs).getD a .nil).key=sess:=by
  unfold findP at hq
  revert hq
  cases h:(((liveT now s.recs).getD a .nil).kind==2)<;>simp_all
 have c3:=change19_ok (G:=G) s.recs now { (liveT now s.recs).getD a .nil with user:=(i:Int)+1 } a (by omega) (by show ixF (findP ((liveT now s.recs).getD a .nil).kind ((liveT now s.recs).getD a .nil).key) _=_;rw [hk1.1,hk1.2];exact ha)
 have c2:=Key_ok (G:=G) (s.usr.getD i .nil).pass hp0 hp1
 have t1:(!(pass==keyT (s.usr.getD i .nil).pass))=false:=by rw [hp];simp
 clear hq hk1 hp ha hb hse hu
 generalize hx:(liveT now s.recs).getD a .nil=x at *
 generalize (liveT now s.recs).getD b .nil=y at *
 refine Wp.go (mx:=true) (fun _=>mixed) [(1,{cs:=[(4,pc c1)]})] 100 [false] [(!true)=false] (by kernel_rfl) (by kernel_rfl) (by kernel_rfl) rfl ?_
 refine zl (fun (j:Nat)=>⟨[(1,.v (.c (.int .i64 now))),(4,.v (.c (.str user))),(5,.v (.c (.str pass))),(6,.v (.c (.ptr 0 (0:Nat)))),(12,.v (.c (.ptr 16 (0:Nat)))),(14,.v (.c (.ptr (192:Nat) (0:Nat)))),(17,.v (.c (.int .i64 (j:Int))))],[(0,.box 28 [.str s.name,.int .i64 s.key,.sl (4:Nat) s.cls.length (rowF encCl ClT.nil s.cls),.sl (2:Nat) s.usr.length (rowF encUs UsT.nil s.usr),.sl (15:Nat) s.recs.length (rowF encRc RcT.nil s.recs)]),(16,.box 28 [.str [],.int .i64 (0:Int),.nilsl,.nilsl,.nilsl]),(192,.box 37 (encRc x)),(208,.box 37 (encRc y))],320⟩) (fun j=>j≤i) (fun j=>i-j) 0 (Nat.zero_le _) ?_
 intro j L hj again
 have q0:decide ((j:Int)<(s.usr.length:Int))=true:=decide_eq_true oM
 rcases Nat.lt_or_ge j i with hlt | hge
 ·have q:(!((s.usr.getD j .nil).name==user))=true:=by rw [p2 j hlt];rfl
  clear p1 p2 t1
  refine zg [] [true] [decide ((j:Int)<(s.usr.length:Int))=true→(0:Int)≤(j:Int)∧(j:Int)<(s.usr.length:Int),(bif decide ((j:Int)<(s.usr.length:Int)) then !(s.usr.getD j .nil).name==user else false)=true,inR .i64 ((j:Int)+1)] ⟨oM,(by simp_all<;>omega),i6⟩ ?_
  exact za [] (again _ (j+1) aS oM)
 ·obtain rfl:j=i:=by omega
  have q:(!((s.usr.getD j .nil).name==user))=false:=by rw [p1];rfl
  have q1:((j:Int)==(s.usr.length:Int))=false:=by simp;omega
  clear p1 p2
  generalize keyT (s.usr.getD j .nil).pass=ky at *
  generalize changeT s.recs now a { x with user:=(j:Int)+1 }=cg at *
  refine zg [(7,{cs:=[(13,pc c2)]}),(10,{cs:=[(4,pc c3)]})] [false,false] [decide ((j:Int)<(s.usr.length:Int))=true→(0:Int)≤(j:Int)∧(j:Int)<(s.usr.length:Int),(bif decide ((j:Int)<(s.usr.length:Int)) then !(s.usr.getD j .nil).name==user else false)=false,((j:Int)==(s.usr.length:Int))=false→(0:Int)≤(j:Int)∧(j:Int)<(s.usr.length:Int),(bif (j:Int)==(s.usr.length:Int) then true else !pass==ky)=false,inR .i64 ((j:Int)+1)] ⟨oM,(by simp_all<;>omega),oM,(by simp_all<;>omega),i6⟩ ?_
  exact zr
def codeR (key now client user sess:Int) (w:WT):RcT:=⟨4,key,now+40,false,client,user,sess,key,w⟩
theorem agree_ok (s:StT) (src:SoT) (sess door:Int) (a b:Nat) (hs:FitS s) (hr:s.recs.length≤1000) (hf:FitR src) (hn:src.n≤1000000)
  (ha:ixF (findP 2 sess) (liveT src.now s.recs)=(a:Int)) (hb:ixF (findP 3 door) (liveT src.now s.recs)=(b:Int)) (hse:((liveT src.now s.recs).getD b .nil).sess=sess) (hu:(((liveT src.now s.recs).getD a .nil).user==0)=false)
  (hro:(roomK (takeT s.recs src.now b) src.now 4==0)=false) :
  Pur Tryz.prog G 20 [.agg (encSt s),.agg (encSo src),.c (.int .i64 sess),.c (.int .i64 door),.c (.bool true)] [.agg (encSt { s with recs:=(putS (takeT s.recs src.now b) src.now (codeR src.n src.now ((liveT src.now s.recs).getD b .nil).client ((liveT src.now s.recs).getD a .nil).user ((liveT src.now s.recs).getD b .nil).sess ((liveT src.now s.recs).getD b .nil).w)).1 }),.agg (encSo ⟨src.n+1,src.conn,src.now⟩),.agg (encRc ((liveT src.now s.recs).getD b .nil)),.c (.int .i64 src.n),.c (.int .i64 0)]:=by
 refine zp Tryz.func20 ?_
 have hn0:=hf.n
 have hw0:=hf.now0
 have hw1:=hf.now1
 have c1:=both_ok (G:=G) s src.now sess door a b hr ha hb hse
 have c3:=take19_ok (G:=G) s.recs src.now 3 door b oM hb
 have l1:=takeT_len s.recs src.now b
 have c5:Pur Tryz.prog G 35 [.agg (encSo src)] [.c (.int .i64 src.n),.agg (encSo (nextS src)),.c (.bool true)]:=nonce5_ok src oM hn0
 have c6:=room19_ok (G:=G) (takeT s.recs src.now b) src.now 4 oM
 have c7:=life19A_ok (G:=G) 4
 have c8:Pur Tryz.prog G 38 [.c (.int .i64 src.now),.c (.int .i64 40)] [.c (.int .i64 (src.now+40))]:=until5_ok src.now 40 hw0 hw1 dC dC
 have c9:=put19_ok (G:=G) (takeT s.recs src.now b) src.now (codeR src.n src.now ((liveT src.now s.recs).getD b .nil).client ((liveT src.now s.recs).getD a .nil).user ((liveT src.now s.recs).getD b .nil).sess ((liveT src.now s.recs).getD b .nil).w) oM
 clear ha hb
 generalize (liveT src.now s.recs).getD a .nil=x at *
 generalize (liveT src.now s.recs).getD b .nil=y at *
 generalize takeT s.recs src.now b=v1 at *
 generalize roomK v1 src.now 4=ro1 at *
 generalize putS v1 src.now (codeR src.n src.now y.client x.user y.sess y.w)=p2 at *
 obtain ⟨v2,e2⟩:=p2
 refine zg [(1,{cs:=[(5,pc c1)]}),(6,{cs:=[(5,pc c3)]}),(10,{cs:=[(1,pc c5)]}),(11,{cs:=[(6,pc c6)]}),(13,{cs:=[(6,pc c7),(7,pc c8),(18,pc c9)]})] [false,false,false,false] [(!true)=false,(x.user==(0:Int))=false,(!true)=false,(bif !true then true else ro1==(0:Int))=false] ⟨rfl,aS,rfl,(show (bif !true then true else ro1==(0:Int))=false from aS)⟩ ?_
 exact zr
def sel2 (i a b:Nat):Nat:=match i with
 | 0=>a
 | _+1=>b
def cloG (f:FuncId) (g:Nat→Nat):Cell := .clo f 2 (fun _=>none) (fun i _ => .ptr (g i) 0)
theorem cloG_D (f:FuncId) (g:Nat→Nat) (x y:Nat) (hx:g 0=x) (hy:g 1=y):EqvD (.c (cloRaw f [.c (.ptr x 0),.c (.ptr y 0)])) (.c (cloG f g)):=by
 intro D ρ u h
 obtain ⟨vs,e,hs,hv⟩:=(h:Den D ρ (cloRaw f [.c (.ptr x 0),.c (.ptr y 0)]) u)
 refine (⟨vs,e,hs,fun i hi => ?_⟩:Den D ρ (cloG f g) u)
 subst hx;subst hy
 match i,hi with
 | 0,_=>exact hv 0 (by show 0<2; decide)
 | 1,_=>exact hv 1 (by show 1<2; decide)
 | i+2,hi=>omega
theorem cloG_I (f:FuncId) (g:Nat→Nat) (x y:Nat) (hx:g 0=x) (hy:g 1=y):EqvI (.c (cloRaw f [.c (.ptr x 0),.c (.ptr y 0)])) (.c (cloG f g)):=by
 intro S h i hi
 subst hx;subst hy
 match i,hi with
 | 0,_=>exact h 0 (by show 0<2; decide)
 | 1,_=>exact h 1 (by show 1<2; decide)
 | i+2,hi=>omega
theorem at1_ok (kind key:Int) (r:RcT):FnB Tryz.prog G 113 [bxN kind,bxN key] [.agg (encRc r),.c (.ptr 0 0),.c (.ptr 1 0)] [.c (.bool (findP kind key r))] [(0,bxN kind),(1,bxN key)]:=by
 refine zf Tryz.func113 ?_
 refine z0 [] [] ?_
 exact zb []
theorem idx2_ok (kind key:Int) (l:List RcT) (hl:l.length≤1000000):FnB Tryz.prog G 112 [bxN kind,bxN key] [.c (rcS l),.c (cloG 113 (fun i=>sel2 i 0 1))] [.c (.int .i64 (ixF (findP kind key) l))] [(0,bxN kind),(1,bxN key)]:=by
 refine zf Tryz.func112 ?_
 refine z0 [] [] ?_
 refine zl (fun (k:Nat)=>⟨[(0,.v (.c (rcS l))),(1,.v (.c (cloG 113 (fun i=>sel2 i 0 1)))),(7,.v (.c (.int .i64 (l.length:Int)))),(8,.v (.c (.int .i64 (k:Int))))],[(0,bxN kind),(1,bxN key)],66⟩) (fun k=>k≤l.length∧∀ i,i<k→findP kind key (l.getD i .nil)=false) (fun k=>l.length-k) 0 ⟨Nat.zero_le _,fun _ h=>absurd h (Nat.not_lt_zero _)⟩ ?_
 intro k L ⟨hk,hall⟩ again
 rcases Nat.lt_or_ge k l.length with hlt | hge
 ·have c:=at1_ok (G:=G) kind key (l.getD k .nil)
  cases hq:findP kind key (l.getD k .nil) with
  | true =>
   rw [hq] at c
   rw [ixF_some (p:=findP kind key) (d:=RcT.nil) hlt hall hq]
   clear hall hq
   refine zg [(4,{cs:=[(5,cb [0,1] c)]})] [true,true] [decide ((k:Int)<(l.length:Int))=true,(0:Int)≤(k:Int)∧(k:Int)<(l.length:Int),true=true] ⟨sO,oM,rfl⟩ ?_
   exact zb []
  | false =>
   rw [hq] at c
   have hall':∀ i,i<k+1→findP kind key (l.getD i .nil)=false:=fun i hi=>by
    rcases Nat.lt_or_ge i k with h | h
    ·exact hall i h
    ·rw [show i=k by omega];exact hq
   clear hall hq
   refine zg [(4,{cs:=[(5,cb [0,1] c)]})] [true,false] [decide ((k:Int)<(l.length:Int))=true,(0:Int)≤(k:Int)∧(k:Int)<(l.length:Int),false=false,inR .i64 ((k:Int)+1)] ⟨sO,oM,rfl,i6⟩ ?_
   exact za [] (again _ (k+1) ⟨aS,aS⟩ oM)
 ·rw [ixF_none (p:=findP kind key) (d:=RcT.nil) (fun i hi=>hall i oM)]
  clear hall
  refine zg [] [false] [decide ((k:Int)<(l.length:Int))=false] (oN sO) ?_
  exact zb []
theorem at_ok (l:List RcT) (kind key:Int) (hl:l.length≤1000000):Pur Tryz.prog G 90 [.c (rcS l),.c (.int .i64 kind),.c (.int .i64 key)] [.c (.int .i64 (ixF (findP kind key) l))]:=by
 refine zp Tryz.func90 ?_
 have c:=idx2_ok (G:=G) kind key l hl
 generalize ixF (findP kind key) l=x at *
 have f1:=cloG_I 113 (fun i=>sigIn [0,16] (sel2 i 0 1)) 0 16 rfl rfl
 have f2:=cloG_D 113 (fun i=>sigIn [0,16] (sel2 i 0 1)) 0 16 rfl rfl
 refine zg [(1,{cs:=[(2,cb [0,16] c)],fm:=[(1,.c (cloG 113 (fun i=>sigIn [0,16] (sel2 i 0 1))))]})] [] [type_of% f1,type_of% f2] ⟨f1,f2⟩ ?_
 exact zr
theorem storeFind_ok (l:List RcT) (now kind key:Int) (hl:l.length≤1000000):Pur Tryz.prog G 75 [.c (rcS l),.c (.int .i64 now),.c (.int .i64 kind),.c (.int .i64 key)] [.agg (encRc (findT l now kind key).1),.c (.bool (findT l now kind key).2)]:=by
 refine zp Tryz.func75 ?_
 have c1:=live_ok (G:=G) l now oM
 have hll:=live_len now l
 have c2:=at_ok (G:=G) (liveT now l) kind key oM
 unfold findT
 by_cases h:ixF (findP kind key) (liveT now l)<0
 ·rw [if_pos h]
  have t1:decide (ixF (findP kind key) (liveT now l)<0)=true:=decide_eq_true h
  clear h
  generalize ixF (findP kind key) (liveT now l)=x at *
  refine zg [(1,{cs:=[(2,pc c1)]}),(2,{cs:=[(3,pc c2)]})] [true] [decide (x<(0:Int))=true] (oN aS) ?_
  exact zr
 ·rw [if_neg h]
  obtain ⟨k,hk⟩:∃ k:Nat,ixF (findP kind key) (liveT now l)=(k:Int):=by
   unfold ixF at h ⊢
   cases hf:(liveT now l).findIdx? (findP kind key) with
   | none=>rw [hf] at h; exact absurd dC h
   | some k=>exact ⟨k,rfl⟩
  have hkl:=ix_lt hk
  rw [hk] at c2 ⊢
  rw [Int.toNat_natCast]
  clear h hk
  refine zg [(1,{cs:=[(2,pc c1)]}),(2,{cs:=[(3,pc c2)]})] [false] [decide ((k:Int)<0)=false,(0:Int)≤(k:Int)∧(k:Int)<(↑(liveT now l).length:Int)] ⟨rfl,(show (0:Int)≤(↑k:Int)∧(↑k:Int)<(↑(liveT now l).length:Int) from oM)⟩ ?_
  exact zr
theorem storeChange_ok (l:List RcT) (now:Int) (r:RcT) (k:Nat) (hl:l.length≤100000) (hk:ixF (findP r.kind r.key) (liveT now l)=(k:Int)):Pur Tryz.prog G 73 [.c (rcS l),.c (.int .i64 now),.agg (encRc r)] [.c (rcS (changeT l now k r)),.c (.bool true)]:=by
 refine zp Tryz.func73 ?_
 have hll:=live_len now l
 have hkl:=ix_lt hk
 have c1:=liveR_ok (G:=G) l now oM
 have c2:=at_ok (G:=G) (liveT now l) r.kind r.key oM
 rw [hk] at c2
 unfold changeT
 generalize liveT now l=v at *
 have t1:decide ((k:Int)<0)=false:=decide_eq_false (by omega)
 have e1:BlkEqv (.row 37 15 v.length (rowSet (rowF encRc .nil v) (0+k) 0 15 (encRc r))) (.row 37 15 v.length (rowF encRc .nil (v.set k r))):=enc_set v r rfl hkl
 refine Wp.go (mx:=true) (fun _=>mixed) [(5,{bs:=[(4,Blk.row 37 15 v.length (rowF encRc .nil (v.set k r)))]}),(1,{cs:=[(2,cb [] c1)]}),(2,{cs:=[(5,lc [80] [Blk.row 37 (15:Nat) v.length (rowF encRc RcT.nil v)] [V1.c (Cell.row (15:Nat) (0:Nat) (0:Nat) v.length),V1.c (Cell.int .i64 r.kind),V1.c (Cell.int .i64 r.key)] c2 (by kernel_rfl) (by kernel_rfl) (by kernel_rfl) (show (0:Nat)+v.length≤v.length from (by omega)))]})] 100 [false] [decide ((↑k:Int)<(0:Int))=false,(0:Int)≤(↑k:Int)∧(↑k:Int)<(↑v.length:Int),BlkEqv (Blk.row 37 (15:Nat) v.length fun (i j:Nat)=>if i=(0:Nat)+k∧(0:Nat)≤j∧j<(15:Nat) then nthD (V1.agg (V1.agg (encRc r)).cells).cells (j-(0:Nat)) else rowF encRc RcT.nil v i j) (Blk.row 37 (15:Nat) v.length (rowF encRc RcT.nil (v.set k r))),(0:Nat)+k<v.length] (by kernel_rfl) (by kernel_rfl) (by kernel_rfl) ⟨rfl,(by omega),(by assumption),(show (0:Nat)+k<v.length from (by omega))⟩ ?_
 refine Wp.ent' kR (Ent.pubT (t:=6) (e:=37) (sz:=(15:Nat)) (id:=80) (off:=(0:Nat)) (m:=v.length) (n:=v.length) (f:=rowF encRc RcT.nil (v.set k r)) (m':=(v.set k r).length) (f':=rowF encRc RcT.nil (v.set k r)) kR kR oM (by simp) (fun i _ j _=>by rw [Nat.zero_add]) rfl) ?_
 exact zr
def numInvP (k:Int) (x:Nat×Nat×List UInt8):St:=match x.1 with
 | 0=>⟨[(0,TV.v (V1.c (Cell.row 1 0 0 x.2.1))),(1,TV.v (V1.c (Cell.int .i64 k))),(2,TV.v (V1.c (Cell.int .i64 4))),(8,TV.v (V1.c (Cell.int .i64 4))),(9,TV.v (V1.c (Cell.int .i64 (x.1:Int))))],[(0,Blk.row 5 1 x.2.1 (bytesF x.2.2))],49⟩
 | _+1=>⟨[(0,TV.v (V1.c (Cell.row 1 33 0 x.2.1))),(1,TV.v (V1.c (Cell.int .i64 k))),(2,TV.v (V1.c (Cell.int .i64 4))),(8,TV.v (V1.c (Cell.int .i64 4))),(9,TV.v (V1.c (Cell.int .i64 (x.1:Int))))],[(33,Blk.row 5 1 x.2.1 (bytesF x.2.2))],49⟩
theorem numP_ok (n:Nat) (l:List UInt8) (hn:n=l.length) (hm:n≤1000) (k:Int):FnB Tryz.prog G 162 [.row 5 1 n (bytesF l)] [.c (.row 1 0 0 n),.c (.int .i64 k),.c (.int .i64 4)] [.c (.row 1 1 0 (n+1+1+1+1))] [(1,.row 5 1 (n+1+1+1+1) (bytesF ((((l++[byteN k 0])++[byteN k 1])++[byteN k 2])++[byteN k 3])))]:=by
 refine zf Tryz.func162 ?_
 refine z0 [] [] ?_
 refine zl (numInvP k) (fun x=>x=(0,n,l)∨x=(1,n+1,(l++[byteN k 0]))∨x=(2,n+1+1,((l++[byteN k 0])++[byteN k 1]))∨x=(3,n+1+1+1,(((l++[byteN k 0])++[byteN k 1])++[byteN k 2]))∨x=(4,n+1+1+1+1,((((l++[byteN k 0])++[byteN k 1])++[byteN k 2])++[byteN k 3]))) (fun x=>4-x.1) (0,n,l) (Or.inl rfl) ?_
 intro x L hx again
 rcases hx with rfl | rfl | rfl | rfl | rfl
 ·have hl:n=(l).length:=by simp [hn]
  have e1:BlkEqv (.row 5 1 (n+1) (catF (n) (bytesF l) (fun i j=>nthD [.int .u8 (IntKind.u8.wrap (k.fdiv (2^(8*(3-0)))))] ((0+i)*1+j)))) (.row 5 1 (n+1) (bytesF (l++[byteN k 0]))):=by
   rw [byteN_eq k 0];exact bytes_app l [byteN k 0] hl
  have hnx:((1,n+1,(l++[byteN k 0])):Nat×Nat×List UInt8)=(1,n+1,(l++[byteN k 0])):=rfl
  refine zg [(4,{bs:=[(10,.row 5 1 (n+1) (bytesF (l++[byteN k 0])))]})] [true] [decide ((↑(0:Nat):Int)<(4:Int))=true,inR .i64 (4-1),inR .i64 ((4:Int)-(1:Int)-(↑(0:Nat):Int)),inR .i64 ((8:Int)*((4:Int)-(1:Int)-(↑(0:Nat):Int))),(0:Int)≤(8:Int)*((4:Int)-(1:Int)-(↑(0:Nat):Int)),(n+1)*1≤140737488355328,BlkEqv (.row 5 (1:Nat) (n+(1:Nat)) (catF n (bytesF l) fun i j=>nthD [.int .u8 (IntKind.u8.wrap (k.fdiv ((2:Int)^(24:Nat))))] (((0:Nat)+i)*(1:Nat)+j))) (.row 5 (1:Nat) (n+(1:Nat)) (bytesF (l++[byteN k (0:Nat)]))),n≤n,0+1≤1,inR .i64 ((↑(0:Nat):Int)+(1:Int))] ⟨rfl,i6,i6,i6,oM,oM,aS,oM,oM,i6⟩ ?_
  exact za [(33,257)] (again _ (1,n+1,(l++[byteN k 0])) (by simp;done) oM)
 ·have hl:n+1=((l++[byteN k 0])).length:=by simp [hn]
  have e1:BlkEqv (.row 5 1 (n+1+1) (catF (n+1) (bytesF (l++[byteN k 0])) (fun i j=>nthD [.int .u8 (IntKind.u8.wrap (k.fdiv (2^(8*(3-1)))))] ((0+i)*1+j)))) (.row 5 1 (n+1+1) (bytesF ((l++[byteN k 0])++[byteN k 1]))):=by
   rw [byteN_eq k 1];exact bytes_app (l++[byteN k 0]) [byteN k 1] hl
  have hnx:((2,n+1+1,((l++[byteN k 0])++[byteN k 1])):Nat×Nat×List UInt8)=(2,n+1+1,((l++[byteN k 0])++[byteN k 1])):=rfl
  refine zg [(4,{bs:=[(10,.row 5 1 (n+1+1) (bytesF ((l++[byteN k 0])++[byteN k 1])))]})] [true] [decide ((↑(1:Nat):Int)<(4:Int))=true,inR .i64 (4-1),inR .i64 ((4:Int)-(1:Int)-(↑(1:Nat):Int)),inR .i64 ((8:Int)*((4:Int)-(1:Int)-(↑(1:Nat):Int))),(0:Int)≤(8:Int)*((4:Int)-(1:Int)-(↑(1:Nat):Int)),(n+1+1)*1≤140737488355328,BlkEqv (.row 5 (1:Nat) (n+(1:Nat)+(1:Nat)) (catF (n+(1:Nat)) (bytesF (l++[byteN k (0:Nat)])) fun i j=>nthD [.int .u8 (IntKind.u8.wrap (k.fdiv ((2:Int)^(16:Nat))))] (((0:Nat)+i)*(1:Nat)+j))) (.row 5 (1:Nat) (n+(1:Nat)+(1:Nat)) (bytesF (l++[byteN k (0:Nat)]++[byteN k (1:Nat)]))),n+1≤n+1,0+1≤1,inR .i64 ((↑(1:Nat):Int)+(1:Int))] ⟨rfl,i6,i6,i6,oM,oM,aS,oM,oM,i6⟩ ?_
  exact za [(33,257)] (again _ (2,n+1+1,((l++[byteN k 0])++[byteN k 1])) (by simp;done) oM)
 ·have hl:n+1+1=(((l++[byteN k 0])++[byteN k 1])).length:=by simp [hn]
  have e1:BlkEqv (.row 5 1 (n+1+1+1) (catF (n+1+1) (bytesF ((l++[byteN k 0])++[byteN k 1])) (fun i j=>nthD [.int .u8 (IntKind.u8.wrap (k.fdiv (2^(8*(3-2)))))] ((0+i)*1+j)))) (.row 5 1 (n+1+1+1) (bytesF (((l++[byteN k 0])++[byteN k 1])++[byteN k 2]))):=by
   rw [byteN_eq k 2];exact bytes_app ((l++[byteN k 0])++[byteN k 1]) [byteN k 2] hl
  have hnx:((3,n+1+1+1,(((l++[byteN k 0])++[byteN k 1])++[byteN k 2])):Nat×Nat×List UInt8)=(3,n+1+1+1,(((l++[byteN k 0])++[byteN k 1])++[byteN k 2])):=rfl
  refine zg [(4,{bs:=[(10,.row 5 1 (n+1+1+1) (bytesF (((l++[byteN k 0])++[byteN k 1])++[byteN k 2])))]})] [true] [decide ((↑(2:Nat):Int)<(4:Int))=true,inR .i64 (4-1),inR .i64 ((4:Int)-(1:Int)-(↑(2:Nat):Int)),inR .i64 ((8:Int)*((4:Int)-(1:Int)-(↑(2:Nat):Int))),(0:Int)≤(8:Int)*((4:Int)-(1:Int)-(↑(2:Nat):Int)),(n+1+1+1)*1≤140737488355328,BlkEqv (.row 5 (1:Nat) (n+(1:Nat)+(1:Nat)+(1:Nat)) (catF (n+(1:Nat)+(1:Nat)) (bytesF (l++[byteN k (0:Nat)]++[byteN k (1:Nat)])) fun i j=>nthD [.int .u8 (IntKind.u8.wrap (k.fdiv ((2:Int)^(8:Nat))))] (((0:Nat)+i)*(1:Nat)+j))) (.row 5 (1:Nat) (n+(1:Nat)+(1:Nat)+(1:Nat)) (bytesF (l++[byteN k (0:Nat)]++[byteN k (1:Nat)]++[byteN k (2:Nat)]))),n+1+1≤n+1+1,0+1≤1,inR .i64 ((↑(2:Nat):Int)+(1:Int))] ⟨rfl,i6,i6,i6,oM,oM,aS,oM,oM,i6⟩ ?_
  exact za [(33,257)] (again _ (3,n+1+1+1,(((l++[byteN k 0])++[byteN k 1])++[byteN k 2])) (by simp;done) oM)
 ·have hl:n+1+1+1=((((l++[byteN k 0])++[byteN k 1])++[byteN k 2])).length:=by simp [hn]
  have e1:BlkEqv (.row 5 1 (n+1+1+1+1) (catF (n+1+1+1) (bytesF (((l++[byteN k 0])++[byteN k 1])++[byteN k 2])) (fun i j=>nthD [.int .u8 (IntKind.u8.wrap (k.fdiv (2^(8*(3-3)))))] ((0+i)*1+j)))) (.row 5 1 (n+1+1+1+1) (bytesF ((((l++[byteN k 0])++[byteN k 1])++[byteN k 2])++[byteN k 3]))):=by
   rw [byteN_eq k 3];exact bytes_app (((l++[byteN k 0])++[byteN k 1])++[byteN k 2]) [byteN k 3] hl
  have hnx:((4,n+1+1+1+1,((((l++[byteN k 0])++[byteN k 1])++[byteN k 2])++[byteN k 3])):Nat×Nat×List UInt8)=(4,n+1+1+1+1,((((l++[byteN k 0])++[byteN k 1])++[byteN k 2])++[byteN k 3])):=rfl
  refine zg [(4,{bs:=[(10,.row 5 1 (n+1+1+1+1) (bytesF ((((l++[byteN k 0])++[byteN k 1])++[byteN k 2])++[byteN k 3])))]})] [true] [decide ((↑(3:Nat):Int)<(4:Int))=true,inR .i64 (4-1),inR .i64 ((4:Int)-(1:Int)-(↑(3:Nat):Int)),inR .i64 ((8:Int)*((4:Int)-(1:Int)-(↑(3:Nat):Int))),(0:Int)≤(8:Int)*((4:Int)-(1:Int)-(↑(3:Nat):Int)),(n+1+1+1+1)*1≤140737488355328,BlkEqv (.row 5 (1:Nat) (n+(1:Nat)+(1:Nat)+(1:Nat)+(1:Nat)) (catF (n+(1:Nat)+(1:Nat)+(1:Nat)) (bytesF (l++[byteN k (0:Nat)]++[byteN k (1:Nat)]++[byteN k (2:Nat)])) fun i j=>nthD [.int .u8 (IntKind.u8.wrap (k.fdiv ((2:Int)^(0:Nat))))] (((0:Nat)+i)*(1:Nat)+j))) (.row 5 (1:Nat) (n+(1:Nat)+(1:Nat)+(1:Nat)+(1:Nat)) (bytesF (l++[byteN k (0:Nat)]++[byteN k (1:Nat)]++[byteN k (2:Nat)]++[byteN k (3:Nat)]))),n+1+1+1≤n+1+1+1,0+1≤1,inR .i64 ((↑(3:Nat):Int)+(1:Int))] ⟨rfl,i6,i6,i6,oM,oM,aS,oM,oM,i6⟩ ?_
  exact za [(33,257)] (again _ (4,n+1+1+1+1,((((l++[byteN k 0])++[byteN k 1])++[byteN k 2])++[byteN k 3])) (by simp;done) oM)
 ·refine zg [] [false] [decide ((↑(4:Nat):Int)<(4:Int))=false] rfl ?_
  exact zb [33]
theorem kidsP3_ok:Pur Tryz.prog G 171 [.c (.int .i64 3)] [.c (.int .i64 1)]:=by
 refine zp Tryz.func171 ?_
 refine zg [] [false,false,true,true] [((3:Int)==(1:Int))=false,((3:Int)==(2:Int))=false,((3:Int)==(3:Int))=true,((3:Int)==(3:Int))=true] ⟨rfl,rfl,rfl,rfl⟩ ?_
 exact zr
theorem kidsP2_ok:Pur Tryz.prog G 171 [.c (.int .i64 2)] [.c (.int .i64 0)]:=by
 refine zp Tryz.func171 ?_
 refine zg [] [false,true] [((2:Int)==(1:Int))=false,((2:Int)==(2:Int))=true] ⟨rfl,rfl⟩ ?_
 exact zr
theorem rightN_ok (k:Int) (h0:0<k) (h1:k≤1073741824):Pur Tryz.prog G 161 [.agg (encN k)] [.c (.bool true)]:=by
 refine zp Tryz.func161 ?_
 have c:=kidsP2_ok (G:=G)
 have t1:(k==0)=false:=by simp;omega
 have t2:decide (k>0)=true:=decide_eq_true h0
 have t3:decide (k≤1073741824)=true:=decide_eq_true h1
 refine z0 [(2,{cs:=[(5,pc c)]})] [] ?_
 exact zS [.c (.bool (bif bif (0:Int)==(0:Int) then bif ([]:List UInt8)==[] then true else bif (2:Int)==(1:Int) then decide ((↑([]:List UInt8).length:Int)≤(1024:Int)) else false else false then bif k==(0:Int) then true else bif bif (2:Int)==(2:Int) then decide (k>(0:Int)) else false then decide (k≤(1073741824:Int)) else false else false))] (by simp [*];done)
theorem rightH_ok (k:Int):Pur Tryz.prog G 161 [.agg (encHN k)] [.c (.bool true)]:=by
 refine zp Tryz.func161 ?_
 have c:=kidsP3_ok (G:=G)
 refine z0 [(2,{cs:=[(5,pc c)]})] [] ?_
 exact zr
theorem mayWN_ok (k:Int) (h0:0<k) (h1:k≤1073741824):FnB Tryz.prog G 160 [bxN 1,.box 181 [cloG 160 (fun i=>sel2 i 0 1)]] [.agg (encN k),.c (.int .i64 2),.c (.ptr 0 0),.c (.ptr 1 0)] [.c (.bool true)] [(0,bxN 2)]:=by
 refine Fn.of' Tryz.func160 (by kernel_rfl) (by kernel_rfl) (by kernel_rfl) (by kernel_rfl) trivial ?_
 have c:=rightN_ok (G:=G) k h0 h1
 refine Wp.go (mx:=true) (fun _=>mixed) [(2,{cs:=[(8,pc c)]})] 100 [false] [inR IntKind.i64 ((1:Int)+(1:Int)),(bif bif decide ((1:Int)+(1:Int)>(64:Int)) then true else decide ((2:Int)>(16:Int)) then true else !true)=false] (by kernel_rfl) (by kernel_rfl) (by kernel_rfl) ⟨inR64 (by omega) (by omega),rfl⟩ ?_
 refine Wp.unrK kR 1 (fun UL0 uUL0 => ?_)
 refine Wp.go (mx:=true) (fun _=>mixed) [] 100 [false] [decide ((0:Int)<(0:Int))=false] (by kernel_rfl) (by kernel_rfl) (by kernel_rfl) rfl ?_
 refine Wp.ret' (by kernel_rfl) ?_
 exact FinQ.blk [] (by kernel_rfl) (by kernel_rfl) (by kernel_rfl) (by kernel_rfl) (by kernel_rfl) trivial
theorem mayWH_ok (k:Int) (h0:0<k) (h1:k≤1073741824):FnB Tryz.prog G 160 [bxN 0,.box 181 [cloG 160 (fun i=>sigIn [0,1] (sel2 i 0 1))]] [.agg (encHN k),.c (.int .i64 1),.c (.ptr 0 0),.c (.ptr 1 0)] [.c (.bool true)] [(0,bxN 2)]:=by
 refine Fn.of' Tryz.func160 (by kernel_rfl) (by kernel_rfl) (by kernel_rfl) (by kernel_rfl) trivial ?_
 have c:=rightH_ok (G:=G) k
 have c2:=mayWN_ok (G:=G) k h0 h1
 refine Wp.go (mx:=true) (fun _=>mixed) [(2,{cs:=[(8,pc c)]})] 100 [false] [inR IntKind.i64 ((0:Int)+(1:Int)),(bif bif decide ((0:Int)+(1:Int)>(64:Int)) then true else decide ((1:Int)>(16:Int)) then true else !true)=false] (by kernel_rfl) (by kernel_rfl) (by kernel_rfl) ⟨inR64 (by omega) (by omega),rfl⟩ ?_
 refine Wp.unrK kR 2 (fun UL0 uUL0 => ?_)
 refine zg [(7,{cs:=[(8,cb [0,1] c2)]})] [true,false] [decide ((0:Int)<(↑(1:Nat):Int))=true,(0:Int)≤(0:Int)∧(0:Int)<(↑(1:Nat):Int),inR .i64 (1+1),(!true)=false,inR .i64 (0+1)] ⟨rfl,oM,i6,rfl,i6⟩ ?_
 refine Wp.lpK kR (uUL0 1 _ ?_)
 refine zg [] [false] [decide ((0:Int)+(1:Int)<(↑(1:Nat):Int))=false] rfl ?_
 refine Wp.ret' (by kernel_rfl) ?_
 exact FinQ.blk [] (by kernel_rfl) (by kernel_rfl) (by kernel_rfl) (by kernel_rfl) (by kernel_rfl) trivial
theorem mayPH_ok (k:Int) (h0:0<k) (h1:k≤1073741824):Pur Tryz.prog G 144 [.agg (encHN k)] [.c (.bool true)]:=by
 refine zp Tryz.func144 ?_
 have c:=mayWH_ok (G:=G) k h0 h1
 have f1:=cloG_I 160 (fun i=>sigIn [32,64] (sigIn [0,1] (sel2 i 0 1))) 32 64 rfl rfl
 have f2:=cloG_D 160 (fun i=>sigIn [32,64] (sigIn [0,1] (sel2 i 0 1))) 32 64 rfl rfl
 refine zg [(3,{fm:=[(0,.c (cloG 160 (fun i=>sigIn [32,64] (sigIn [0,1] (sel2 i 0 1)))))]}),(4,{cs:=[(2,cb [32,64] c)]})] [] [type_of% f1,type_of% f2] ⟨f1,f2⟩ ?_
 exact zr
theorem putsN_ok (k:Int):FnB Tryz.prog G 145 [.row 5 1 1 (bytesF [3])] [.c (.row 1 0 0 1),.agg (encN k)] [.c (.row 1 1 0 6)] [(1,.row 5 1 6 (bytesF (hashB k)))]:=by
 refine zf Tryz.func145 ?_
 have e1:BlkEqv (.row 5 1 (1+1) (catF 1 (bytesF [3]) (fun i j=>nthD [.int .u8 (IntKind.u8.wrap 2)] ((0+i)*1+j)))) (.row 5 1 (1+1) (bytesF ([3]++[2]))):=bytes_app [3] [2] rfl
 have c:=numP_ok (G:=G) 2 ([3]++[2]) rfl dC k
 refine zg [(1,{bs:=[(5,.row 5 1 (1+1) (bytesF ([3]++[2])))]}),(6,{cs:=[(3,cb [113] c)]})] [false,true] [2≤140737488355328,BlkEqv (.row 5 (1:Nat) (2:Nat) (catF (1:Nat) (bytesF [(3:UInt8)]) fun i j=>nthD [.int .u8 (IntKind.u8.wrap (2:Int))] (((0:Nat)+i)*(1:Nat)+j))) (.row 5 (1:Nat) ((1:Nat)+(1:Nat)) (bytesF ([(3:UInt8)]++[(2:UInt8)]))),1≤1,0+1≤1,((2:Int)==(1:Int))=false,((2:Int)==(2:Int))=true] ⟨oM,aS,oM,oM,rfl,rfl⟩ ?_
 refine Wp.unrK kR 1 (fun UL0 uUL0 => ?_)
 refine zg [(1,{bs:=[(5,.row 5 1 (1+1) (bytesF ([3]++[2])))]})] [false] [decide ((0:Int)<(0:Int))=false] rfl ?_
 exact zb [289]
theorem putsH_ok (k:Int):FnB Tryz.prog G 145 [] [.c .nilsl,.agg (encHN k)] [.c (.row 1 0 0 6)] [(0,.row 5 1 6 (bytesF (hashB k)))]:=by
 refine zf Tryz.func145 ?_
 have e1:BlkEqv (.row 5 1 1 (catF 0 (fun _ _ => .nilif) (fun i j=>nthD [.int .u8 (IntKind.u8.wrap 3)] ((0+i)*1+j)))) (.row 5 1 1 (bytesF [3])):=by
  refine BlkEqv.row_ext rfl fun i hi j hj => ?_
  obtain ⟨rfl,rfl⟩:i=0∧j=0:=by omega
  rfl
 have c:=putsN_ok (G:=G) k
 refine zg [(1,{bs:=[(5,.row 5 1 1 (bytesF [3]))]})] [false,false] [1≤140737488355328,BlkEqv (.row 5 (1:Nat) (1:Nat) (catF (0:Nat) (fun (x x_1:Nat) => .nilif) fun i j=>nthD [.int .u8 (IntKind.u8.wrap (3:Int))] (((0:Nat)+i)*(1:Nat)+j))) (.row 5 (1:Nat) (1:Nat) (bytesF [(3:UInt8)])),0+1≤1,((3:Int)==(1:Int))=false,((3:Int)==(2:Int))=false] ⟨oM,aS,oM,rfl,rfl⟩ ?_
 refine Wp.unrK kR 2 (fun UL0 uUL0 => ?_)
 refine zg [(1,{bs:=[(5,.row 5 1 1 (bytesF [3]))]}),(10,{cs:=[(2,cb [112] c)]})] [true] [decide ((0:Int)<(↑(1:Nat):Int))=true,(0:Int)≤(0:Int)∧(0:Int)<(↑(1:Nat):Int),inR .i64 (0+1)] ⟨rfl,oM,i6⟩ ?_
 refine Wp.lpK kR (uUL0 1 _ ?_)
 refine zg [(1,{bs:=[(5,.row 5 1 1 (bytesF [3]))]})] [false] [decide ((0:Int)+(1:Int)<(↑(1:Nat):Int))=false] rfl ?_
 exact zb [416]
theorem PutP_ok (k:Int) (h0:0<k) (h1:k≤1073741824):FnB Tryz.prog G 134 [] [.agg (encHN k)] [.c (.row 1 0 0 6)] [(0,.row 5 1 6 (bytesF (hashB k)))]:=by
 refine zf Tryz.func134 ?_
 have c1:=mayPH_ok (G:=G) k h0 h1
 have c2:=putsH_ok (G:=G) k
 refine zg [(1,{cs:=[(1,pc c1)]}),(3,{cs:=[(1,cb [] c2)]})] [false] [(!true)=false] rfl ?_
 exact zb [96]
def deskI (s:StT) (src:SoT) (e:RcT):Blk := .box 111 [.str s.name,.int .i64 s.key,clS s.cls,usS s.usr,rcS s.recs,.int .i64 src.n,.int .i64 src.conn,.int .i64 src.now,.int .i64 e.kind,.int .i64 e.key,.int .i64 e.til,.bool e.used,.int .i64 e.client,.int .i64 e.user,.int .i64 e.sess,.int .i64 e.fam,.str e.w.ty,.str e.w.redir,.str e.w.scope,.str e.w.state,.str e.w.nonce,.str e.w.chal,.str e.w.meth]
structure AsT where
 (client key:Int) (redir ver scope:List UInt8)
def encAs (a:AsT):List Cell:=[.int .i64 a.client,.int .i64 a.key,.str a.redir,.str a.ver,.str a.scope]
structure GrT where
 (acc ref:Int) (r:RcT)
def encGr (g:GrT):List Cell:=[.int .i64 g.acc,.int .i64 g.ref,.int .i64 g.r.kind,.int .i64 g.r.key,.int .i64 g.r.til,.bool g.r.used,.int .i64 g.r.client,.int .i64 g.r.user,.int .i64 g.r.sess,.int .i64 g.r.fam,.str g.r.w.ty,.str g.r.w.redir,.str g.r.w.scope,.str g.r.w.state,.str g.r.w.nonce,.str g.r.w.chal,.str g.r.w.meth]
def GrT.nil:GrT:=⟨0,0,.nil⟩
theorem finds_no (s:StT) (src:SoT) (e:RcT) (kind client key:Int) {r:RcT} {b:Bool} (hr:s.recs.length≤100000) (hf:findT s.recs src.now kind key=(r,b)) (h:b=false∨(r.client != client)=true):FnB Tryz.prog G 54 [deskI s src e] [.c (.ptr 0 0),.c (.int .i64 kind),.c (.int .i64 client),.c (.int .i64 key)] [.c (.int .i64 13)] [(0,deskI s src e)]:=by
 refine zf Tryz.func54 ?_
 have c:=storeFind_ok (G:=G) s.recs src.now kind key oM
 rw [hf] at c
 simp only at c
 clear hf
 cases b with
 | false =>
  refine zg [(1,{cs:=[(12,pc c)]})] [true] [(bif !false then true else r.client != client)=true] rfl ?_
  exact zb []
 | true =>
  have t1:(r.client != client)=true:=by simpa using h
  clear h
  refine zg [(1,{cs:=[(12,pc c)]})] [true] [(bif !true then true else r.client != client)=true] (oN aS) ?_
  exact zb []
theorem finds_ok (s:StT) (src:SoT) (e:RcT) (kind client key:Int) {r:RcT} (hr:s.recs.length≤100000) (hf:findT s.recs src.now kind key=(r,true)) (h1:(r.client != client)=false) (h2:r.used=false):FnB Tryz.prog G 54 [deskI s src e] [.c (.ptr 0 0),.c (.int .i64 kind),.c (.int .i64 client),.c (.int .i64 key)] [.c (.int .i64 0)] [(0,deskI s src r)]:=by
 refine zf Tryz.func54 ?_
 have c:=storeFind_ok (G:=G) s.recs src.now kind key oM
 rw [hf] at c
 simp only at c
 clear hf
 refine zg [(1,{cs:=[(12,pc c)]})] [false,false] [(bif !true then true else r.client != client)=false,r.used=false] ⟨aS,(show r.used=false from aS)⟩ ?_
 exact zb []
theorem code_no (s:StT) (src:SoT) (e:RcT) (a:AsT) {r:RcT} {b:Bool} (hr:s.recs.length≤100000) (hf:findT s.recs src.now 4 a.key=(r,b)) (h:b=false∨(r.client != a.client)=true):FnB Tryz.prog G 28 [deskI s src e] [.c (.ptr 0 0),.agg (encAs a)] [.c (.int .i64 13)] [(0,deskI s src e)]:=by
 refine zf Tryz.func28 ?_
 have c:=finds_no (G:=G) s src e 4 a.client a.key hr hf h
 clear hf h
 refine zg [(1,{cs:=[(5,cb [0] c)]})] [true] [((13:Int) != (0:Int))=true] rfl ?_
 exact zb []
theorem code_ok (s:StT) (src:SoT) (e:RcT) (a:AsT) {r:RcT} {ho:Bool} (hr:s.recs.length≤100000) (hf:findT s.recs src.now 4 a.key=(r,true)) (h1:(r.client != a.client)=false) (h2:r.used=false) (c2:Pur Tryz.prog G 55 [.c (.str r.w.chal),.c (.str a.ver)] [.c (.bool ho)]) (h3:(!(r.w.redir==a.redir&&(ho==true&&true)))=false):FnB Tryz.prog G 28 [deskI s src e] [.c (.ptr 0 0),.agg (encAs a)] [.c (.int .i64 0)] [(0,deskI s src r)]:=by
 refine zf Tryz.func28 ?_
 have c:=finds_ok (G:=G) s src e 4 a.client a.key hr hf h1 h2
 clear hf h1 h2
 refine zg [(1,{cs:=[(5,cb [0] c)]}),(5,{cs:=[(6,pc c2)]})] [false,false] [((0:Int) != (0:Int))=false,(!(r.w.redir==a.redir&&(ho==true&&true)))=false] ⟨rfl,(show (!(r.w.redir==a.redir&&(ho==true&&true)))=false from aS)⟩ ?_
 exact zb []
theorem refresh_ok (s:StT) (src:SoT) (e:RcT) (a:AsT) {r:RcT} (hr:s.recs.length≤100000) (hf:findT s.recs src.now 6 a.key=(r,true)) (h1:(r.client != a.client)=false) (h2:r.used=false) (h3:a.scope=[]):FnB Tryz.prog G 49 [deskI s src e] [.c (.ptr 0 0),.agg (encAs a)] [.c (.int .i64 0)] [(0,deskI s src r)]:=by
 refine zf Tryz.func49 ?_
 have c:=finds_ok (G:=G) s src e 6 a.client a.key hr hf h1 h2
 have t1:(!(a.scope==([]:List UInt8)))=false:=by rw [h3];rfl
 clear hf h1 h2 h3
 refine zg [(4,{grd:=[(4,false),(5,false),(6,false),(7,false),(8,false),(9,false),(10,false),(11,false),(12,false),(13,false),(14,false)]}),(1,{cs:=[(5,cb [0] c)]})] [false,false] [((0:Int) != (0:Int))=false,(!a.scope==[]) = !true,(!a.scope==[]) = !true,(!a.scope==[]) = !true,(!a.scope==[]) = !true,(!a.scope==[]) = !true,(!a.scope==[]) = !true,(!a.scope==[]) = !true,(!a.scope==[]) = !true,(!a.scope==[]) = !true,(!a.scope==[]) = !true,(!a.scope==[])=false,false=false] ⟨rfl,aS,aS,aS,aS,aS,aS,aS,aS,aS,aS,aS,rfl⟩ ?_
 exact zb []
def tokR (kind key til:Int) (e:RcT) (words:List UInt8):RcT:=⟨kind,key,til,false,e.client,e.user,0,e.fam,⟨[],[],words,[],[],[],[]⟩⟩
theorem putsI_ok (s:StT) (src:SoT) (e:RcT) (kind life:Int) (words:List UInt8) (hr:s.recs.length≤1000) (hf:FitR src) (hn:src.n≤1073741824) (hl:lifeT kind=life) (h0:0<life) (h1:life≤1000) {v:List RcT} (hp:putS s.recs src.now (tokR kind src.n (src.now+life) e words)=(v,0)):FnB Tryz.prog G 74 [deskI s src e] [.c (.ptr 0 0),.c (.int .i64 kind),.c (.str words)] [.c (.int .i64 src.n)] [(0,deskI { s with recs:=v } { src with n:=src.n+1 } e)]:=by
 refine zf Tryz.func74 ?_
 have hw0:=hf.now0
 have hw1:=hf.now1
 have c1:=nonce_ok (G:=G) src hn hf.n
 have c2:=life_ok (G:=G) kind
 rw [hl] at c2
 have c3:=until_ok (G:=G) src.now life hw0 hw1 h0 oM
 have c4:=storePut_ok (G:=G) s.recs src.now (tokR kind src.n (src.now+life) e words) oM
 rw [hp] at c4
 clear hp hl
 refine zg [(1,{cs:=[(4,pc c1)]}),(2,{cs:=[(8,pc c2),(9,pc c3)]}),(3,{cs:=[(11,pc c4)]})] [true] [((0:Int)==(0:Int))=true] rfl ?_
 exact zb []
theorem full_ok (s:StT) (src:SoT) (e:RcT) (kind:Int) (hr:s.recs.length≤1000):FnB Tryz.prog G 71 [.box 78 [.ptr 1 0],deskI s src e] [.c (.int .i64 kind),.c (.ptr 0 0)] [.c (.bool (roomK s.recs src.now kind==0))] [(0,.box 78 [.ptr 1 0]),(1,deskI s src e)]:=by
 refine zf Tryz.func71 ?_
 have c:=room_ok (G:=G) s.recs src.now kind oM
 refine z0 [(1,{cs:=[(11,pc c)]})] [] ?_
 exact zb []
theorem issues_ok (s:StT) (src:SoT) (e:RcT) (words:List UInt8) (k:Nat) (hr:s.recs.length≤900) (hf:FitR src) (hn:src.n<1073741824) (h5:(roomK s.recs src.now 5==0)=false) (h6:(roomK s.recs src.now 6==0)=false)
  (hk:ixF (findP e.kind e.key) (liveT src.now s.recs)=(k:Int)) {v1 v2:List RcT} (hp1:putS (changeT s.recs src.now k { e with used:=true }) src.now (tokR 5 src.n (src.now+300) e words)=(v1,0)) (hv1:v1.length≤900) (hp2:putS v1 src.now (tokR 6 (src.n+1) (src.now+600) e words)=(v2,0)) :
  FnB Tryz.prog G 53 [deskI s src e] [.c (.ptr 0 0),.c (.str words)] [.agg (encGr ⟨src.n,src.n+1,e⟩),.c (.int .i64 0)] [(0,deskI { s with recs:=v2 } { src with n:=src.n+1+1 } e)]:=by
 refine zf Tryz.func53 ?_
 have hw0:=hf.now0
 have hw1:=hf.now1
 have hn0:=hf.n
 have d5:=full_ok (G:=G) s src e 5 oM
 rw [h5] at d5
 have d6:=full_ok (G:=G) s src e 6 oM
 rw [h6] at d6
 have t1:decide (src.n≥1073741824)=false:=decide_eq_false oM
 have c1:=storeChange_ok (G:=G) s.recs src.now { e with used:=true } k oM hk
 have hcl:(changeT s.recs src.now k { e with used:=true }).length≤1000:=by
  have:=live_len src.now s.recs
  unfold changeT;rw [List.length_set];omega
 have c2:=putsI_ok (G:=G) { s with recs:=changeT s.recs src.now k { e with used:=true } } src e 5 300 words hcl hf oM rfl dC dC hp1
 have c3:=putsI_ok (G:=G) { s with recs:=v1 } { src with n:=src.n+1 } e 6 600 words (by show v1.length≤1000;omega) ⟨hw0,hw1,by show -1000000000000≤src.n+1;omega⟩ (by show src.n+1≤1073741824;omega) rfl dC dC hp2
 clear hp1 hp2 hk h5 h6
 generalize changeT s.recs src.now k { e with used:=true }=v0 at *
 refine zg [(1,{fm:=[(0,.c (clo1 71 (.ptr 1 0)))]}),(2,{cs:=[(1,cb [1,0] d5),(4,cb [1,0] d6)],grd:=[(3,true),(4,true),(7,true),(8,true),(9,true),(10,true),(11,true),(12,true)]}),(7,{cs:=[(12,pc c1)]}),(8,{cs:=[(2,cb [0] c2)]}),(9,{cs:=[(2,cb [0] c3)]})] [false] [EqvI (.c (cloRaw 71 [.c (.ptr 1 0)])) (.c (clo1 71 (.ptr 1 0))),EqvD (.c (cloRaw 71 [.c (.ptr 1 0)])) (.c (clo1 71 (.ptr 1 0))),false=false,false=false,(bif false then true else false)=false,(bif false then true else false)=false,(bif false then true else false)=false,(bif false then true else false)=false,(bif false then true else false)=false,(bif false then true else false)=false,(bif bif false then true else false then true else decide (src.n≥(1073741824:Int)))=false] ⟨clo1_I _ _,clo1_D _ _,rfl,rfl,rfl,rfl,rfl,rfl,rfl,rfl,(show (bif bif false then true else false then true else decide (src.n≥(1073741824:Int)))=false from aS)⟩ ?_
 exact zb []
def sgP (x:Int):UInt8:=([65,66,67,68,69,70,71,72,73,74,75,76,77,78,79,80,81,82,83,84,85,86,87,88,89,90,97,98,99,100,101,102,103,104,105,106,107,108,109,110,111,112,113,114,115,116,117,118,119,120,121,122,48,49,50,51,52,53,54,55,56,57,45,95]:List UInt8).getD x.toNat 0
def out4 (b:List UInt8):List UInt8:=[sgP (by3 b 0 / 4),sgP (by3 b 0%4*16+by3 b 1 / 16),sgP (by3 b 1%16*4+by3 b 2 / 64),sgP (by3 b 2%64)]
def encInvP (a b c d e f:UInt8) (g:Nat):St:=match g with
 | 0=>⟨[(0,.v (.c (.sl 1 6 (bytesF [a,b,c,d,e,f])))),(2,.v (.c (.str []))),(3,.v (.c (.ptr 16 0)))],[(16,.box 170 [.nilptr,.nilsl])],32⟩
 | 1=>⟨[(0,.v (.c (.sl 1 3 (bytesF [d,e,f])))),(2,.v (.c (.str []))),(3,.v (.c (.ptr 16 0)))],[(16,.box 170 [.ptr 16 0,.row 1 0 0 4]),(0,.row 5 1 4 (bytesF (out4 [a,b,c])))],32⟩
 | _+2=>⟨[(0,.v (.c (.sl 1 0 (bytesF [])))),(2,.v (.c (.str []))),(3,.v (.c (.ptr 16 0)))],[(16,.box 170 [.ptr 16 0,.row 1 0 0 8]),(0,.row 5 1 8 (bytesF (out4 [a,b,c]++out4 [d,e,f])))],32⟩
theorem encP_ok (a b c d e f:UInt8):Pur Tryz.prog G 135 [.c (.sl 1 6 (bytesF [a,b,c,d,e,f]))] [.c (.str (out4 [a,b,c]++out4 [d,e,f]))]:=by
 refine zp Tryz.func135 ?_
 refine z0 [] [] ?_
 refine zl (encInvP a b c d e f) (fun g=>g≤2) (fun g=>2-g) 0 (Nat.zero_le _) ?_
 intro g L hg again
 obtain rfl | rfl | rfl:g=0∨g=1∨g=2:=by omega
 ·have c4:=four_ok (G:=G) [a,b,c] (by show 3≤3;decide)
  have r0:=by3_rng [a,b,c] 0
  have r1:=by3_rng [a,b,c] 1
  have r2:=by3_rng [a,b,c] 2
  have w0:=wb_a (G:=G) (sgP (by3 [a,b,c] 0 / 4))
  have w1:=wb_b (G:=G) 1 [sgP (by3 [a,b,c] 0 / 4)] rfl dC (sgP (by3 [a,b,c] 0%4*16+by3 [a,b,c] 1 / 16))
  have w2:=wb_b (G:=G) 2 [sgP (by3 [a,b,c] 0 / 4),sgP (by3 [a,b,c] 0%4*16+by3 [a,b,c] 1 / 16)] rfl dC (sgP (by3 [a,b,c] 1%16*4+by3 [a,b,c] 2 / 64))
  have w3:=wb_b (G:=G) 3 [sgP (by3 [a,b,c] 0 / 4),sgP (by3 [a,b,c] 0%4*16+by3 [a,b,c] 1 / 16),sgP (by3 [a,b,c] 1%16*4+by3 [a,b,c] 2 / 64)] rfl dC (sgP (by3 [a,b,c] 2%64))
  have e1:EqvD (.c (.sl 1 (3-0) (fun i j=>bytesF [a,b,c,d,e,f] (0+i) j))) (.c (.sl 1 3 (bytesF [a,b,c]))):=EqvD.sl rfl fun i hi j hj=>by
   match i,hi with
   | 0,_=>rfl
   | 1,_=>rfl
   | 2,_=>rfl
   | i+3,hi=>omega
  have e2:EqvD (.c (.sl 1 (6-3) (fun i j=>bytesF [a,b,c,d,e,f] (3+i) j))) (.c (.sl 1 3 (bytesF [d,e,f]))):=EqvD.sl rfl fun i hi j hj=>by
   match i,hi with
   | 0,_=>rfl
   | 1,_=>rfl
   | 2,_=>rfl
   | i+3,hi=>omega
  refine zg [(4,{cs:=[(4,pc c4)],fm:=[(3,.c (.sl 1 3 (bytesF [a,b,c])))]}),(10,{fm:=[(2,.c (.sl 1 3 (bytesF [d,e,f])))]})] [true] [decide ((↑(6:Nat):Int)>(0:Int))=true,EqvI (.c (.sl 1 3 fun i j=>bytesF [a,b,c,d,e,f] (0+i) j)) (.c (.sl 1 3 (bytesF [a,b,c]))),EqvD (.c (.sl 1 3 fun i j=>bytesF [a,b,c,d,e,f] (0+i) j)) (.c (.sl 1 3 (bytesF [a,b,c]))),(0:Int)≤Int.ofNat (0)∧Int.ofNat (0)≤Int.ofNat (3)∧Int.ofNat (3)≤Int.ofNat (3)∧Int.ofNat (3)≤(↑(6:Nat):Int),inR .i64 ((if (↑(6:Nat):Int)<(3:Int) then (↑(6:Nat):Int) else (3:Int))+(1:Int)),(0:Int)≤Int.ofNat (0)∧Int.ofNat (0)≤Int.ofNat (3+1)∧Int.ofNat (3+1)≤(↑(4:Nat):Int)] ⟨rfl,fun _ _=>trivial,aS,⟨dC,⟨dC,⟨oM,dC⟩⟩⟩,i6,⟨dC,⟨dC,dC⟩⟩⟩ ?_
  refine Wp.unrK kR 5 (fun UL0 uUL0 => ?_)
  refine zg [(4,{fm:=[(3,.c (.sl 1 3 (bytesF [a,b,c])))]}),(10,{fm:=[(2,.c (.sl 1 3 (bytesF [d,e,f])))]}),(8,{cs:=[(2,cb [16] w0)]})] [true] [decide ((0:Int)<(↑(4:Nat):Int))=true,(0:Int)≤(0:Int)∧(0:Int)<(↑(4:Nat):Int),(0:Int)≤by3 [a,b,c] (0:Nat) / (4:Int)∧by3 [a,b,c] (0:Nat) / (4:Int)<(↑(64:Nat):Int),inR .i64 (0+1)] ⟨rfl,oM,oM,i6⟩ ?_
  refine Wp.lpK kR (uUL0 4 _ ?_)
  refine zg [(4,{fm:=[(3,.c (.sl 1 3 (bytesF [a,b,c])))]}),(10,{fm:=[(2,.c (.sl 1 3 (bytesF [d,e,f])))]}),(8,{cs:=[(2,cb [16,432] w1)]})] [true] [decide ((0:Int)+(1:Int)<(↑(4:Nat):Int))=true,(0:Int)≤(0:Int)+(1:Int)∧(0:Int)+(1:Int)<(↑(4:Nat):Int),(0:Int)≤by3 [a,b,c] (0:Nat)%(4:Int)*(16:Int)+by3 [a,b,c] (1:Nat) / (16:Int)∧by3 [a,b,c] (0:Nat)%(4:Int)*(16:Int)+by3 [a,b,c] (1:Nat) / (16:Int)<(↑(64:Nat):Int),inR .i64 (0+1+1)] ⟨rfl,oM,oM,i6⟩ ?_
  refine Wp.lpK kR (uUL0 3 _ ?_)
  refine zg [(4,{fm:=[(3,.c (.sl 1 3 (bytesF [a,b,c])))]}),(10,{fm:=[(2,.c (.sl 1 3 (bytesF [d,e,f])))]}),(8,{cs:=[(2,cb [16,576] w2)]})] [true] [decide ((0:Int)+(1:Int)+(1:Int)<(↑(4:Nat):Int))=true,(0:Int)≤(0:Int)+(1:Int)+(1:Int)∧(0:Int)+(1:Int)+(1:Int)<(↑(4:Nat):Int),(0:Int)≤by3 [a,b,c] (1:Nat)%(16:Int)*(4:Int)+by3 [a,b,c] (2:Nat) / (64:Int)∧by3 [a,b,c] (1:Nat)%(16:Int)*(4:Int)+by3 [a,b,c] (2:Nat) / (64:Int)<(↑(64:Nat):Int),inR .i64 (0+1+1+1)] ⟨rfl,oM,oM,i6⟩ ?_
  refine Wp.lpK kR (uUL0 2 _ ?_)
  refine zg [(4,{fm:=[(3,.c (.sl 1 3 (bytesF [a,b,c])))]}),(10,{fm:=[(2,.c (.sl 1 3 (bytesF [d,e,f])))]}),(8,{cs:=[(2,cb [16,720] w3)]})] [true] [decide ((0:Int)+(1:Int)+(1:Int)+(1:Int)<(↑(4:Nat):Int))=true,(0:Int)≤(0:Int)+(1:Int)+(1:Int)+(1:Int)∧(0:Int)+(1:Int)+(1:Int)+(1:Int)<(↑(4:Nat):Int),(0:Int)≤by3 [a,b,c] (2:Nat)%(64:Int)∧by3 [a,b,c] (2:Nat)%(64:Int)<(↑(64:Nat):Int),inR .i64 (0+1+1+1+1)] ⟨rfl,oM,oM,i6⟩ ?_
  refine Wp.lpK kR (uUL0 1 _ ?_)
  refine zg [(4,{fm:=[(3,.c (.sl 1 3 (bytesF [a,b,c])))]}),(10,{fm:=[(2,.c (.sl 1 3 (bytesF [d,e,f])))]})] [false] [decide ((0:Int)+(1:Int)+(1:Int)+(1:Int)+(1:Int)<(↑(4:Nat):Int))=false,EqvI (.c (.sl 1 3 fun i j=>bytesF [a,b,c,d,e,f] (3+i) j)) (.c (.sl 1 3 (bytesF [d,e,f]))),EqvD (.c (.sl 1 3 fun i j=>bytesF [a,b,c,d,e,f] (3+i) j)) (.c (.sl 1 3 (bytesF [d,e,f]))),(0:Int)≤Int.ofNat (3)∧Int.ofNat (3)≤Int.ofNat (6:Nat)∧Int.ofNat (6:Nat)≤(↑(6:Nat):Int)] ⟨rfl,fun _ _=>trivial,aS,⟨dC,⟨dC,dC⟩⟩⟩ ?_
  exact za [(0,864)] (again _ 1 dC dC)
 ·have c4:=four_ok (G:=G) [d,e,f] (by show 3≤3;decide)
  have r0:=by3_rng [d,e,f] 0
  have r1:=by3_rng [d,e,f] 1
  have r2:=by3_rng [d,e,f] 2
  have w0:=wb_b (G:=G) 4 (out4 [a,b,c]) rfl dC (sgP (by3 [d,e,f] 0 / 4))
  have w1:=wb_b (G:=G) 5 (out4 [a,b,c]++[sgP (by3 [d,e,f] 0 / 4)]) rfl dC (sgP (by3 [d,e,f] 0%4*16+by3 [d,e,f] 1 / 16))
  have w2:=wb_b (G:=G) 6 (out4 [a,b,c]++[sgP (by3 [d,e,f] 0 / 4),sgP (by3 [d,e,f] 0%4*16+by3 [d,e,f] 1 / 16)]) rfl dC (sgP (by3 [d,e,f] 1%16*4+by3 [d,e,f] 2 / 64))
  have w3:=wb_b (G:=G) 7 (out4 [a,b,c]++[sgP (by3 [d,e,f] 0 / 4),sgP (by3 [d,e,f] 0%4*16+by3 [d,e,f] 1 / 16),sgP (by3 [d,e,f] 1%16*4+by3 [d,e,f] 2 / 64)]) rfl dC (sgP (by3 [d,e,f] 2%64))
  have e1:EqvD (.c (.sl 1 (3-0) (fun i j=>bytesF [d,e,f] (0+i) j))) (.c (.sl 1 3 (bytesF [d,e,f]))):=EqvD.sl rfl fun i hi j hj=>by rw [Nat.zero_add]
  have e2:EqvD (.c (.sl 1 (3-3) (fun i j=>bytesF [d,e,f] (3+i) j))) (.c (.sl 1 0 (bytesF []))):=EqvD.sl rfl fun i hi j hj=>by omega
  refine zg [(4,{cs:=[(4,pc c4)],fm:=[(3,.c (.sl 1 3 (bytesF [d,e,f])))]}),(10,{fm:=[(2,.c (.sl 1 0 (bytesF [])))]})] [true] [decide ((↑(3:Nat):Int)>(0:Int))=true,EqvI (.c (.sl 1 3 fun i j=>bytesF [d,e,f] (0+i) j)) (.c (.sl 1 3 (bytesF [d,e,f]))),EqvD (.c (.sl 1 3 fun i j=>bytesF [d,e,f] (0+i) j)) (.c (.sl 1 3 (bytesF [d,e,f]))),(0:Int)≤Int.ofNat (0)∧Int.ofNat (0)≤Int.ofNat (3)∧Int.ofNat (3)≤Int.ofNat (3)∧Int.ofNat (3)≤(↑(3:Nat):Int),inR .i64 ((if (↑(3:Nat):Int)<(3:Int) then (↑(3:Nat):Int) else (3:Int))+(1:Int)),(0:Int)≤Int.ofNat (0)∧Int.ofNat (0)≤Int.ofNat (3+1)∧Int.ofNat (3+1)≤(↑(4:Nat):Int)] ⟨rfl,fun _ _=>trivial,aS,⟨dC,⟨dC,⟨oM,dC⟩⟩⟩,i6,⟨dC,⟨dC,dC⟩⟩⟩ ?_
  refine Wp.unrK kR 5 (fun UL0 uUL0 => ?_)
  refine zg [(4,{fm:=[(3,.c (.sl 1 3 (bytesF [d,e,f])))]}),(10,{fm:=[(2,.c (.sl 1 0 (bytesF [])))]}),(8,{cs:=[(2,cb [16,0] w0)]})] [true] [decide ((0:Int)<(↑(4:Nat):Int))=true,(0:Int)≤(0:Int)∧(0:Int)<(↑(4:Nat):Int),(0:Int)≤by3 [d,e,f] (0:Nat) / (4:Int)∧by3 [d,e,f] (0:Nat) / (4:Int)<(↑(64:Nat):Int),inR .i64 (0+1)] ⟨rfl,oM,oM,i6⟩ ?_
  refine Wp.lpK kR (uUL0 4 _ ?_)
  refine zg [(4,{fm:=[(3,.c (.sl 1 3 (bytesF [d,e,f])))]}),(10,{fm:=[(2,.c (.sl 1 0 (bytesF [])))]}),(8,{cs:=[(2,cb [16,432] w1)]})] [true] [decide ((0:Int)+(1:Int)<(↑(4:Nat):Int))=true,(0:Int)≤(0:Int)+(1:Int)∧(0:Int)+(1:Int)<(↑(4:Nat):Int),(0:Int)≤by3 [d,e,f] (0:Nat)%(4:Int)*(16:Int)+by3 [d,e,f] (1:Nat) / (16:Int)∧by3 [d,e,f] (0:Nat)%(4:Int)*(16:Int)+by3 [d,e,f] (1:Nat) / (16:Int)<(↑(64:Nat):Int),inR .i64 (0+1+1)] ⟨rfl,oM,oM,i6⟩ ?_
  refine Wp.lpK kR (uUL0 3 _ ?_)
  refine zg [(4,{fm:=[(3,.c (.sl 1 3 (bytesF [d,e,f])))]}),(10,{fm:=[(2,.c (.sl 1 0 (bytesF [])))]}),(8,{cs:=[(2,cb [16,576] w2)]})] [true] [decide ((0:Int)+(1:Int)+(1:Int)<(↑(4:Nat):Int))=true,(0:Int)≤(0:Int)+(1:Int)+(1:Int)∧(0:Int)+(1:Int)+(1:Int)<(↑(4:Nat):Int),(0:Int)≤by3 [d,e,f] (1:Nat)%(16:Int)*(4:Int)+by3 [d,e,f] (2:Nat) / (64:Int)∧by3 [d,e,f] (1:Nat)%(16:Int)*(4:Int)+by3 [d,e,f] (2:Nat) / (64:Int)<(↑(64:Nat):Int),inR .i64 (0+1+1+1)] ⟨rfl,oM,oM,i6⟩ ?_
  refine Wp.lpK kR (uUL0 2 _ ?_)
  refine zg [(4,{fm:=[(3,.c (.sl 1 3 (bytesF [d,e,f])))]}),(10,{fm:=[(2,.c (.sl 1 0 (bytesF [])))]}),(8,{cs:=[(2,cb [16,720] w3)]})] [true] [decide ((0:Int)+(1:Int)+(1:Int)+(1:Int)<(↑(4:Nat):Int))=true,(0:Int)≤(0:Int)+(1:Int)+(1:Int)+(1:Int)∧(0:Int)+(1:Int)+(1:Int)+(1:Int)<(↑(4:Nat):Int),(0:Int)≤by3 [d,e,f] (2:Nat)%(64:Int)∧by3 [d,e,f] (2:Nat)%(64:Int)<(↑(64:Nat):Int),inR .i64 (0+1+1+1+1)] ⟨rfl,oM,oM,i6⟩ ?_
  refine Wp.lpK kR (uUL0 1 _ ?_)
  refine zg [(4,{fm:=[(3,.c (.sl 1 3 (bytesF [d,e,f])))]}),(10,{fm:=[(2,.c (.sl 1 0 (bytesF [])))]})] [false] [decide ((0:Int)+(1:Int)+(1:Int)+(1:Int)+(1:Int)<(↑(4:Nat):Int))=false,EqvI (.c (.sl 1 0 fun i j=>bytesF [d,e,f] (3+i) j)) (.c (.sl 1 0 (bytesF []))),EqvD (.c (.sl 1 0 fun i j=>bytesF [d,e,f] (3+i) j)) (.c (.sl 1 0 (bytesF []))),(0:Int)≤Int.ofNat (3)∧Int.ofNat (3)≤Int.ofNat (3:Nat)∧Int.ofNat (3:Nat)≤(↑(3:Nat):Int)] ⟨rfl,fun _ _=>trivial,aS,⟨dC,⟨dC,dC⟩⟩⟩ ?_
  exact za [(0,864)] (again _ 2 dC dC)
 ·have cs:=str_b (G:=G) 8 (out4 [a,b,c]++out4 [d,e,f]) rfl dC dC
  refine zg [(11,{cs:=[(0,cb [16,0] cs)]})] [false] [decide ((↑(0:Nat):Int)>(0:Int))=false] rfl ?_
  exact zr
def encHB (k:Int):List UInt8:=out4 [3,2,byteN k 0]++out4 [byteN k 1,byteN k 2,byteN k 3]
theorem textP_ok (k:Int) (h0:0<k) (h1:k≤1073741824):Pur Tryz.prog G 127 [.agg (encHN k)] [.c (.str ([126]++encHB k++[126]))]:=by
 refine zp Tryz.func127 ?_
 have c1:=PutP_ok (G:=G) k h0 h1
 have c2:Pur Tryz.prog G 135 [.c (.sl 1 6 (bytesF (hashB k)))] [.c (.str (encHB k))]:=encP_ok 3 2 (byteN k 0) (byteN k 1) (byteN k 2) (byteN k 3)
 refine zg [(1,{cs:=[(1,cb [] c1)]}),(4,{cs:=[(1,lc [48] [.row 5 1 6 (bytesF (hashB k))] [.c (.row 1 0 0 6)] c2 kR kR kR (show 0+6≤6 from oM))]})] [false] [((↑(6:Nat):Int)==(0:Int))=false,9≤9223372036854775807,10≤9223372036854775807] ⟨rfl,oM,(show (10:Nat)≤(9223372036854775807:Nat) from oM)⟩ ?_
 exact zr
theorem numberC_ok (s:List UInt8) {k:Int} (hs:s.length≤30000000000000) (h:readT s=some (.no k.toNat)) (h0:0≤k):Pur Tryz.prog G 126 [.c (.str s)] [.c (.int .i64 k),.c (.bool true)]:=by
 refine zp Tryz.func126 ?_
 rcases readC_ok (G:=G) s hs with ⟨t,ht,c⟩ | ⟨ht,c⟩
 ·rw [h] at ht
  simp only [Option.some.injEq] at ht
  subst ht
  have c:Pur Tryz.prog G 133 [.c (.str s)] [.agg [.int .i64 2,.int .i64 (k.toNat:Int),.str [],.sl 4 0 (fun _ _ => .nilif)],.c (.bool true)]:=c
  rw [show ((k.toNat:Nat):Int)=k by omega] at c
  refine zg [(1,{cs:=[(1,pc c)]})] [false] [(bif !true then true else (2:Int) != (2:Int))=false] rfl ?_
  exact zr
 ·rw [h] at ht;cases ht
theorem told_ok (s:List UInt8) {k:Int} (hs:s.length≤30000000000000) (h:readT s=some (.no k.toNat)) (h0:0<k) (h1:k≤1073741824):FnB Tryz.prog G 118 [] [.c (.str s)] [.c (.ifc 9 none (fun _ => .str ([126]++encHB k++[126])))] []:=by
 refine zf Tryz.func118 ?_
 have c1:=numberC_ok (G:=G) s hs h oM
 have c2:=textP_ok (G:=G) k h0 h1
 have e1:EqvD (.c (.sl 4 1 (fun i j=>nthD [.int .i64 2,.int .i64 k,.str [],.nilsl] (i*4+j)))) (.c (.sl 4 1 (fun _ j=>nthD (encN k) j))):=EqvD.sl rfl (fun i hi j hj=>by
  obtain rfl:i=0:=by omega
  rw [Nat.zero_mul,Nat.zero_add];rfl)
 clear h
 refine zg [(4,{cs:=[(4,pc c2)],fm:=[(2,.c (.sl 4 1 (fun _ j=>nthD (encN k) j)))]}),(1,{cs:=[(1,pc c1)]})] [false] [(!true)=false,EqvI (.c (.sl 4 1 fun i j=>nthD [.int .i64 2,.int .i64 k,.str [],.nilsl] (i*4+j))) (.c (.sl 4 1 fun (x j:Nat)=>nthD (encN k) j)),EqvD (.c (.sl 4 1 fun i j=>nthD [.int .i64 2,.int .i64 k,.str [],.nilsl] (i*4+j))) (.c (.sl 4 1 fun (x j:Nat)=>nthD (encN k) j))] ⟨rfl,fun _ _=>trivial,(show EqvD (.c (.sl (4:Nat) (1:Nat) fun i j=>nthD [.int .i64 (2:Int),.int .i64 k,.str [],.nilsl] (i*(4:Nat)+j))) (.c (.sl (4:Nat) (1:Nat) fun (x j:Nat)=>nthD (encN k) j)) from aS)⟩ ?_
 exact zb []
theorem chalP_ok (s:List UInt8) {k:Int} (hs:s.length≤30000000000000) (h:readT s=some (.no k.toNat)) (h0:0<k) (h1:k≤1073741824):Pur Tryz.prog G 98 [.c (.str s)] [.c (.str ([126]++encHB k++[126])),.c (.bool true)]:=by
 refine zp Tryz.func98 ?_
 have c1:=told_ok (G:=G) s hs h h0 h1
 clear h
 refine z0 [(1,{cs:=[(1,cb [] c1)]})] [] ?_
 exact zr
theorem holds1_ok (ch s:List UInt8) {k:Int} (hs:s.length≤30000000000000) (h:readT s=some (.no k.toNat)) (h0:0<k) (h1:k≤1073741824):FnB Tryz.prog G 97 [.box 9 [.str ch]] [.c (.str s),.c (.ptr 0 0)] [.c (.bool ([126]++encHB k++[126]==ch))] [(0,.box 9 [.str ch])]:=by
 refine zf Tryz.func97 ?_
 have c1:=chalP_ok (G:=G) s hs h h0 h1
 clear h
 generalize [126]++encHB k++[126]=x at *
 refine z0 [(1,{cs:=[(1,pc c1)]})] [] ?_
 exact zb []
theorem holder_ok (ch:List UInt8):FnB Tryz.prog G 77 [] [.c (.str ch)] [.c (clo1 97 (.ptr 0 0))] [(0,.box 9 [.str ch])]:=by
 refine zf Tryz.func77 ?_
 refine zg [(1,{fm:=[(0,.c (clo1 97 (.ptr 0 0)))]})] [] [EqvI (.c (cloRaw 97 [.c (.ptr 0 0)])) (.c (clo1 97 (.ptr 0 0))),EqvD (.c (cloRaw 97 [.c (.ptr 0 0)])) (.c (clo1 97 (.ptr 0 0)))] ⟨clo1_I _ _,clo1_D _ _⟩ ?_
 exact zb [0]
theorem holds_ok (ch s:List UInt8) {k:Int} (hs:s.length≤30000000000000) (h:readT s=some (.no k.toNat)) (h0:0<k) (h1:k≤1073741824):Pur Tryz.prog G 55 [.c (.str ch),.c (.str s)] [.c (.bool ([126]++encHB k++[126]==ch))]:=by
 refine zp Tryz.func55 ?_
 have c1:=holder_ok (G:=G) ch
 have c2:=holds1_ok (G:=G) ch s hs h h0 h1
 clear h
 generalize [126]++encHB k++[126]=x at *
 refine z0 [(1,{cs:=[(1,cb [] c1),(3,cb [32] c2)]})] [] ?_
 exact zr
def fnC (f:FuncId):Cell := .clo f 0 (fun _=>none) (fun _ _ => .nilif)
theorem servesC_no (s:StT) (src:SoT) (a:AsT) (r:RcT) (hs:FitS s) (c1:FnB Tryz.prog G 28 [deskI s src .nil] [.c (.ptr 0 0),.agg (encAs a)] [.c (.int .i64 13)] [(0,deskI s src r)]):Pur Tryz.prog G 27 [.agg (encSt s),.agg (encSo src),.agg (encAs a),.c (fnC 28)] [.agg (encSt s),.agg (encSo src),.agg (encGr .nil),.c (.int .i64 13)]:=by
 refine zp Tryz.func27 ?_
 have c0:=ownState_ok (G:=G) s hs
 refine zg [(1,{cs:=[(1,pc c0)]}),(2,{cs:=[(3,cb [176] c1)]})] [true] [((13:Int) != (0:Int))=true] rfl ?_
 exact zr
theorem servesC_ok (s:StT) (src:SoT) (a:AsT) (r:RcT) (s2:StT) (src2:SoT) (g:GrT) {e:Int} (hs:FitS s) (hsc:a.scope=[]) (c1:FnB Tryz.prog G 28 [deskI s src .nil] [.c (.ptr 0 0),.agg (encAs a)] [.c (.int .i64 0)] [(0,deskI s src r)])
  (c2:FnB Tryz.prog G 53 [deskI s src r] [.c (.ptr 0 0),.c (.str r.w.scope)] [.agg (encGr g),.c (.int .i64 e)] [(0,deskI s2 src2 r)]):Pur Tryz.prog G 27 [.agg (encSt s),.agg (encSo src),.agg (encAs a),.c (fnC 28)] [.agg (encSt s2),.agg (encSo src2),.agg (encGr g),.c (.int .i64 e)]:=by
 refine zp Tryz.func27 ?_
 have c0:=ownState_ok (G:=G) s hs
 have t1:(a.scope==([]:List UInt8))=true:=by rw [hsc];rfl
 clear hsc
 refine zg [(1,{cs:=[(1,pc c0)]}),(2,{cs:=[(3,cb [176] c1)]}),(7,{cs:=[(3,cb [176] c2)]})] [false,true] [((0:Int) != (0:Int))=false,(a.scope==[])=true] ⟨rfl,(show (a.scope==[])=true from aS)⟩ ?_
 exact zr
theorem servesR_ok (s:StT) (src:SoT) (a:AsT) (r:RcT) (s2:StT) (src2:SoT) (g:GrT) {e:Int} (hs:FitS s) (hsc:a.scope=[]) (c1:FnB Tryz.prog G 49 [deskI s src .nil] [.c (.ptr 0 0),.agg (encAs a)] [.c (.int .i64 0)] [(0,deskI s src r)])
  (c2:FnB Tryz.prog G 53 [deskI s src r] [.c (.ptr 0 0),.c (.str r.w.scope)] [.agg (encGr g),.c (.int .i64 e)] [(0,deskI s2 src2 r)]):Pur Tryz.prog G 27 [.agg (encSt s),.agg (encSo src),.agg (encAs a),.c (fnC 49)] [.agg (encSt s2),.agg (encSo src2),.agg (encGr g),.c (.int .i64 e)]:=by
 refine zp Tryz.func27 ?_
 have c0:=ownState_ok (G:=G) s hs
 have t1:(a.scope==([]:List UInt8))=true:=by rw [hsc];rfl
 clear hsc
 refine zg [(1,{cs:=[(1,pc c0)]}),(2,{cs:=[(3,cb [176] c1)]}),(7,{cs:=[(3,cb [176] c2)]})] [false,true] [((0:Int) != (0:Int))=false,(a.scope==[])=true] ⟨rfl,(show (a.scope==[])=true from aS)⟩ ?_
 exact zr
theorem redeem_of (s:StT) (src:SoT) (client code:Int) (to ver:List UInt8) {s2:StT} {src2:SoT} {g:GrT} {e:Int} (c:Pur Tryz.prog G 27 [.agg (encSt s),.agg (encSo src),.agg (encAs ⟨client,code,to,ver,[]⟩),.c (fnC 28)] [.agg (encSt s2),.agg (encSo src2),.agg (encGr g),.c (.int .i64 e)]) :
  Pur Tryz.prog G 11 [.agg (encSt s),.agg (encSo src),.c (.int .i64 client),.c (.int .i64 code),.c (.str to),.c (.str ver)] [.agg (encSt s2),.agg (encSo src2),.agg (encGr g),.c (.int .i64 e)]:=by
 refine zp Tryz.func11 ?_
 refine z0 [(1,{cs:=[(7,pc c)]})] [] ?_
 exact zr
theorem renew_of (s:StT) (src:SoT) (client key:Int) {s2:StT} {src2:SoT} {g:GrT} {e:Int} (c:Pur Tryz.prog G 27 [.agg (encSt s),.agg (encSo src),.agg (encAs ⟨client,key,[],[],[]⟩),.c (fnC 49)] [.agg (encSt s2),.agg (encSo src2),.agg (encGr g),.c (.int .i64 e)]) :
  Pur Tryz.prog G 22 [.agg (encSt s),.agg (encSo src),.c (.int .i64 client),.c (.int .i64 key),.c (.str [])] [.agg (encSt s2),.agg (encSo src2),.agg (encGr g),.c (.int .i64 e)]:=by
 refine zp Tryz.func22 ?_
 refine z0 [(1,{cs:=[(6,pc c)]})] [] ?_
 exact zr
def rcEq (x y:RcT):Bool:=(x.kind==y.kind&&(x.key==y.key&&(x.til==y.til&&(x.used==y.used&&(x.client==y.client&&(x.user==y.user&&(x.sess==y.sess&&(x.fam==y.fam&&(x.w.ty==y.w.ty&&(x.w.redir==y.w.redir&&(x.w.scope==y.w.scope&&(x.w.state==y.w.state&&(x.w.nonce==y.w.nonce&&(x.w.chal==y.w.chal&&(x.w.meth==y.w.meth&&true)))))))))))))))
def usEq (x y:UsT):Bool:=(x.name==y.name&&(x.pass==y.pass&&true))
def clNe (x y:ClT):Bool:=bif bif bif !x.id==y.id then true else x.secret != y.secret then true else !x.scope==y.scope then true else (x.reds.length:Int) != (y.reds.length:Int)
def stEq (x y:List UInt8):Bool:=x==y
def allE {α:Type} (d:α) (p:α→α→Bool) (a b:List α):Bool:=(List.range a.length).all fun i=>p (a.getD i d) (b.getD i d)
theorem allE_no {α:Type} {d:α} {p:α→α→Bool} {a b:List α} {k:Nat} (h:k<a.length) (hp:p (a.getD k d) (b.getD k d)=false):allE d p a b=false :=
 List.all_eq_false.2 ⟨k,List.mem_range.2 h,by rw [hp];decide⟩
theorem allE_yes {α:Type} {d:α} {p:α→α→Bool} {a b:List α} (h:∀ k,k<a.length→p (a.getD k d) (b.getD k d)=true):allE d p a b=true :=
 List.all_eq_true.2 fun k hk=>h k (List.mem_range.1 hk)
def sameL {α:Type} (d:α) (p:α→α→Bool) (a b:List α):Bool:=bif (a.length:Int) != (b.length:Int) then false else allE d p a b
def clEq (x y:ClT):Bool:=bif clNe x y then false else allE [] stEq x.reds y.reds
theorem cond_t {a b:Bool} (h:(bif a then true else b)=false):a=false∧b=false:=by cases a<;>simp_all
theorem len_of {a b:Nat} (h:((a:Int) != (b:Int))=false):a=b:=by
 have:=bne_eq_false_iff_eq.1 h
 omega
theorem same19G_ok (a b:List RcT) (hl:a.length≤1000000):Pur Tryz.prog G 31 [.c (rcS a),.c (rcS b)] [.c (.bool (sameL .nil rcEq a b))]:=by
 refine zp Tryz.func31 ?_
 unfold sameL
 cases t0:((a.length:Int) != (b.length:Int)) with
 | true =>
  refine zg [] [true] [((a.length:Int) != (b.length:Int))=true] (oN aS) ?_
  exact zr
 | false =>
  have hlen:=len_of t0
  refine zg [] [false] [((a.length:Int) != (b.length:Int))=false] t0 ?_
  refine zl (fun (k:Nat)=>⟨[(0,.v (.c (rcS a))),(1,.v (.c (rcS b))),(5,.v (.c (.int .i64 (k:Int))))],[],112⟩) (fun k=>k≤a.length∧∀ i,i<k→rcEq (a.getD i .nil) (b.getD i .nil)=true) (fun k=>a.length-k) 0 ⟨Nat.zero_le _,fun _ h=>absurd h (Nat.not_lt_zero _)⟩ ?_
  intro k L ⟨hk,hall⟩ again
  rcases Nat.lt_or_ge k a.length with hlt | hge
  ·cases hq:rcEq (a.getD k .nil) (b.getD k .nil) with
   | true =>
    have hq2:(!rcEq (a.getD k .nil) (b.getD k .nil))=false:=by rw [hq];rfl
    unfold rcEq at hq2
    have hall':∀ i,i<k+1→rcEq (a.getD i .nil) (b.getD i .nil)=true:=fun i hi=>by
     rcases Nat.lt_or_ge i k with h | h
     ·exact hall i h
     ·rw [show i=k by omega];exact hq
    clear hall hq
    refine zg [] [true,false] [decide ((k:Int)<(a.length:Int))=true,(0:Int)≤(k:Int)∧(k:Int)<(a.length:Int),(0:Int)≤(k:Int)∧(k:Int)<(b.length:Int),(!((a.getD k .nil).kind==(b.getD k .nil).kind&&((a.getD k .nil).key==(b.getD k .nil).key&&((a.getD k .nil).til==(b.getD k .nil).til&&((a.getD k .nil).used==(b.getD k .nil).used&&((a.getD k .nil).client==(b.getD k .nil).client&&((a.getD k .nil).user==(b.getD k .nil).user&&((a.getD k .nil).sess==(b.getD k .nil).sess&&((a.getD k .nil).fam==(b.getD k .nil).fam&&((a.getD k .nil).w.ty==(b.getD k .nil).w.ty&&((a.getD k .nil).w.redir==(b.getD k .nil).w.redir&&((a.getD k .nil).w.scope==(b.getD k .nil).w.scope&&((a.getD k .nil).w.state==(b.getD k .nil).w.state&&((a.getD k .nil).w.nonce==(b.getD k .nil).w.nonce&&((a.getD k .nil).w.chal==(b.getD k .nil).w.chal&&((a.getD k .nil).w.meth==(b.getD k .nil).w.meth&&true))))))&&true))))))))))=false,inR .i64 ((k:Int)+1)] ⟨sO,oM,oM,(by simp_all<;>omega),i6⟩ ?_
    exact za [] (again _ (k+1) ⟨aS,aS⟩ oM)
   | false =>
    have hq2:(!rcEq (a.getD k .nil) (b.getD k .nil))=true:=by rw [hq];rfl
    unfold rcEq at hq2
    rw [allE_no hlt hq]
    clear hall hq
    refine zg [] [true,true] [decide ((k:Int)<(a.length:Int))=true,(0:Int)≤(k:Int)∧(k:Int)<(a.length:Int),(0:Int)≤(k:Int)∧(k:Int)<(b.length:Int),(!((a.getD k .nil).kind==(b.getD k .nil).kind&&((a.getD k .nil).key==(b.getD k .nil).key&&((a.getD k .nil).til==(b.getD k .nil).til&&((a.getD k .nil).used==(b.getD k .nil).used&&((a.getD k .nil).client==(b.getD k .nil).client&&((a.getD k .nil).user==(b.getD k .nil).user&&((a.getD k .nil).sess==(b.getD k .nil).sess&&((a.getD k .nil).fam==(b.getD k .nil).fam&&((a.getD k .nil).w.ty==(b.getD k .nil).w.ty&&((a.getD k .nil).w.redir==(b.getD k .nil).w.redir&&((a.getD k .nil).w.scope==(b.getD k .nil).w.scope&&((a.getD k .nil).w.state==(b.getD k .nil).w.state&&((a.getD k .nil).w.nonce==(b.getD k .nil).w.nonce&&((a.getD k .nil).w.chal==(b.getD k .nil).w.chal&&((a.getD k .nil).w.meth==(b.getD k .nil).w.meth&&true))))))&&true))))))))))=true] ⟨sO,oM,oM,(show (!((a.getD k .nil).kind==(b.getD k .nil).kind&&((a.getD k .nil).key==(b.getD k .nil).key&&((a.getD k .nil).til==(b.getD k .nil).til&&((a.getD k .nil).used==(b.getD k .nil).used&&((a.getD k .nil).client==(b.getD k .nil).client&&((a.getD k .nil).user==(b.getD k .nil).user&&((a.getD k .nil).sess==(b.getD k .nil).sess&&((a.getD k .nil).fam==(b.getD k .nil).fam&&((a.getD k .nil).w.ty==(b.getD k .nil).w.ty&&((a.getD k .nil).w.redir==(b.getD k .nil).w.redir&&((a.getD k .nil).w.scope==(b.getD k .nil).w.scope&&((a.getD k .nil).w.state==(b.getD k .nil).w.state&&((a.getD k .nil).w.nonce==(b.getD k .nil).w.nonce&&((a.getD k .nil).w.chal==(b.getD k .nil).w.chal&&((a.getD k .nil).w.meth==(b.getD k .nil).w.meth&&true))))))&&true))))))))))=true from (by simp_all<;>omega))⟩ ?_
    exact zr
  ·rw [allE_yes (fun i hi=>hall i oM)]
   clear hall
   refine zg [] [false] [decide ((k:Int)<(a.length:Int))=false] (oN sO) ?_
   exact zr
theorem users20G_ok (a b:List UsT) (hl:a.length≤1000000):Pur Tryz.prog G 30 [.c (usS a),.c (usS b)] [.c (.bool (sameL .nil usEq a b))]:=by
 refine zp Tryz.func30 ?_
 unfold sameL
 cases t0:((a.length:Int) != (b.length:Int)) with
 | true =>
  refine zg [] [true] [((a.length:Int) != (b.length:Int))=true] (oN aS) ?_
  exact zr
 | false =>
  have hlen:=len_of t0
  refine zg [] [false] [((a.length:Int) != (b.length:Int))=false] t0 ?_
  refine zl (fun (k:Nat)=>⟨[(0,.v (.c (usS a))),(1,.v (.c (usS b))),(5,.v (.c (.int .i64 (k:Int))))],[],112⟩) (fun k=>k≤a.length∧∀ i,i<k→usEq (a.getD i .nil) (b.getD i .nil)=true) (fun k=>a.length-k) 0 ⟨Nat.zero_le _,fun _ h=>absurd h (Nat.not_lt_zero _)⟩ ?_
  intro k L ⟨hk,hall⟩ again
  rcases Nat.lt_or_ge k a.length with hlt | hge
  ·cases hq:usEq (a.getD k .nil) (b.getD k .nil) with
   | true =>
    have hq2:(!usEq (a.getD k .nil) (b.getD k .nil))=false:=by rw [hq];rfl
    unfold usEq at hq2
    have hall':∀ i,i<k+1→usEq (a.getD i .nil) (b.getD i .nil)=true:=fun i hi=>by
     rcases Nat.lt_or_ge i k with h | h
     ·exact hall i h
     ·rw [show i=k by omega];exact hq
    clear hall hq
    refine zg [] [true,false] [decide ((k:Int)<(a.length:Int))=true,(0:Int)≤(k:Int)∧(k:Int)<(a.length:Int),(0:Int)≤(k:Int)∧(k:Int)<(b.length:Int),(!((a.getD k .nil).name==(b.getD k .nil).name&&((a.getD k .nil).pass==(b.getD k .nil).pass&&true)))=false,inR .i64 ((k:Int)+1)] ⟨sO,oM,oM,aS,i6⟩ ?_
    exact za [] (again _ (k+1) ⟨aS,aS⟩ oM)
   | false =>
    have hq2:(!usEq (a.getD k .nil) (b.getD k .nil))=true:=by rw [hq];rfl
    unfold usEq at hq2
    rw [allE_no hlt hq]
    clear hall hq
    refine zg [] [true,true] [decide ((k:Int)<(a.length:Int))=true,(0:Int)≤(k:Int)∧(k:Int)<(a.length:Int),(0:Int)≤(k:Int)∧(k:Int)<(b.length:Int),(!((a.getD k .nil).name==(b.getD k .nil).name&&((a.getD k .nil).pass==(b.getD k .nil).pass&&true)))=true] ⟨sO,oM,oM,(show (!((a.getD k .nil).name==(b.getD k .nil).name&&((a.getD k .nil).pass==(b.getD k .nil).pass&&true)))=true from aS)⟩ ?_
    exact zr
  ·rw [allE_yes (fun i hi=>hall i oM)]
   clear hall
   refine zg [] [false] [decide ((k:Int)<(a.length:Int))=false] (oN sO) ?_
   exact zr
theorem clients20G_ok (a b:List ClT) (hl:a.length≤1000000) (hc:∀ k,(a.getD k .nil).reds.length<1000000000):Pur Tryz.prog G 29 [.c (clS a),.c (clS b)] [.c (.bool (sameL .nil clEq a b))]:=by
 refine zp Tryz.func29 ?_
 unfold sameL
 cases t0:((a.length:Int) != (b.length:Int)) with
 | true =>
  refine zg [] [true] [((a.length:Int) != (b.length:Int))=true] (oN aS) ?_
  exact zr
 | false =>
  have hlen:=len_of t0
  refine zg [] [false] [((a.length:Int) != (b.length:Int))=false] t0 ?_
  refine zl (fun (k:Nat)=>⟨[(0,.v (.c (clS a))),(1,.v (.c (clS b))),(5,.v (.c (.int .i64 (k:Int))))],[],112⟩) (fun k=>k≤a.length∧∀ i,i<k→clEq (a.getD i .nil) (b.getD i .nil)=true) (fun k=>a.length-k) 0 ⟨Nat.zero_le _,fun _ h=>absurd h (Nat.not_lt_zero _)⟩ ?_
  intro k L ⟨hk,hall⟩ again
  rcases Nat.lt_or_ge k a.length with hlt | hge
  ·have hck:=hc k
   cases hq:clNe (a.getD k .nil) (b.getD k .nil) with
   | true =>
    rw [allE_no hlt (by unfold clEq;rw [hq];rfl)]
    clear hall
    unfold clNe at hq
    refine zg [] [true,true] [decide ((k:Int)<(a.length:Int))=true,(0:Int)≤(k:Int)∧(k:Int)<(a.length:Int),(0:Int)≤(k:Int)∧(k:Int)<(b.length:Int),(!(a.getD k .nil).id==(b.getD k .nil).id)=false→(0:Int)≤(k:Int)∧(k:Int)<(a.length:Int),(!(a.getD k .nil).id==(b.getD k .nil).id)=false→(0:Int)≤(k:Int)∧(k:Int)<(b.length:Int),(bif !(a.getD k .nil).id==(b.getD k .nil).id then true else (a.getD k .nil).secret != (b.getD k .nil).secret)=false→(0:Int)≤(k:Int)∧(k:Int)<(a.length:Int),(bif !(a.getD k .nil).id==(b.getD k .nil).id then true else (a.getD k .nil).secret != (b.getD k .nil).secret)=false→(0:Int)≤(k:Int)∧(k:Int)<(b.length:Int),(bif bif !(a.getD k .nil).id==(b.getD k .nil).id then true else (a.getD k .nil).secret != (b.getD k .nil).secret then true else !(a.getD k .nil).scope==(b.getD k .nil).scope)=false→(0:Int)≤(k:Int)∧(k:Int)<(a.length:Int),(bif bif !(a.getD k .nil).id==(b.getD k .nil).id then true else (a.getD k .nil).secret != (b.getD k .nil).secret then true else !(a.getD k .nil).scope==(b.getD k .nil).scope)=false→(0:Int)≤(k:Int)∧(k:Int)<(b.length:Int),(bif bif bif !(a.getD k .nil).id==(b.getD k .nil).id then true else (a.getD k .nil).secret != (b.getD k .nil).secret then true else !(a.getD k .nil).scope==(b.getD k .nil).scope then true else (↑(a.getD k .nil).reds.length:Int) != (↑(b.getD k .nil).reds.length:Int))=true] ⟨sO,oM,oM,oM,oM,oM,oM,oM,oM,(show (bif bif bif !(a.getD k .nil).id==(b.getD k .nil).id then true else (a.getD k .nil).secret != (b.getD k .nil).secret then true else !(a.getD k .nil).scope==(b.getD k .nil).scope then true else (↑(a.getD k .nil).reds.length:Int) != (↑(b.getD k .nil).reds.length:Int))=true from aS)⟩ ?_
    exact zr
   | false =>
    have hrl:(a.getD k .nil).reds.length=(b.getD k .nil).reds.length:=by
     unfold clNe at hq
     exact len_of (cond_t hq).2
    have hq2:=hq
    unfold clNe at hq2
    refine zg [] [true,false] [decide ((k:Int)<(a.length:Int))=true,(0:Int)≤(k:Int)∧(k:Int)<(a.length:Int),(0:Int)≤(k:Int)∧(k:Int)<(b.length:Int),(!(a.getD k .nil).id==(b.getD k .nil).id)=false→(0:Int)≤(k:Int)∧(k:Int)<(a.length:Int),(!(a.getD k .nil).id==(b.getD k .nil).id)=false→(0:Int)≤(k:Int)∧(k:Int)<(b.length:Int),(bif !(a.getD k .nil).id==(b.getD k .nil).id then true else (a.getD k .nil).secret != (b.getD k .nil).secret)=false→(0:Int)≤(k:Int)∧(k:Int)<(a.length:Int),(bif !(a.getD k .nil).id==(b.getD k .nil).id then true else (a.getD k .nil).secret != (b.getD k .nil).secret)=false→(0:Int)≤(k:Int)∧(k:Int)<(b.length:Int),(bif bif !(a.getD k .nil).id==(b.getD k .nil).id then true else (a.getD k .nil).secret != (b.getD k .nil).secret then true else !(a.getD k .nil).scope==(b.getD k .nil).scope)=false→(0:Int)≤(k:Int)∧(k:Int)<(a.length:Int),(bif bif !(a.getD k .nil).id==(b.getD k .nil).id then true else (a.getD k .nil).secret != (b.getD k .nil).secret then true else !(a.getD k .nil).scope==(b.getD k .nil).scope)=false→(0:Int)≤(k:Int)∧(k:Int)<(b.length:Int),(bif bif bif !(a.getD k .nil).id==(b.getD k .nil).id then true else (a.getD k .nil).secret != (b.getD k .nil).secret then true else !(a.getD k .nil).scope==(b.getD k .nil).scope then true else (↑(a.getD k .nil).reds.length:Int) != (↑(b.getD k .nil).reds.length:Int))=false] ⟨sO,oM,oM,oM,oM,oM,oM,oM,oM,(show (bif bif bif !(a.getD k .nil).id==(b.getD k .nil).id then true else (a.getD k .nil).secret != (b.getD k .nil).secret then true else !(a.getD k .nil).scope==(b.getD k .nil).scope then true else (↑(a.getD k .nil).reds.length:Int) != (↑(b.getD k .nil).reds.length:Int))=false from aS)⟩ ?_
    refine zl (fun (q:Nat)=>⟨[(0,.v (.c (clS a))),(1,.v (.c (clS b))),(5,.v (.c (.int .i64 (k:Int)))),(6,.v (.c (.int .i64 (q:Int))))],[],1024⟩) (fun q=>q≤(a.getD k .nil).reds.length∧∀ i,i<q→stEq ((a.getD k .nil).reds.getD i []) ((b.getD k .nil).reds.getD i [])=true) (fun q=>(a.getD k .nil).reds.length-q) 0 ⟨Nat.zero_le _,fun _ h=>absurd h (Nat.not_lt_zero _)⟩ ?_
    intro q L2 ⟨hqk,hall2⟩ again2
    rcases Nat.lt_or_ge q (a.getD k .nil).reds.length with hlt2 | hge2
    ·have hlt3:q<(b.getD k .nil).reds.length:=by omega
     cases hs:stEq ((a.getD k .nil).reds.getD q []) ((b.getD k .nil).reds.getD q []) with
     | true =>
      have hs2:(!stEq ((a.getD k .nil).reds.getD q []) ((b.getD k .nil).reds.getD q []))=false:=by rw [hs];rfl
      unfold stEq at hs2
      have hall3:∀ i,i<q+1→stEq ((a.getD k .nil).reds.getD i []) ((b.getD k .nil).reds.getD i [])=true:=fun i hi=>by
       rcases Nat.lt_or_ge i q with h | h
       ·exact hall2 i h
       ·rw [show i=q by omega];exact hs
      clear hall2 hs again
      have again:=again2
      clear again2
      refine zg [] [true,false] [(0:Int)≤(k:Int)∧(k:Int)<(a.length:Int),decide ((q:Int)<(↑(a.getD k .nil).reds.length:Int))=true,(0:Int)≤(k:Int)∧(k:Int)<(a.length:Int),(0:Int)≤(q:Int)∧(q:Int)<(↑(a.getD k .nil).reds.length:Int),(0:Int)≤(k:Int)∧(k:Int)<(b.length:Int),(0:Int)≤(q:Int)∧(q:Int)<(↑(b.getD k .nil).reds.length:Int),(!(a.getD k .nil).reds.getD q []==(b.getD k .nil).reds.getD q [])=false,inR .i64 ((q:Int)+1)] ⟨oM,(by simp_all<;>omega),oM,oM,oM,oM,aS,i6⟩ ?_
      exact za [] (again _ (q+1) ⟨aS,aS⟩ oM)
     | false =>
      have hs2:(!stEq ((a.getD k .nil).reds.getD q []) ((b.getD k .nil).reds.getD q []))=true:=by rw [hs];rfl
      unfold stEq at hs2
      rw [allE_no hlt (by unfold clEq;rw [hq];exact allE_no hlt2 hs)]
      clear hall hall2 hs again again2
      refine zg [] [true,true] [(0:Int)≤(k:Int)∧(k:Int)<(a.length:Int),decide ((q:Int)<(↑(a.getD k .nil).reds.length:Int))=true,(0:Int)≤(k:Int)∧(k:Int)<(a.length:Int),(0:Int)≤(q:Int)∧(q:Int)<(↑(a.getD k .nil).reds.length:Int),(0:Int)≤(k:Int)∧(k:Int)<(b.length:Int),(0:Int)≤(q:Int)∧(q:Int)<(↑(b.getD k .nil).reds.length:Int),(!(a.getD k .nil).reds.getD q []==(b.getD k .nil).reds.getD q [])=true] ⟨oM,(by simp_all<;>omega),oM,oM,oM,oM,(show (!(a.getD k .nil).reds.getD q []==(b.getD k .nil).reds.getD q [])=true from aS)⟩ ?_
      exact zr
    ·have hce:clEq (a.getD k .nil) (b.getD k .nil)=true:=by unfold clEq;rw [hq];exact allE_yes (fun i hi=>hall2 i oM)
     have hall':∀ i,i<k+1→clEq (a.getD i .nil) (b.getD i .nil)=true:=fun i hi=>by
      rcases Nat.lt_or_ge i k with h | h
      ·exact hall i h
      ·rw [show i=k by omega];exact hce
     clear again2 hall hall2 hce hq hq2
     refine zg [] [false] [(0:Int)≤(k:Int)∧(k:Int)<(a.length:Int),decide ((q:Int)<(↑(a.getD k .nil).reds.length:Int))=false,inR .i64 ((k:Int)+1)] ⟨oM,(by simp_all<;>omega),i6⟩ ?_
     exact za [] (again _ (k+1) ⟨aS,aS⟩ oM)
  ·rw [allE_yes (fun i hi=>hall i oM)]
   clear hall
   refine zg [] [false] [decide ((k:Int)<(a.length:Int))=false] (oN sO) ?_
   exact zr
def sameS (s t:StT):Bool:=bif bif bif bif s.name==t.name then s.key==t.key else false then sameL .nil clEq s.cls t.cls else false then sameL .nil usEq s.usr t.usr else false then sameL .nil rcEq s.recs t.recs else false
theorem same20G_ok (s t:StT) (hs:FitS s):Pur Tryz.prog G 13 [.agg (encSt s),.agg (encSt t)] [.c (.bool (sameS s t))]:=by
 refine zp Tryz.func13 ?_
 have c1:=clients20G_ok (G:=G) s.cls t.cls hs.cls (fun k=>(hs.cl k).reds)
 have c2:=users20G_ok (G:=G) s.usr t.usr hs.usr
 have c3:=same19G_ok (G:=G) s.recs t.recs hs.recs
 unfold sameS
 refine z0 [(1,{cs:=[(17,pc c1),(24,pc c2),(31,pc c3)]})] [] ?_
 exact zr
theorem pushI2:pushT baseT src0 2 (rightT 2)=({ baseT with recs:=[pRec 2 (rightT 2) 100 60] },⟨101,1,0⟩,100,0):=by kernel_rfl
theorem pushI3:pushT baseT src0 3 (rightT 3)=({ baseT with recs:=[pRec 3 (rightT 3) 100 60] },⟨101,1,0⟩,100,0):=by kernel_rfl
theorem pushI (n:Int) (k:Nat) (hn:n=(k:Int)+1) (hk:k<3):pushT baseT src0 n (rightT n)=({ baseT with recs:=[pRec n (rightT n) 100 60] },⟨101,1,0⟩,100,0):=by
 rcases (by omega:n=1∨n=2∨n=3) with rfl | rfl | rfl
 ·exact push1
 ·exact pushI2
 ·exact pushI3
def codedL (n u:Int) (w:WT):List RcT:=[⟨2,101,900,false,0,u,0,0,.nil⟩,⟨4,103,40,false,n,u,101,103,w⟩]
def codedS (n u:Int) (w:WT):StT:=⟨[97,115],1,baseC,baseU,codedL n u w⟩
def src4:SoT:=⟨104,1,0⟩
def recS (l:List RcT):StT:=⟨[97,115],1,baseC,baseU,l⟩
theorem recS_fit (l:List RcT) (h:l.length≤1000000):FitS (recS l):=⟨by show (3:Nat)≤_;decide,by show (2:Nat)≤_;decide,h,fitC_base⟩
theorem find_cl:∀ k,k<3→ixF (fun c:ClT=>c.id==(baseC.getD k .nil).id) baseC=(k:Int)
 | 0,_=>by kernel_rfl
 | 1,_=>by kernel_rfl
 | 2,_=>by kernel_rfl
theorem find_us:∀ j,j<2→ixF (fun c:UsT=>c.name==(baseU.getD j .nil).name) baseU=(j:Int)
 | 0,_=>by kernel_rfl
 | 1,_=>by kernel_rfl
theorem pass_us:∀ j,j<2→0≤(baseU.getD j .nil).pass∧(baseU.getD j .nil).pass≤1073741824
 | 0,_=>by decide
 | 1,_=>by decide
theorem enterC (n:Int) (w:WT):enterL [pRec n w 100 60] ⟨101,1,0⟩ 0 n=[sessR 101 0,doorR 102 0 n 101 w]:=by kernel_rfl
theorem loginC (n u:Int) (w:WT):changeT [sessR 101 0,doorR 102 0 n 101 w] 0 0 { sessR 101 0 with user:=u }=[{ sessR 101 0 with user:=u },doorR 102 0 n 101 w]:=by kernel_rfl
theorem agreeC (n u:Int) (w:WT):(putS (takeT [{ sessR 101 0 with user:=u },doorR 102 0 n 101 w] 0 1) 0 (codeR 103 0 n u 101 w)).1=codedL n u w:=by kernel_rfl
theorem coded_ok (n u:Int) (k j:Nat) (hn:n=(k:Int)+1) (hk:k<3) (hu:u=(j:Int)+1) (hj:j<2):Pur Tryz.prog G 9 [.c (.int .i64 n),.c (.int .i64 u)] [.agg (encSt (codedS n u (rightT n))),.agg (encSo src4),.c (.int .i64 103)]:=by
 refine zp Tryz.func9 ?_
 have c1:=base_ok (G:=G)
 have c2:=right_ok (G:=G) n oM oM
 have f2:FitW (rightT n):=(fit_right n (30+withT n 3)).fit
 have c3:=push20_ok (G:=G) baseT fitS_base dC src0 ⟨by decide,by decide,by decide⟩ n (rightT n) f2
 rw [pushI n k hn hk] at c3
 generalize rightT n=w at *
 have e1:EqvD (.c (.int .i64 (n-1))) (.c (.int .i64 (k:Int))):=eqvD_of (by rw [show n-1=(k:Int) by omega])
 have e2:EqvD (.c (.int .i64 (u-1))) (.c (.int .i64 (j:Int))):=eqvD_of (by rw [show u-1=(j:Int) by omega])
 have c4:=enter_ok (G:=G) (recS [pRec n w 100 60]) ⟨101,1,0⟩ 0 (baseC.getD k .nil).id 100 k 0 (recS_fit _ (by show 1≤1000000;decide)) (by show 1≤1000;decide) ⟨by decide,by decide,by decide⟩ dC (find_cl k hk) kR (show n=(k:Int)+1 from hn) kR kR kR
 rw [← hn] at c4
 have c4:Pur Tryz.prog G 17 [.agg (encSt (recS [pRec n w 100 60])),.agg (encSo ⟨101,1,0⟩),.c (.int .i64 0),.c (.str (baseC.getD k .nil).id),.c (.int .i64 100)] [.agg (encSt (recS (enterL [pRec n w 100 60] ⟨101,1,0⟩ 0 n))),.agg (encSo ⟨103,1,0⟩),.c (.int .i64 101),.c (.int .i64 102),.c (.int .i64 0)]:=c4
 rw [enterC] at c4
 have hp:=pass_us j hj
 have c5:=Key_ok (G:=G) (baseU.getD j .nil).pass hp.1 hp.2
 have c6:=login_ok (G:=G) (recS [sessR 101 0,doorR 102 0 n 101 w]) 0 101 102 (baseU.getD j .nil).name (keyT (baseU.getD j .nil).pass) 0 1 j (recS_fit _ (by show 2≤1000000;decide)) (by show 2≤1000;decide) kR kR kR (find_us j hj) hp.1 hp.2 rfl
 rw [← hu] at c6
 have c6:Pur Tryz.prog G 18 [.agg (encSt (recS [sessR 101 0,doorR 102 0 n 101 w])),.c (.int .i64 0),.c (.int .i64 101),.c (.int .i64 102),.c (.str (baseU.getD j .nil).name),.c (.str (keyT (baseU.getD j .nil).pass))] [.agg (encSt (recS (changeT [sessR 101 0,doorR 102 0 n 101 w] 0 0 { sessR 101 0 with user:=u }))),.c (.int .i64 0)]:=c6
 rw [loginC] at c6
 have c7:=agree_ok (G:=G) (recS [{ sessR 101 0 with user:=u },doorR 102 0 n 101 w]) ⟨103,1,0⟩ 101 102 0 1 (recS_fit _ (by show 2≤1000000;decide)) (by show 2≤1000;decide) ⟨by decide,by decide,by decide⟩ dC kR kR kR (by show (u==0)=false;simp;omega) kR
 have c7:Pur Tryz.prog G 20 [.agg (encSt (recS [{ sessR 101 0 with user:=u },doorR 102 0 n 101 w])),.agg (encSo ⟨103,1,0⟩),.c (.int .i64 101),.c (.int .i64 102),.c (.bool true)] [.agg (encSt (recS (putS (takeT [{ sessR 101 0 with user:=u },doorR 102 0 n 101 w] 0 1) 0 (codeR 103 0 n u 101 w)).1)),.agg (encSo src4),.agg (encRc (doorR 102 0 n 101 w)),.c (.int .i64 103),.c (.int .i64 0)]:=c7
 rw [agreeC] at c7
 clear hp
 have hi:0≤(j:Int)∧(j:Int)<((recS [sessR 101 0,doorR 102 0 n 101 w]).usr.length:Int):=⟨by omega,by show (j:Int)<((2:Nat):Int);omega⟩
 refine zg [(3,{cs:=[(10,pc c4)],fm:=[(5,.c (.int .i64 (k:Int)))]}),(4,{cs:=[(19,pc c5),(20,pc c6)],fm:=[(8,.c (.int .i64 (j:Int))),(15,.c (.int .i64 (j:Int)))]}),(1,{cs:=[(0,pc c1)]}),(2,{cs:=[(4,pc c2),(5,pc c3)]}),(5,{cs:=[(4,pc c7)]})] [] [EqvI (.c (.int .i64 (n-1))) (.c (.int .i64 (k:Int))),EqvD (.c (.int .i64 (n-1))) (.c (.int .i64 (k:Int))),inR .i64 (n-1),(0:Int)≤(k:Int)∧(k:Int)<(↑(3:Nat):Int),EqvI (.c (.int .i64 (u-1))) (.c (.int .i64 (j:Int))),EqvD (.c (.int .i64 (u-1))) (.c (.int .i64 (j:Int))),inR .i64 (u-1),(0:Int)≤(j:Int)∧(j:Int)<(↑(recS [sessR (101:Int) (0:Int),doorR (102:Int) (0:Int) n (101:Int) w]).usr.length:Int),EqvI (.c (.int .i64 (u-1))) (.c (.int .i64 (j:Int))),EqvD (.c (.int .i64 (u-1))) (.c (.int .i64 (j:Int))),inR .i64 (u-1),(0:Int)≤(j:Int)∧(j:Int)<(↑(recS [sessR (101:Int) (0:Int),doorR (102:Int) (0:Int) n (101:Int) w]).usr.length:Int)] ⟨fun _ _=>trivial,aS,i6,oM,fun _ _=>trivial,aS,i6,oM,fun _ _=>trivial,aS,i6,(show (0:Int)≤(↑j:Int)∧(↑j:Int)<(↑(recS [sessR (101:Int) (0:Int),doorR (102:Int) (0:Int) n (101:Int) w]).usr.length:Int) from oM)⟩ ?_
 exact zr
theorem live_all {now:Int} {l:List RcT} (h:∀ x∈l,now<x.til):liveT now l=l:=by
 unfold liveT;exact List.filter_eq_self.2 fun x hx=>decide_eq_true (h x hx)
theorem putS_in {l:List RcT} {now:Int} {r:RcT} (hl:liveT now l=l) (hm:mostT r.kind≠0) (ha:l.any (fun x=>x.key==r.key)=false) (hr:roomK l now r.kind≠0):putS l now r=(l++[r],0):=by
 unfold putS;rw [if_neg hm,hl,ha,if_neg (by simp),if_neg hr]
theorem roomK_of {l:List RcT} {now:Int} (kind:Int) (hl:liveT now l=l):roomK l now kind=maxZ (mostT kind-((l.filter (roomP kind)).length:Int)):=by
 unfold roomK;rw [hl]
def sesR (u:Int):RcT:=⟨2,101,900,false,0,u,0,0,.nil⟩
def cdR (n u:Int) (w:WT):RcT:=⟨4,103,40,false,n,u,101,103,w⟩
def usedR (r:RcT):RcT:={ r with used:=true }
def redL (n u:Int) (w:WT) (t:Int):List RcT:=[sesR u,usedR (cdR n u w),tokR 5 104 (t+300) (cdR n u w) w.scope,tokR 6 105 (t+600) (cdR n u w) w.scope]
theorem coded_live (n u:Int) (w:WT) {t:Int} (h:t<40):liveT t (codedL n u w)=codedL n u w:=live_all fun x hx=>by
 simp only [codedL,List.mem_cons,List.not_mem_nil,or_false] at hx
 rcases hx with rfl | rfl
 ·show t<900;omega
 ·show t<40;omega
theorem coded_find (n u:Int) (w:WT) {t:Int} (h:t<40):findT (codedL n u w) t 4 103=(cdR n u w,true):=by
 have hk:ixF (findP 4 103) (liveT t (codedL n u w))=((1:Nat):Int):=by rw [coded_live n u w h];kernel_rfl
 rw [findT_at hk,coded_live n u w h];rfl
theorem redeem_yes (n u t:Int) (w:WT) (to ver:List UInt8) (ht0:0≤t) (ht:t<40) (hto:w.redir=to) (ch:Pur Tryz.prog G 55 [.c (.str w.chal),.c (.str ver)] [.c (.bool true)]) :
  Pur Tryz.prog G 11 [.agg (encSt (codedS n u w)),.agg (encSo ⟨104,1,t⟩),.c (.int .i64 n),.c (.int .i64 103),.c (.str to),.c (.str ver)] [.agg (encSt (recS (redL n u w t))),.agg (encSo ⟨106,1,t⟩),.agg (encGr ⟨104,105,cdR n u w⟩),.c (.int .i64 0)]:=by
 have lv:=coded_live n u w ht
 have hf:findT (codedS n u w).recs (⟨104,1,t⟩:SoT).now 4 (⟨n,103,to,ver,[]⟩:AsT).key=(cdR n u w,true):=coded_find n u w ht
 have cc:=code_ok (G:=G) (codedS n u w) ⟨104,1,t⟩ .nil ⟨n,103,to,ver,[]⟩ (by show 2≤100000;decide) hf (by show (n != n)=false;simp) rfl ch (by show (!(w.redir==to&&(true==true&&true)))=false;rw [hto];simp)
 have hc:changeT (codedL n u w) t 1 (usedR (cdR n u w))=[sesR u,usedR (cdR n u w)]:=by unfold changeT;rw [lv];rfl
 have lv0:liveT t [sesR u,usedR (cdR n u w)]=[sesR u,usedR (cdR n u w)]:=live_all fun x hx=>by
  simp only [List.mem_cons,List.not_mem_nil,or_false] at hx
  rcases hx with rfl | rfl
  ·show t<900;omega
  ·show t<40;omega
 have lv1:liveT t [sesR u,usedR (cdR n u w),tokR 5 104 (t+300) (cdR n u w) w.scope]=[sesR u,usedR (cdR n u w),tokR 5 104 (t+300) (cdR n u w) w.scope]:=live_all fun x hx=>by
  simp only [List.mem_cons,List.not_mem_nil,or_false] at hx
  rcases hx with rfl | rfl | rfl
  ·show t<900;omega
  ·show t<40;omega
  ·show t<t+300;omega
 have r5:roomK [sesR u,usedR (cdR n u w)] t 5=12:=by rw [roomK_of 5 lv0];kernel_rfl
 have r6:roomK [sesR u,usedR (cdR n u w),tokR 5 104 (t+300) (cdR n u w) w.scope] t 6=12:=by rw [roomK_of 6 lv1];kernel_rfl
 have hp1:putS (changeT (codedL n u w) t 1 (usedR (cdR n u w))) t (tokR 5 104 (t+300) (cdR n u w) w.scope)=([sesR u,usedR (cdR n u w),tokR 5 104 (t+300) (cdR n u w) w.scope],0):=by
  rw [hc,putS_in (r:=tokR 5 104 (t+300) (cdR n u w) w.scope) lv0 (by show (12:Int)≠0;decide) kR (by show roomK _ t 5≠0;rw [r5];decide)];rfl
 have hp2:putS [sesR u,usedR (cdR n u w),tokR 5 104 (t+300) (cdR n u w) w.scope] t (tokR 6 105 (t+600) (cdR n u w) w.scope)=(redL n u w t,0):=by
  rw [putS_in (r:=tokR 6 105 (t+600) (cdR n u w) w.scope) lv1 (by show (12:Int)≠0;decide) kR (by show roomK _ t 6≠0;rw [r6];decide)];rfl
 have ci:=issues_ok (G:=G) (codedS n u w) ⟨104,1,t⟩ (cdR n u w) w.scope 1 (by show 2≤900;decide) ⟨ht0,by show t≤1000000000;omega,by show (-1000000000000:Int)≤104;decide⟩ (by show (104:Int)<1073741824;decide)
  (by show (roomK (codedL n u w) t 5==0)=false;rw [roomK_of 5 lv];kernel_rfl) (by show (roomK (codedL n u w) t 6==0)=false;rw [roomK_of 6 lv];kernel_rfl) (by show ixF (findP 4 103) (liveT t (codedL n u w))=_;rw [lv];kernel_rfl) hp1 (by show 3≤900;decide) hp2
 exact redeem_of (codedS n u w) ⟨104,1,t⟩ n 103 to ver (servesC_ok (codedS n u w) ⟨104,1,t⟩ ⟨n,103,to,ver,[]⟩ (cdR n u w) (recS (redL n u w t)) ⟨106,1,t⟩ ⟨104,105,cdR n u w⟩ (recS_fit (codedL n u w) (by show 2≤1000000;decide)) rfl cc ci)
theorem redeem_gone (n u t:Int) (w:WT) (client key:Int) (to ver:List UInt8) (h:findT (codedL n u w) t 4 key=(.nil,false)∨(findT (codedL n u w) t 4 key=(cdR n u w,true)∧n≠client)) :
  Pur Tryz.prog G 11 [.agg (encSt (codedS n u w)),.agg (encSo ⟨104,1,t⟩),.c (.int .i64 client),.c (.int .i64 key),.c (.str to),.c (.str ver)] [.agg (encSt (codedS n u w)),.agg (encSo ⟨104,1,t⟩),.agg (encGr .nil),.c (.int .i64 13)]:=by
 have cc:FnB Tryz.prog G 28 [deskI (codedS n u w) ⟨104,1,t⟩ .nil] [.c (.ptr 0 0),.agg (encAs ⟨client,key,to,ver,[]⟩)] [.c (.int .i64 13)] [(0,deskI (codedS n u w) ⟨104,1,t⟩ .nil)]:=by
  rcases h with h | ⟨h,hne⟩
  ·exact code_no (codedS n u w) ⟨104,1,t⟩ .nil ⟨client,key,to,ver,[]⟩ (by show 2≤100000;decide) h (Or.inl rfl)
  ·exact code_no (codedS n u w) ⟨104,1,t⟩ .nil ⟨client,key,to,ver,[]⟩ (by show 2≤100000;decide) h (Or.inr (by show (n != client)=true;simp [hne]))
 exact redeem_of (codedS n u w) ⟨104,1,t⟩ client key to ver (servesC_no (codedS n u w) ⟨104,1,t⟩ ⟨client,key,to,ver,[]⟩ .nil (recS_fit (codedL n u w) (by show 2≤1000000;decide)) cc)
theorem within22_ok (a n:Int) (hn:0<n) (hm:n≤9223372036854775807):Pur Tryz.prog G 8 [.c (.int .i64 a),.c (.int .i64 n)] [.c (.int .i64 (withT a n))]:=by
 refine zp Tryz.func8 ?_
 have h1:=tmod_lo a n hn
 refine zg [] [] [n≠(0:Int)] (oN oM) ?_
 refine zc (decide (a.tmod n<(0:Int))) (fun h0 => ?_) (fun h0 => ?_)
 ·have g0:=of_decide_eq_true h0
  refine zg [] [] [inR .i64 (a.tmod n+n)] (i6) ?_
  exact zS [.c (.int .i64 (a.tmod n+n))] (by simp [withT, *];done)
 ·have g0:=of_decide_eq_false h0
  refine z0 [] [] ?_
  exact zS [.c (.int .i64 (a.tmod n))] (by simp [withT, *];done)
theorem chq00:([126]++encHB 30++[126]==chalT 30)=true:=by kernel_rfl
theorem chq11:([126]++encHB 31++[126]==chalT 31)=true:=by kernel_rfl
theorem chq22:([126]++encHB 32++[126]==chalT 32)=true:=by kernel_rfl
theorem chq01:([126]++encHB 30++[126]==chalT 31)=false:=by kernel_rfl
theorem chq02:([126]++encHB 30++[126]==chalT 32)=false:=by kernel_rfl
theorem chq10:([126]++encHB 31++[126]==chalT 30)=false:=by kernel_rfl
theorem chq12:([126]++encHB 31++[126]==chalT 32)=false:=by kernel_rfl
theorem chq20:([126]++encHB 32++[126]==chalT 30)=false:=by kernel_rfl
theorem chq21:([126]++encHB 32++[126]==chalT 31)=false:=by kernel_rfl
theorem chq (a b:Int) (ha:0≤a∧a<3) (hb:0≤b∧b<3):([126]++encHB (30+a)++[126]==chalT (30+b))=(a==b):=by
 obtain rfl | rfl | rfl:a=0∨a=1∨a=2:=by omega
 ·obtain rfl | rfl | rfl:b=0∨b=1∨b=2:=by omega
  ·exact chq00
  ·exact chq01
  ·exact chq02
 ·obtain rfl | rfl | rfl:b=0∨b=1∨b=2:=by omega
  ·exact chq10
  ·exact chq11
  ·exact chq12
 ·obtain rfl | rfl | rfl:b=0∨b=1∨b=2:=by omega
  ·exact chq20
  ·exact chq21
  ·exact chq22
theorem holdsV (v n:Int):Pur Tryz.prog G 55 [.c (.str (rightT n).chal),.c (.str (verT v))] [.c (.bool (withT v 3==withT n 3))]:=by
 have h1:=withT_rng v 3 dC
 have h2:=withT_rng n 3 dC
 have c:=holds_ok (G:=G) (chalT (30+withT n 3)) (verT v) (k:=30+withT v 3) (by show (keyT (30+withT v 3)).length≤30000000000000;rw [key_len];decide) (readVer v) oM oM
 rw [chq _ _ ⟨h1.1,h1.2⟩ ⟨h2.1,h2.2⟩] at c
 exact c
def srcN (n t:Int):SoT:=⟨n,1,t⟩
def grN (a b:Int) (r:RcT):GrT:=⟨a,b,r⟩
theorem renewK (w:WT):∃ l:List RcT,Pur Tryz.prog G 22 [.agg (encSt (recS (redL 1 1 w 0))),.agg (encSo (srcN 106 0)),.c (.int .i64 1),.c (.int .i64 105),.c (.str [])] [.agg (encSt (recS l)),.agg (encSo (srcN 108 0)),.agg (encGr (grN 106 107 (tokR 6 105 600 (cdR 1 1 w) w.scope))),.c (.int .i64 0)]:=by
 have hf:findT (redL 1 1 w 0) 0 6 105=(tokR 6 105 600 (cdR 1 1 w) w.scope,true):=by kernel_rfl
 have cc:=refresh_ok (G:=G) (recS (redL 1 1 w 0)) ⟨106,1,0⟩ .nil ⟨1,105,[],[],[]⟩ (by show 4≤100000;decide) hf kR rfl rfl
 have ci:=issues_ok (G:=G) (recS (redL 1 1 w 0)) ⟨106,1,0⟩ (tokR 6 105 600 (cdR 1 1 w) w.scope) w.scope 3 (by show 4≤900;decide) ⟨by decide,by decide,by decide⟩ dC kR kR kR
  (v1:=(putS (changeT (redL 1 1 w 0) 0 3 (usedR (tokR 6 105 600 (cdR 1 1 w) w.scope))) 0 (tokR 5 106 (0+300) (tokR 6 105 600 (cdR 1 1 w) w.scope) w.scope)).1) (Prod.ext rfl kR) (Nat.le_trans (Nat.le_of_eq (show _=5 from by kernel_rfl)) dC)
  (v2:=(putS (putS (changeT (redL 1 1 w 0) 0 3 (usedR (tokR 6 105 600 (cdR 1 1 w) w.scope))) 0 (tokR 5 106 (0+300) (tokR 6 105 600 (cdR 1 1 w) w.scope) w.scope)).1 0 (tokR 6 107 (0+600) (tokR 6 105 600 (cdR 1 1 w) w.scope) w.scope)).1) (Prod.ext rfl kR)
 exact ⟨_,renew_of (recS (redL 1 1 w 0)) ⟨106,1,0⟩ 1 105 (servesR_ok (recS (redL 1 1 w 0)) ⟨106,1,0⟩ ⟨1,105,[],[],[]⟩ (tokR 6 105 600 (cdR 1 1 w) w.scope) (recS _) ⟨108,1,0⟩ ⟨106,107,tokR 6 105 600 (cdR 1 1 w) w.scope⟩ (recS_fit _ (by show 4≤1000000;decide)) rfl cc ci)⟩
theorem known22_ok:Pur Tryz.prog G 7 [] [.c (.bool true)]:=by
 refine zp Tryz.func7 ?_
 have c1:=coded_ok (G:=G) 1 1 0 0 rfl dC rfl dC
 have c2:=ver_ok (G:=G) 1
 have ch:=holdsV (G:=G) 1 1
 have hr:(rightT 1).redir=[104,116,116,112,115,58,47,47,99,49,47,99,98]:=rfl
 rw [show (withT 1 3==withT 1 3)=true from by kernel_rfl] at ch
 generalize rightT 1=w at *
 have c3:Pur Tryz.prog G 11 [.agg (encSt (codedS 1 1 w)),.agg (encSo src4),.c (.int .i64 1),.c (.int .i64 7),.c (.str [104,116,116,112,115,58,47,47,99,49,47,99,98]),.c (.str (verT 1))] [.agg (encSt (codedS 1 1 w)),.agg (encSo src4),.agg (encGr .nil),.c (.int .i64 13)]:=redeem_gone 1 1 0 w 1 7 [104,116,116,112,115,58,47,47,99,49,47,99,98] (verT 1) (Or.inl kR)
 have c4:Pur Tryz.prog G 11 [.agg (encSt (codedS 1 1 w)),.agg (encSo src4),.c (.int .i64 1),.c (.int .i64 103),.c (.str [104,116,116,112,115,58,47,47,99,49,47,99,98]),.c (.str (verT 1))] [.agg (encSt (recS (redL 1 1 w 0))),.agg (encSo (srcN 106 0)),.agg (encGr (grN 104 105 (cdR 1 1 w))),.c (.int .i64 0)]:=redeem_yes 1 1 0 w [104,116,116,112,115,58,47,47,99,49,47,99,98] (verT 1) dC dC hr ch
 obtain ⟨l,c5⟩:=renewK (G:=G) w
 generalize verT 1=vv at *
 clear ch hr
 refine zg [(1,{cs:=[(0,pc c1)]}),(2,{cs:=[(2,pc c2),(3,pc c3)]}),(3,{cs:=[(3,pc c2),(4,pc c4)]}),(4,{cs:=[(4,pc c5)]})] [] [(bif bif (13:Int)==(13:Int) then (0:Int)==(0:Int) else false then (grN (104:Int) (105:Int) (cdR (1:Int) (1:Int) w)).acc==src4.n else false)=true→inR .i64 (src4.n+(1:Int))] (fun _=>inR64 dC dC) ?_
 exact zr
theorem found22_ok (s:StT) (now kind client key:Int) {r:RcT} (hr:s.recs.length≤100000) (hf:findT s.recs now kind key=(r,true)) (h1:(r.client != client)=false) (h2:r.used=false):Pur Tryz.prog G 46 [.agg (encSt s),.c (.int .i64 now),.c (.int .i64 kind),.c (.int .i64 client),.c (.int .i64 key)] [.agg (encSt s),.agg (encRc r),.c (.bool true)]:=by
 refine zp Tryz.func46 ?_
 have c:=find19_ok (G:=G) s.recs now kind key oM
 rw [hf] at c
 simp only at c
 clear hf
 refine zg [(1,{cs:=[(5,pc c)]})] [false,false] [(bif !true then true else r.client != client)=false,r.used=false] ⟨aS,(show r.used=false from aS)⟩ ?_
 exact zr
theorem holds18_ok (ch s:List UInt8) {k:Int} (hs:s.length≤30000000000000) (h:readT s=some (.no k.toNat)) (h0:0≤k) (h1:k≤1073741824):Pur Tryz.prog G 47 [.c (.str ch),.c (.str s)] [.c (.bool (chalT k==ch))]:=by
 refine zp Tryz.func47 ?_
 have c:=chal_ok (G:=G) s hs h h0 h1
 clear h
 generalize chalT k=x at *
 refine z0 [(1,{cs:=[(1,pc c)]})] [] ?_
 exact zr
theorem issued_ok (s:StT) (src:SoT) (e:RcT) (words:List UInt8) (k:Nat) (hr:s.recs.length≤900) (hf:FitR src) (hn:src.n<1073741824) (h5:(roomK s.recs src.now 5==0)=false) (h6:(roomK s.recs src.now 6==0)=false)
  (hk:ixF (findP e.kind e.key) (liveT src.now s.recs)=(k:Int)) {v1 v2:List RcT} (hp1:putS (changeT s.recs src.now k { e with used:=true }) src.now (tokR 5 src.n (src.now+300) e words)=(v1,0)) (hv1:v1.length≤900) (hp2:putS v1 src.now (tokR 6 (src.n+1) (src.now+600) e words)=(v2,0)) :
  Pur Tryz.prog G 48 [.agg (encSt s),.agg (encSo src),.agg (encRc e),.c (.str words)] [.agg (encSt { s with recs:=v2 }),.agg (encSo ⟨src.n+1+1,src.conn,src.now⟩),.agg (encGr ⟨src.n,src.n+1,e⟩),.c (.int .i64 0)]:=by
 refine zp Tryz.func48 ?_
 have hw0:=hf.now0
 have hw1:=hf.now1
 have hn0:=hf.n
 have c5:Pur Tryz.prog G 35 [.agg (encSo src)] [.c (.int .i64 src.n),.agg (encSo (nextS src)),.c (.bool true)]:=nonce5_ok src oM hn0
 have d5:Pur Tryz.prog G 35 [.agg (encSo (nextS src))] [.c (.int .i64 (src.n+1)),.agg (encSo (nextS (nextS src))),.c (.bool true)]:=nonce5_ok (nextS src) (by show src.n+1≤1073741824;omega) (by show -1000000000000≤src.n+1;omega)
 have r5:=room19_ok (G:=G) s.recs src.now 5 oM
 have r6:=room19_ok (G:=G) s.recs src.now 6 oM
 have c1:=change19_ok (G:=G) s.recs src.now { e with used:=true } k oM hk
 have hcl:(changeT s.recs src.now k { e with used:=true }).length≤1000:=by
  have:=live_len src.now s.recs
  unfold changeT;rw [List.length_set];omega
 have l5:=life19A_ok (G:=G) 5
 have l6:=life19A_ok (G:=G) 6
 have u5:Pur Tryz.prog G 38 [.c (.int .i64 src.now),.c (.int .i64 300)] [.c (.int .i64 (src.now+300))]:=until5_ok src.now 300 hw0 hw1 dC dC
 have u6:Pur Tryz.prog G 38 [.c (.int .i64 src.now),.c (.int .i64 600)] [.c (.int .i64 (src.now+600))]:=until5_ok src.now 600 hw0 hw1 dC dC
 have p5:=put19_ok (G:=G) (changeT s.recs src.now k { e with used:=true }) src.now (tokR 5 src.n (src.now+300) e words) oM
 rw [hp1] at p5
 have p6:=put19_ok (G:=G) v1 src.now (tokR 6 (src.n+1) (src.now+600) e words) oM
 rw [hp2] at p6
 simp only at p5 p6
 clear hp1 hp2 hk
 generalize changeT s.recs src.now k { e with used:=true }=v0 at *
 generalize roomK s.recs src.now 5=ro5 at *
 generalize roomK s.recs src.now 6=ro6 at *
 refine zg [(1,{cs:=[(1,pc c5)]}),(2,{cs:=[(1,pc d5)]}),(3,{cs:=[(11,pc r5),(19,pc r6)]}),(7,{cs:=[(5,pc c1)]}),(9,{cs:=[(6,pc l5),(7,pc u5),(16,pc p5)]}),(10,{cs:=[(6,pc l6),(7,pc u6),(16,pc p6)]})] [false] [(bif bif bif !true then true else !true then true else ro5==(0:Int) then true else ro6==(0:Int))=false] (show (bif bif bif !true then true else !true then true else ro5==(0:Int) then true else ro6==(0:Int))=false from (by simp_all<;>omega)) ?_
 exact zr
theorem redeem22_ok (s:StT) (src:SoT) (client code:Int) (to ver:List UInt8) {r:RcT} {s2:StT} {src2:SoT} {g:GrT} (hr:s.recs.length≤100000) (hf:findT s.recs src.now 4 code=(r,true)) (h1:(r.client != client)=false) (h2:r.used=false) (h3:(!(r.w.redir==to))=false)
  (c2:Pur Tryz.prog G 47 [.c (.str r.w.chal),.c (.str ver)] [.c (.bool true)]) (c3:Pur Tryz.prog G 48 [.agg (encSt s),.agg (encSo src),.agg (encRc r),.c (.str r.w.scope)] [.agg (encSt s2),.agg (encSo src2),.agg (encGr g),.c (.int .i64 0)]) :
  Pur Tryz.prog G 21 [.agg (encSt s),.agg (encSo src),.c (.int .i64 client),.c (.int .i64 code),.c (.str to),.c (.str ver)] [.agg (encSt s2),.agg (encSo src2),.agg (encGr g),.c (.int .i64 0)]:=by
 refine zp Tryz.func21 ?_
 have c1:=found22_ok (G:=G) s src.now 4 client code hr hf h1 h2
 clear hf h1 h2
 refine zg [(1,{cs:=[(5,pc c1)]}),(2,{cs:=[(14,pc c2)]}),(4,{cs:=[(6,pc c3)]})] [false] [(bif bif !true then true else !r.w.redir==to then true else !true)=false] (show (bif bif !true then true else !r.w.redir==to then true else !true)=false from (by simp_all<;>omega)) ?_
 exact zr
theorem rcEq_self (r:RcT):rcEq r r=true:=by
 unfold rcEq;simp
theorem sameL_self {α:Type} (d:α) (p:α→α→Bool) (h:∀ x,p x x=true) (a:List α):sameL d p a a=true:=by
 unfold sameL;rw [allE_yes (fun k _=>h _)];simp
theorem clEq_self (x:ClT):clEq x x=true:=by
 unfold clEq clNe;rw [allE_yes (fun k _=>by unfold stEq;simp)];simp
theorem usEq_self (x:UsT):usEq x x=true:=by unfold usEq;simp
theorem sameS_self (s:StT):sameS s s=true:=by
 unfold sameS;rw [sameL_self _ _ clEq_self,sameL_self _ _ usEq_self,sameL_self _ _ rcEq_self];simp
theorem granted_ok (n u:Int) (k j:Nat) (hn:n=(k:Int)+1) (hk:k<3) (hu:u=(j:Int)+1) (hj:j<2):Pur Tryz.prog G 15 [.c (.int .i64 n),.c (.int .i64 u)] [.agg (encSt (recS (redL n u (rightT n) 0))),.agg (encSo (srcN 106 0)),.agg (encGr (grN 104 105 (cdR n u (rightT n)))),.c (.int .i64 103)]:=by
 refine zp Tryz.func15 ?_
 have c1:=coded_ok (G:=G) n u k j hn hk hu hj
 have c2:=right_ok (G:=G) n oM oM
 have c3:=ver_ok (G:=G) n
 have hw:=withT_rng n 3 dC
 have ch:=holds18_ok (G:=G) (rightT n).chal (verT n) (k:=30+withT n 3) (by show (keyT (30+withT n 3)).length≤30000000000000;rw [key_len];decide) (readVer n) oM oM
 rw [show (chalT (30+withT n 3)==(rightT n).chal)=true from by show (chalT (30+withT n 3)==chalT (30+withT n 3))=true;simp] at ch
 generalize rightT n=w at *
 generalize verT n=vv at *
 have ci:=issued_ok (G:=G) (codedS n u w) src4 (cdR n u w) w.scope 1 (by show 2≤900;decide) ⟨by decide,by decide,by decide⟩ dC kR kR kR
  (v1:=[sesR u,usedR (cdR n u w),tokR 5 104 (0+300) (cdR n u w) w.scope]) kR (by show 3≤900;decide) (v2:=redL n u w 0) kR
 have c4:Pur Tryz.prog G 21 [.agg (encSt (codedS n u w)),.agg (encSo src4),.c (.int .i64 n),.c (.int .i64 103),.c (.str w.redir),.c (.str vv)] [.agg (encSt (recS (redL n u w 0))),.agg (encSo (srcN 106 0)),.agg (encGr (grN 104 105 (cdR n u w))),.c (.int .i64 0)] :=
  redeem22_ok (codedS n u w) src4 n 103 w.redir vv (by show 2≤100000;decide) (coded_find n u w (t:=0) dC) (by show (n != n)=false;simp) rfl (by show (!(w.redir==w.redir))=false;simp) ch ci
 clear ch ci hw
 refine z0 [(1,{cs:=[(2,pc c1)]}),(2,{cs:=[(5,pc c2),(8,pc c3),(9,pc c4)]})] [] ?_
 exact zr
theorem issuesF1 (s:StT) (src:SoT) (e:RcT) (words:List UInt8) (hr:s.recs.length≤900) (h5:(roomK s.recs src.now 5==0)=true) :
  FnB Tryz.prog G 53 [deskI s src e] [.c (.ptr 0 0),.c (.str words)] [.agg (encGr .nil),.c (.int .i64 16)] [(0,deskI s src e)]:=by
 refine zf Tryz.func53 ?_
 have d5:=full_ok (G:=G) s src e 5 oM
 rw [h5] at d5
 clear h5
 refine zg [(1,{fm:=[(0,.c (clo1 71 (.ptr 1 0)))]}),(2,{cs:=[(1,cb [1,0] d5)],grd:=[(3,false),(4,false),(5,true),(7,false),(8,false),(9,false),(10,false),(11,false),(12,false),(13,true)]})] [true] [EqvI (.c (cloRaw 71 [.c (.ptr 1 0)])) (.c (clo1 71 (.ptr 1 0))),EqvD (.c (cloRaw 71 [.c (.ptr 1 0)])) (.c (clo1 71 (.ptr 1 0))),true = !false,true = !false,true=true,true = !false,true = !false,true = !false,true = !false,true = !false,true = !false,true=true,true=true] ⟨clo1_I _ _,clo1_D _ _,rfl,rfl,rfl,rfl,rfl,rfl,rfl,rfl,rfl,rfl,rfl⟩ ?_
 exact zb []
theorem issuesF3 (s:StT) (src:SoT) (e:RcT) (words:List UInt8) (hr:s.recs.length≤900) (h5:(roomK s.recs src.now 5==0)=false) (h6:(roomK s.recs src.now 6==0)=true) :
  FnB Tryz.prog G 53 [deskI s src e] [.c (.ptr 0 0),.c (.str words)] [.agg (encGr .nil),.c (.int .i64 16)] [(0,deskI s src e)]:=by
 refine zf Tryz.func53 ?_
 have d5:=full_ok (G:=G) s src e 5 oM
 rw [h5] at d5
 have d6:=full_ok (G:=G) s src e 6 oM
 rw [h6] at d6
 clear h5 h6
 refine zg [(1,{fm:=[(0,.c (clo1 71 (.ptr 1 0)))]}),(2,{cs:=[(1,cb [1,0] d5),(4,cb [1,0] d6)],grd:=[(3,true),(4,true),(7,false),(8,false),(9,false),(10,false),(11,false),(12,false),(13,true)]})] [true] [EqvI (.c (cloRaw 71 [.c (.ptr 1 0)])) (.c (clo1 71 (.ptr 1 0))),EqvD (.c (cloRaw 71 [.c (.ptr 1 0)])) (.c (clo1 71 (.ptr 1 0))),false=false,false=false,(bif false then true else true) = !false,(bif false then true else true) = !false,(bif false then true else true) = !false,(bif false then true else true) = !false,(bif false then true else true) = !false,(bif false then true else true) = !false,(bif false then true else true)=true,true=true] ⟨clo1_I _ _,clo1_D _ _,rfl,rfl,rfl,rfl,rfl,rfl,rfl,rfl,rfl,rfl⟩ ?_
 exact zb []
theorem issuesF2 (s:StT) (src:SoT) (e:RcT) (words:List UInt8) (hr:s.recs.length≤900) (hn:1073741824≤src.n) (h5:(roomK s.recs src.now 5==0)=false) (h6:(roomK s.recs src.now 6==0)=false) :
  FnB Tryz.prog G 53 [deskI s src e] [.c (.ptr 0 0),.c (.str words)] [.agg (encGr .nil),.c (.int .i64 16)] [(0,deskI s src e)]:=by
 refine zf Tryz.func53 ?_
 have d5:=full_ok (G:=G) s src e 5 oM
 rw [h5] at d5
 have d6:=full_ok (G:=G) s src e 6 oM
 rw [h6] at d6
 have t1:decide (src.n≥1073741824)=true:=decide_eq_true hn
 clear h5 h6
 refine zg [(1,{fm:=[(0,.c (clo1 71 (.ptr 1 0)))]}),(2,{cs:=[(1,cb [1,0] d5),(4,cb [1,0] d6)],grd:=[(3,true),(4,true),(7,true),(8,true),(9,true),(10,true),(11,true),(12,true)]})] [true] [EqvI (.c (cloRaw 71 [.c (.ptr 1 0)])) (.c (clo1 71 (.ptr 1 0))),EqvD (.c (cloRaw 71 [.c (.ptr 1 0)])) (.c (clo1 71 (.ptr 1 0))),false=false,false=false,(bif false then true else false)=false,(bif false then true else false)=false,(bif false then true else false)=false,(bif false then true else false)=false,(bif false then true else false)=false,(bif false then true else false)=false,(bif bif false then true else false then true else decide (src.n≥(1073741824:Int)))=true] ⟨clo1_I _ _,clo1_D _ _,rfl,rfl,rfl,rfl,rfl,rfl,rfl,rfl,(show (bif bif false then true else false then true else decide (src.n≥(1073741824:Int)))=true from aS)⟩ ?_
 exact zb []
def tkW (sc:List UInt8):WT:=⟨[],[],sc,[],[],[],[]⟩
def accF (n u:Int) (sc:List UInt8) (j:Nat):RcT:=⟨5,104+2*(j:Int),300,false,n,u,0,103,tkW sc⟩
def refF (n u:Int) (sc:List UInt8) (b:Bool) (j:Nat):RcT:=⟨6,105+2*(j:Int),600,b,n,u,0,103,tkW sc⟩
def fullR (n u:Int) (w:WT) (i:Nat):List RcT:=sesR u::usedR (cdR n u w)::(List.range (i+1)).flatMap fun (j:Nat)=>[accF n u w.scope j,refF n u w.scope (decide (j<i)) j]
def midR (n u:Int) (w:WT) (i:Nat):List RcT:=sesR u::usedR (cdR n u w)::((List.range (i+1)).flatMap fun (j:Nat)=>[accF n u w.scope j,refF n u w.scope true j])++[accF n u w.scope (i+1)]
structure StepF (n u:Int) (w:WT) (i:Nat):Prop where
 find:findT (fullR n u w i) 0 6 (105+2*(i:Int))=(refF n u w.scope false i,true)
 r5:(roomK (fullR n u w i) 0 5==0)=false
 r6:(roomK (fullR n u w i) 0 6==0)=false
 ix:ixF (findP 6 (105+2*(i:Int))) (liveT 0 (fullR n u w i))=((3+2*i:Nat):Int)
 p1:putS (changeT (fullR n u w i) 0 (3+2*i) { refF n u w.scope false i with used:=true }) 0 (tokR 5 (106+2*(i:Int)) (0+300) (refF n u w.scope false i) w.scope)=(midR n u w i,0)
 p2:putS (midR n u w i) 0 (tokR 6 (106+2*(i:Int)+1) (0+600) (refF n u w.scope false i) w.scope)=(fullR n u w (i+1),0)
 l1:(fullR n u w i).length=4+2*i
 l2:(midR n u w i).length=5+2*i
theorem stepF (n u:Int) (w:WT):∀ i,i<11→StepF n u w i
 | 0,_=>⟨kR,kR,kR,kR,kR,kR,kR,kR⟩
 | 1,_=>⟨kR,kR,kR,kR,kR,kR,kR,kR⟩
 | 2,_=>⟨kR,kR,kR,kR,kR,kR,kR,kR⟩
 | 3,_=>⟨kR,kR,kR,kR,kR,kR,kR,kR⟩
 | 4,_=>⟨kR,kR,kR,kR,kR,kR,kR,kR⟩
 | 5,_=>⟨kR,kR,kR,kR,kR,kR,kR,kR⟩
 | 6,_=>⟨kR,kR,kR,kR,kR,kR,kR,kR⟩
 | 7,_=>⟨kR,kR,kR,kR,kR,kR,kR,kR⟩
 | 8,_=>⟨kR,kR,kR,kR,kR,kR,kR,kR⟩
 | 9,_=>⟨kR,kR,kR,kR,kR,kR,kR,kR⟩
 | 10,_=>⟨kR,kR,kR,kR,kR,kR,kR,kR⟩
 | i+11,h=>by omega
theorem full0 (n u:Int) (w:WT):redL n u w 0=fullR n u w 0:=kR
theorem renewS (n u:Int) (w:WT) (i:Nat) (hi:i<11):Pur Tryz.prog G 22 [.agg (encSt (recS (fullR n u w i))),.agg (encSo (srcN (106+2*(i:Int)) 0)),.c (.int .i64 n),.c (.int .i64 (105+2*(i:Int))),.c (.str [])] [.agg (encSt (recS (fullR n u w (i+1)))),.agg (encSo (srcN (106+2*(i:Int)+1+1) 0)),.agg (encGr (grN (106+2*(i:Int)) (106+2*(i:Int)+1) (refF n u w.scope false i))),.c (.int .i64 0)]:=by
 have h:=stepF n u w i hi
 have hl:=h.l1
 have cc:=refresh_ok (G:=G) (recS (fullR n u w i)) (srcN (106+2*(i:Int)) 0) .nil ⟨n,105+2*(i:Int),[],[],[]⟩ (by show (fullR n u w i).length≤100000;omega) h.find (by show (n != n)=false;simp) rfl rfl
 have ci:=issues_ok (G:=G) (recS (fullR n u w i)) (srcN (106+2*(i:Int)) 0) (refF n u w.scope false i) w.scope (3+2*i) (by show (fullR n u w i).length≤900;omega) ⟨by show (0:Int)≤0;decide,by show (0:Int)≤1000000000;decide,by show (-1000000000000:Int)≤106+2*(i:Int);omega⟩ (by show 106+2*(i:Int)<1073741824;omega) h.r5 h.r6 h.ix h.p1 (by rw [h.l2];omega) h.p2
 exact renew_of (recS (fullR n u w i)) (srcN (106+2*(i:Int)) 0) n (105+2*(i:Int)) (servesR_ok (recS (fullR n u w i)) (srcN (106+2*(i:Int)) 0) ⟨n,105+2*(i:Int),[],[],[]⟩ (refF n u w.scope false i) (recS (fullR n u w (i+1))) (srcN (106+2*(i:Int)+1+1) 0) (grN (106+2*(i:Int)) (106+2*(i:Int)+1) (refF n u w.scope false i)) (recS_fit _ oM) rfl cc ci)
theorem full_len (n u:Int) (w:WT):(fullR n u w 11).length=26:=kR
theorem full_find (n u:Int) (w:WT):findT (fullR n u w 11) 0 6 127=(refF n u w.scope false 11,true):=kR
theorem full_late (n u:Int) (w:WT):findT (fullR n u w 11) 300 6 127=(refF n u w.scope false 11,true):=kR
theorem renewF (n u:Int) (w:WT):Pur Tryz.prog G 22 [.agg (encSt (recS (fullR n u w 11))),.agg (encSo (srcN 128 0)),.c (.int .i64 n),.c (.int .i64 127),.c (.str [])] [.agg (encSt (recS (fullR n u w 11))),.agg (encSo (srcN 128 0)),.agg (encGr .nil),.c (.int .i64 16)]:=by
 have hl:=full_len n u w
 have cc:=refresh_ok (G:=G) (recS (fullR n u w 11)) (srcN 128 0) .nil ⟨n,127,[],[],[]⟩ (by show (fullR n u w 11).length≤100000;omega) (full_find n u w) (by show (n != n)=false;simp) rfl rfl
 have ci:=issuesF1 (G:=G) (recS (fullR n u w 11)) (srcN 128 0) (refF n u w.scope false 11) w.scope (by show (fullR n u w 11).length≤900;omega) kR
 exact renew_of (recS (fullR n u w 11)) (srcN 128 0) n 127 (servesR_ok (recS (fullR n u w 11)) (srcN 128 0) ⟨n,127,[],[],[]⟩ (refF n u w.scope false 11) (recS (fullR n u w 11)) (srcN 128 0) .nil (recS_fit _ oM) rfl cc ci)
theorem renewL (n u:Int) (w:WT):Pur Tryz.prog G 22 [.agg (encSt (recS (fullR n u w 11))),.agg (encSo (srcN 128 300)),.c (.int .i64 n),.c (.int .i64 127),.c (.str [])] [.agg (encSt (recS (fullR n u w 11))),.agg (encSo (srcN 128 300)),.agg (encGr .nil),.c (.int .i64 16)]:=by
 have hl:=full_len n u w
 have cc:=refresh_ok (G:=G) (recS (fullR n u w 11)) (srcN 128 300) .nil ⟨n,127,[],[],[]⟩ (by show (fullR n u w 11).length≤100000;omega) (full_late n u w) (by show (n != n)=false;simp) rfl rfl
 have ci:=issuesF3 (G:=G) (recS (fullR n u w 11)) (srcN 128 300) (refF n u w.scope false 11) w.scope (by show (fullR n u w 11).length≤900;omega) kR kR
 exact renew_of (recS (fullR n u w 11)) (srcN 128 300) n 127 (servesR_ok (recS (fullR n u w 11)) (srcN 128 300) ⟨n,127,[],[],[]⟩ (refF n u w.scope false 11) (recS (fullR n u w 11)) (srcN 128 300) .nil (recS_fit _ oM) rfl cc ci)
theorem few_no (n u N:Int) (w:WT) (ver:List UInt8) (hN:1073741824≤N) (ch:Pur Tryz.prog G 55 [.c (.str w.chal),.c (.str ver)] [.c (.bool true)]) :
  Pur Tryz.prog G 11 [.agg (encSt (codedS n u w)),.agg (encSo (srcN N 0)),.c (.int .i64 n),.c (.int .i64 103),.c (.str w.redir),.c (.str ver)] [.agg (encSt (codedS n u w)),.agg (encSo (srcN N 0)),.agg (encGr .nil),.c (.int .i64 16)]:=by
 have cc:=code_ok (G:=G) (codedS n u w) (srcN N 0) .nil ⟨n,103,w.redir,ver,[]⟩ (by show 2≤100000;decide) (coded_find n u w (t:=0) dC) (by show (n != n)=false;simp) rfl ch (by show (!(w.redir==w.redir&&(true==true&&true)))=false;simp)
 have ci:=issuesF2 (G:=G) (codedS n u w) (srcN N 0) (cdR n u w) w.scope (by show 2≤900;decide) hN kR kR
 exact redeem_of (codedS n u w) (srcN N 0) n 103 w.redir ver (servesC_ok (codedS n u w) (srcN N 0) ⟨n,103,w.redir,ver,[]⟩ (cdR n u w) (codedS n u w) (srcN N 0) .nil (recS_fit (codedL n u w) (by show 2≤1000000;decide)) rfl cc ci)
def fewL (n u:Int) (w:WT) (N:Int):List RcT:=[sesR u,usedR (cdR n u w),tokR 5 N (0+300) (cdR n u w) w.scope,tokR 6 (N+1) (0+600) (cdR n u w) w.scope]
theorem few_yes (n u N:Int) (w:WT) (ver:List UInt8) (hN:N=1073741823∨N=1073741822) (ch:Pur Tryz.prog G 55 [.c (.str w.chal),.c (.str ver)] [.c (.bool true)]) :
  Pur Tryz.prog G 11 [.agg (encSt (codedS n u w)),.agg (encSo (srcN N 0)),.c (.int .i64 n),.c (.int .i64 103),.c (.str w.redir),.c (.str ver)] [.agg (encSt (recS (fewL n u w N))),.agg (encSo (srcN (N+1+1) 0)),.agg (encGr (grN N (N+1) (cdR n u w))),.c (.int .i64 0)]:=by
 have cc:=code_ok (G:=G) (codedS n u w) (srcN N 0) .nil ⟨n,103,w.redir,ver,[]⟩ (by show 2≤100000;decide) (coded_find n u w (t:=0) dC) (by show (n != n)=false;simp) rfl ch (by show (!(w.redir==w.redir&&(true==true&&true)))=false;simp)
 have h1:putS (changeT (codedL n u w) 0 1 (usedR (cdR n u w))) 0 (tokR 5 N (0+300) (cdR n u w) w.scope)=([sesR u,usedR (cdR n u w),tokR 5 N (0+300) (cdR n u w) w.scope],0):=by
  rcases hN with rfl | rfl
  ·kernel_rfl
  ·kernel_rfl
 have h2:putS [sesR u,usedR (cdR n u w),tokR 5 N (0+300) (cdR n u w) w.scope] 0 (tokR 6 (N+1) (0+600) (cdR n u w) w.scope)=(fewL n u w N,0):=by
  rcases hN with rfl | rfl
  ·kernel_rfl
  ·kernel_rfl
 have ci:=issues_ok (G:=G) (codedS n u w) (srcN N 0) (cdR n u w) w.scope 1 (by show 2≤900;decide) ⟨by show (0:Int)≤0;decide,by show (0:Int)≤1000000000;decide,by show (-1000000000000:Int)≤N;omega⟩ (by show N<1073741824;omega) kR kR kR h1 (by show 3≤900;decide) h2
 exact redeem_of (codedS n u w) (srcN N 0) n 103 w.redir ver (servesC_ok (codedS n u w) (srcN N 0) ⟨n,103,w.redir,ver,[]⟩ (cdR n u w) (recS (fewL n u w N)) (srcN (N+1+1) 0) (grN N (N+1) (cdR n u w)) (recS_fit (codedL n u w) (by show 2≤1000000;decide)) rfl cc ci)
def revP (d:Int) (r:RcT):Bool:=bif (bif r.kind != 5 then r.kind != 6 else false) then true else r.fam != d
def revT (fam:Int) (l:List RcT):List RcT:=l.filter (revP fam)
theorem rev1_ok (d:Int) (r:RcT):FnB Tryz.prog G 96 [bxN d] [.agg (encRc r),.c (.ptr 0 0)] [.c (.bool (revP d r))] [(0,bxN d)]:=by
 refine zf Tryz.func96 ?_
 unfold revP
 refine z0 [] [] ?_
 exact zb []
theorem keepV (l:List RcT) (d:Int) (hl:l.length≤1000000000):FnB Tryz.prog G 86 [bxN d] [.c (rcS l),.c (clo1 96 (.ptr 0 0))] [.c (.row 15 1 0 (l.filter (revP d)).length)] [(0,bxN d),(1,rcB (l.filter (revP d)))]:=by
 refine zf Tryz.func86 ?_
 refine z0 [] [] ?_
 refine Wp.loopK kR (fun (x:Nat×Nat×List RcT)=>⟨[(0,.v (.c (rcS l))),(1,.v (.c (clo1 96 (.ptr 0 0)))),(5,.v (.c (.row 15 81 0 x.2.1))),(8,.v (.c (rcS l))),(9,.v (.c (.int .i64 (l.length:Int)))),(10,.v (.c (.int .i64 (x.1:Int))))],[(0,bxN d),(81,.row 37 15 x.2.1 (rowF encRc .nil x.2.2))],97⟩) (fun x=>x.1≤l.length∧x.2.1=x.2.2.length∧x.2.2.length≤x.1∧l.filter (revP d)=x.2.2++(l.drop x.1).filter (revP d)) (fun x=>l.length-x.1) (0,0,[]) (Ent.trans (Ent.empT (t:=5) (sz:=15) (e:=37) (f:=(rowF encRc .nil [])) dC kR rfl) (Ent.of [] kR kR kR trivial)) ⟨Nat.zero_le _,rfl,Nat.zero_le _,rfl⟩ ?_
 rintro ⟨k,n,acc⟩ L ⟨hk,hn,hm,hf⟩ again
 simp only at hk hn hm hf
 rcases Nat.lt_or_ge k l.length with hlt | hge
 ·rw [dropD l .nil k hlt,List.filter_cons] at hf
  have c:=rev1_ok (G:=G) d (l.getD k .nil)
  cases hp:revP d (l.getD k .nil) with
  | true =>
   rw [hp] at c
   rw [hp,if_pos rfl] at hf
   have hf2:l.filter (revP d)=(acc++[l.getD k .nil])++(l.drop (k+1)).filter (revP d):=by rw [hf];simp
   have e1:BlkEqv (.row 37 15 (n+1) (catF n (rowF encRc .nil acc) (fun i j=>nthD (encRc (l.getD k .nil)) ((0+i)*15+j)))) (.row 37 15 (n+1) (rowF encRc .nil (acc++[l.getD k .nil]))):=enc_app acc _ hn
   have q2:n+1=(acc++[l.getD k .nil]).length:=by simp [hn]
   clear hf hp
   generalize acc++[l.getD k .nil]=acc2 at e1 q2 hf2
   have hm2:acc2.length≤k+1:=by omega
   have hk2:k+1≤l.length:=by omega
   refine zg [(6,{bs:=[(3,.row 37 15 (n+1) (rowF encRc .nil acc2))]}),(5,{cs:=[(2,cb [0] c)]})] [true,true] [decide ((k:Int)<(l.length:Int))=true,(0:Int)≤(k:Int)∧(k:Int)<(l.length:Int),true=true,(n+1)*176≤140737488355328,BlkEqv (.row 37 15 (n+1) (catF n (fun i j=>nthD (encRc (acc.getD i .nil)) j) fun i j=>nthD (encRc (l.getD k .nil)) ((0+i)*15+j))) (.row 37 15 (n+1) (rowF encRc RcT.nil acc2)),n≤n,0+1≤1,inR .i64 ((k:Int)+1)] ⟨sO,oM,rfl,oM,aS,oM,oM,i6⟩ ?_
   exact za [(81,273)] (again _ (k+1,n+1,acc2) ⟨aS,⟨aS,⟨aS,aS⟩⟩⟩ oM)
  | false =>
   rw [hp] at c
   rw [hp,if_neg (by simp)] at hf
   clear hp
   refine zg [(5,{cs:=[(2,cb [0] c)]})] [true,false] [decide ((k:Int)<(l.length:Int))=true,(0:Int)≤(k:Int)∧(k:Int)<(l.length:Int),false=false,inR .i64 ((k:Int)+1)] ⟨sO,oM,rfl,i6⟩ ?_
   exact za [] (again _ (k+1,n,acc) ⟨aS,⟨aS,⟨sO,aS⟩⟩⟩ oM)
 ·rw [List.drop_of_length_le hge,List.filter_nil,List.append_nil] at hf
  rw [hf]
  subst hn
  refine zg [] [false] [decide ((k:Int)<(l.length:Int))=false] (oN sO) ?_
  exact zb [81]
theorem revoke_ok (l:List RcT) (fam:Int) (hl:l.length≤1000000000):Pur Tryz.prog G 76 [.c (rcS l),.c (.int .i64 fam)] [.c (rcS (revT fam l))]:=by
 refine zp Tryz.func76 ?_
 have c:=keepV (G:=G) l fam hl
 refine zg [(1,{cs:=[(2,cb [0] c)],fm:=[(1,.c (clo1 96 (.ptr 0 0)))]})] [] [EqvI (.c (cloRaw 96 [.c (.ptr 0 0)])) (.c (clo1 96 (.ptr 0 0))),EqvD (.c (cloRaw 96 [.c (.ptr 0 0)])) (.c (clo1 96 (.ptr 0 0)))] ⟨clo1_I _ _,clo1_D _ _⟩ ?_
 refine Wp.ent' kR (Ent.pubT (t:=4) (e:=37) (sz:=(15:Nat)) (id:=64) (off:=(0:Nat)) (m:=(List.filter (revP fam) l).length) (n:=(List.filter (revP fam) l).length) (f:=rowF encRc RcT.nil (List.filter (revP fam) l)) (m':=(revT fam l).length) (f':=rowF encRc RcT.nil (revT fam l)) kR kR oM rfl (fun i _ j _=>by rw [Nat.zero_add];rfl) rfl) ?_
 exact zr
def encI (x:Int):List Cell:=[.int .i64 x]
def tokP (d:Int) (r:RcT):Bool:=bif (bif r.kind==5 then true else r.kind==6) then r.fam==d else false
def tokL (d:Int) (l:List RcT):List Int:=(l.filter (tokP d)).map RcT.key
theorem tok_snoc (d:Int) (l:List RcT) (k:Nat) (h:k<l.length):tokL d (l.take (k+1))=if tokP d (l.getD k .nil)=true then tokL d (l.take k)++[(l.getD k .nil).key] else tokL d (l.take k):=by
 unfold tokL
 rw [List.take_succ_eq_append_getElem h,List.filter_append,List.map_append]
 have e:l.getD k .nil=l[k]:=by simp [List.getD,h]
 rw [e]
 cases hp:tokP d l[k]<;>simp [hp]
theorem tokens_ok (s:StT) (d:Int) (hl:s.recs.length≤100000):Pur Tryz.prog G 23 [.agg (encSt s),.c (.int .i64 d)] [.c (.sl 1 (tokL d s.recs).length (rowF encI 0 (tokL d s.recs)))]:=by
 refine zp Tryz.func23 ?_
 refine z0 [] [] ?_
 refine Wp.loopK kR (fun (x:Nat×Nat×List Int)=>⟨[(1,.v (.c (.int .i64 d))),(2,.v (.c (.ptr 0 0))),(5,.v (.c (.row 1 64 0 x.2.1))),(6,.v (.c (.int .i64 (x.1:Int))))],[(0,.box 28 (encSt s)),(64,.row 3 1 x.2.1 (rowF encI 0 x.2.2))],80⟩) (fun x=>x.1≤s.recs.length∧x.2.1=x.2.2.length∧x.2.2.length≤x.1∧tokL d (s.recs.take x.1)=x.2.2) (fun x=>s.recs.length-x.1) (0,0,[]) (Ent.trans (Ent.empT (t:=5) (sz:=1) (e:=3) (f:=(rowF encI 0 [])) dC kR rfl) (Ent.of [] kR kR kR trivial)) ⟨Nat.zero_le _,rfl,Nat.zero_le _,rfl⟩ ?_
 rintro ⟨k,n,acc⟩ L ⟨hk,hn,hm,hf⟩ again
 simp only at hk hn hm hf
 rcases Nat.lt_or_ge k s.recs.length with hlt | hge
 ·have hs:=tok_snoc d s.recs k hlt
  rw [hf] at hs
  cases hp:tokP d (s.recs.getD k .nil) with
  | true =>
   rw [hp,if_pos rfl] at hs
   unfold tokP at hp
   have e1:BlkEqv (.row 3 1 (n+1) (catF n (rowF encI 0 acc) (fun i j=>nthD (encI (s.recs.getD k .nil).key) ((0+i)*1+j)))) (.row 3 1 (n+1) (rowF encI 0 (acc++[(s.recs.getD k .nil).key]))):=enc_app acc _ hn
   have q2:n+1=(acc++[(s.recs.getD k .nil).key]).length:=by simp [hn]
   clear hf
   generalize acc++[(s.recs.getD k .nil).key]=acc2 at e1 q2 hs
   have hm2:acc2.length≤k+1:=by omega
   have hk2:k+1≤s.recs.length:=by omega
   refine zg [(6,{bs:=[(8,.row 3 1 (n+1) (rowF encI 0 acc2))]})] [true,true] [decide ((k:Int)<(s.recs.length:Int))=true,(0:Int)≤(k:Int)∧(k:Int)<(s.recs.length:Int),((s.recs.getD k .nil).kind==(5:Int))=false→(0:Int)≤(k:Int)∧(k:Int)<(s.recs.length:Int),(bif (s.recs.getD k .nil).kind==(5:Int) then true else (s.recs.getD k .nil).kind==(6:Int))=true→(0:Int)≤(k:Int)∧(k:Int)<(s.recs.length:Int),(bif bif (s.recs.getD k .nil).kind==(5:Int) then true else (s.recs.getD k .nil).kind==(6:Int) then (s.recs.getD k .nil).fam==d else false)=true,(0:Int)≤(k:Int)∧(k:Int)<(s.recs.length:Int),(n+1)*8≤140737488355328,BlkEqv (.row 3 (1:Nat) (n+(1:Nat)) (catF n (fun i j=>nthD [.int .i64 (acc.getD i (0:Int))] j) fun i j=>nthD [.int .i64 (s.recs.getD k .nil).key] (((0:Nat)+i)*(1:Nat)+j))) (.row 3 (1:Nat) (n+(1:Nat)) (rowF encI (0:Int) acc2)),n≤n,0+1≤1,inR .i64 ((k:Int)+1)] ⟨sO,oM,oM,oM,aS,oM,oM,aS,oM,oM,i6⟩ ?_
   exact za [(64,704)] (again _ (k+1,n+1,acc2) ⟨aS,⟨aS,⟨aS,aS⟩⟩⟩ oM)
  | false =>
   rw [hp,if_neg (by simp)] at hs
   unfold tokP at hp
   clear hf
   refine zg [] [true,false] [decide ((k:Int)<(s.recs.length:Int))=true,(0:Int)≤(k:Int)∧(k:Int)<(s.recs.length:Int),((s.recs.getD k .nil).kind==(5:Int))=false→(0:Int)≤(k:Int)∧(k:Int)<(s.recs.length:Int),(bif (s.recs.getD k .nil).kind==(5:Int) then true else (s.recs.getD k .nil).kind==(6:Int))=true→(0:Int)≤(k:Int)∧(k:Int)<(s.recs.length:Int),(bif bif (s.recs.getD k .nil).kind==(5:Int) then true else (s.recs.getD k .nil).kind==(6:Int) then (s.recs.getD k .nil).fam==d else false)=false,inR .i64 ((k:Int)+1)] ⟨sO,oM,oM,oM,aS,i6⟩ ?_
   exact za [] (again _ (k+1,n,acc) ⟨aS,⟨aS,⟨sO,aS⟩⟩⟩ oM)
 ·rw [List.take_of_length_le hge] at hf
  rw [hf]
  subst hn
  refine zg [] [false] [decide ((k:Int)<(s.recs.length:Int))=false] (oN sO) ?_
  refine Wp.ent' kR (Ent.pubT (t:=4) (e:=3) (sz:=(1:Nat)) (id:=64) (off:=(0:Nat)) (m:=acc.length) (n:=acc.length) (f:=fun (i j:Nat)=>nthD [Cell.int .i64 (acc.getD i (0:Int))] j) (m':=acc.length) (f':=rowF encI (0:Int) acc) kR kR oM rfl (fun i _ j _=>by rw [Nat.zero_add];rfl) rfl) ?_
  exact zr
theorem pushT_at (s:StT) (src:SoT) (n:Int) (k:Nat) (w:WT) (hn:n=(k:Int)+1) (hc:s.cls=baseC) (hk:k<3) (hq:chkT (baseC.getD k .nil) w=0):pushT s src n w=((putsT s src n w).2.2.1,(putsT s src n w).2.2.2,(putsT s src n w).1,(putsT s src n w).2.1):=by
 subst hn
 unfold pushT
 rw [hc,if_neg (by show ¬ ((k:Int)+1<1∨((3:Nat):Int)<(k:Int)+1);omega),show ((k:Int)+1-1).toNat=k by omega,if_pos hq]
def tokX (kind key til:Int) (used:Bool) (n u fam:Int) (sc:List UInt8):RcT:=⟨kind,key,til,used,n,u,0,fam,tkW sc⟩
def ses2 (u:Int):RcT:=⟨2,107,900,false,0,u,0,0,.nil⟩
def cd2 (b:Bool) (n:Int) (w:WT):RcT:=⟨4,109,40,b,n,2,107,109,w⟩
def rp0 (n:Int) (w:WT):List RcT:=redL n 1 w 0
def rp1 (n:Int) (w:WT):List RcT:=rp0 n w++[pRec n w 106 60]
def rp2 (n:Int) (w:WT):List RcT:=rp0 n w++[ses2 0,doorR 108 0 n 107 w]
def rp3 (n:Int) (w:WT):List RcT:=rp0 n w++[ses2 2,doorR 108 0 n 107 w]
def rp4 (n:Int) (w:WT):List RcT:=rp0 n w++[ses2 2,cd2 false n w]
def rpM (n:Int) (w:WT):List RcT:=rp0 n w++[ses2 2,cd2 true n w,tokX 5 110 300 false n 2 109 w.scope]
def rpL (n:Int) (w:WT) (i:Nat):List RcT:=[sesR 1,usedR (cdR n 1 w),tokX 5 104 300 false n 1 103 w.scope,tokX 6 105 600 (decide (0<i)) n 1 103 w.scope,ses2 2,cd2 true n w,tokX 5 110 300 false n 2 109 w.scope,tokX 6 111 600 false n 2 109 w.scope]++(List.range i).flatMap fun (j:Nat)=>[tokX 5 (112+2*(j:Int)) 300 false n 1 103 w.scope,tokX 6 (113+2*(j:Int)) 600 (decide (j+1<i)) n 1 103 w.scope]
theorem push_rp (n:Int) (w:WT) (k:Nat) (hn:n=(k:Int)+1) (hk:k<3) (hq:chkT (baseC.getD k .nil) w=0):pushT (recS (rp0 n w)) (srcN 106 0) n w=(recS (rp1 n w),srcN 107 0,106,0):=by
 rw [pushT_at _ _ n k w hn rfl hk hq];kernel_rfl
theorem enter_rp (n:Int) (w:WT):enterL (rp1 n w) ⟨107,1,0⟩ 4 n=rp2 n w:=by kernel_rfl
theorem login_rp (n:Int) (w:WT):changeT (rp2 n w) 0 4 { ses2 0 with user:=2 }=rp3 n w:=by kernel_rfl
theorem agree_rp (n:Int) (w:WT):(putS (takeT (rp3 n w) 0 5) 0 (codeR 109 0 n 2 107 w)).1=rp4 n w:=by kernel_rfl
theorem enterR (n:Int) (w:WT) (k:Nat) (hn:n=(k:Int)+1) (hk:k<3):Pur Tryz.prog G 17 [.agg (encSt (recS (rp1 n w))),.agg (encSo (srcN 107 0)),.c (.int .i64 0),.c (.str (baseC.getD k .nil).id),.c (.int .i64 106)] [.agg (encSt (recS (rp2 n w))),.agg (encSo (srcN 109 0)),.c (.int .i64 107),.c (.int .i64 108),.c (.int .i64 0)]:=by
 have c:=enter_ok (G:=G) (recS (rp1 n w)) ⟨107,1,0⟩ 0 (baseC.getD k .nil).id 106 k 4 (recS_fit _ (by show 5≤1000000;decide)) (by show 5≤1000;decide) ⟨by decide,by decide,by decide⟩ dC (find_cl k hk) kR (show n=(k:Int)+1 from hn) kR kR kR
 rw [← hn] at c
 have c:Pur Tryz.prog G 17 [.agg (encSt (recS (rp1 n w))),.agg (encSo (srcN 107 0)),.c (.int .i64 0),.c (.str (baseC.getD k .nil).id),.c (.int .i64 106)] [.agg (encSt (recS (enterL (rp1 n w) ⟨107,1,0⟩ 4 n))),.agg (encSo (srcN 109 0)),.c (.int .i64 107),.c (.int .i64 108),.c (.int .i64 0)]:=c
 rw [enter_rp] at c
 exact c
theorem loginR (n:Int) (w:WT):Pur Tryz.prog G 18 [.agg (encSt (recS (rp2 n w))),.c (.int .i64 0),.c (.int .i64 107),.c (.int .i64 108),.c (.str [98,111,98]),.c (.str (keyT 11))] [.agg (encSt (recS (rp3 n w))),.c (.int .i64 0)]:=by
 have c:=login_ok (G:=G) (recS (rp2 n w)) 0 107 108 [98,111,98] (keyT 11) 4 5 1 (recS_fit _ (by show 6≤1000000;decide)) (by show 6≤1000;decide) kR kR kR kR (by show (0:Int)≤11;decide) (by show (11:Int)≤1073741824;decide) rfl
 have c:Pur Tryz.prog G 18 [.agg (encSt (recS (rp2 n w))),.c (.int .i64 0),.c (.int .i64 107),.c (.int .i64 108),.c (.str [98,111,98]),.c (.str (keyT 11))] [.agg (encSt (recS (changeT (rp2 n w) 0 4 { ses2 0 with user:=2 }))),.c (.int .i64 0)]:=c
 rw [login_rp] at c
 exact c
theorem agreeR (n:Int) (w:WT):Pur Tryz.prog G 20 [.agg (encSt (recS (rp3 n w))),.agg (encSo (srcN 109 0)),.c (.int .i64 107),.c (.int .i64 108),.c (.bool true)] [.agg (encSt (recS (rp4 n w))),.agg (encSo (srcN 110 0)),.agg (encRc (doorR 108 0 n 107 w)),.c (.int .i64 109),.c (.int .i64 0)]:=by
 have c:=agree_ok (G:=G) (recS (rp3 n w)) (srcN 109 0) 107 108 4 5 (recS_fit _ (by show 6≤1000000;decide)) (by show 6≤1000;decide) ⟨by decide,by decide,by decide⟩ dC kR kR kR kR kR
 have c:Pur Tryz.prog G 20 [.agg (encSt (recS (rp3 n w))),.agg (encSo (srcN 109 0)),.c (.int .i64 107),.c (.int .i64 108),.c (.bool true)] [.agg (encSt (recS (putS (takeT (rp3 n w) 0 5) 0 (codeR 109 0 n 2 107 w)).1)),.agg (encSo (srcN 110 0)),.agg (encRc (doorR 108 0 n 107 w)),.c (.int .i64 109),.c (.int .i64 0)]:=c
 rw [agree_rp] at c
 exact c
theorem redeemR (n:Int) (w:WT) (vv:List UInt8) (ch:Pur Tryz.prog G 47 [.c (.str w.chal),.c (.str vv)] [.c (.bool true)]):Pur Tryz.prog G 21 [.agg (encSt (recS (rp4 n w))),.agg (encSo (srcN 110 0)),.c (.int .i64 n),.c (.int .i64 109),.c (.str w.redir),.c (.str vv)] [.agg (encSt (recS (rpL n w 0))),.agg (encSo (srcN 112 0)),.agg (encGr (grN 110 111 (cd2 false n w))),.c (.int .i64 0)]:=by
 have ci:=issued_ok (G:=G) (recS (rp4 n w)) (srcN 110 0) (cd2 false n w) w.scope 5 (by show 6≤900;decide) ⟨by decide,by decide,by decide⟩ dC kR kR kR (v1:=rpM n w) kR (by show 7≤900;decide) (v2:=rpL n w 0) kR
 exact redeem22_ok (recS (rp4 n w)) (srcN 110 0) n 109 w.redir vv (by show 6≤100000;decide) (r:=cd2 false n w) kR (by show (n != n)=false;simp) rfl (by show (!(w.redir==w.redir))=false;simp) ch ci
theorem finds_used (s:StT) (src:SoT) (e:RcT) (kind client key:Int) {r:RcT} (hr:s.recs.length≤100000) (hf:findT s.recs src.now kind key=(r,true)) (h1:(r.client != client)=false) (h2:r.used=true):FnB Tryz.prog G 54 [deskI s src e] [.c (.ptr 0 0),.c (.int .i64 kind),.c (.int .i64 client),.c (.int .i64 key)] [.c (.int .i64 13)] [(0,deskI { s with recs:=revT r.fam s.recs } src e)]:=by
 refine zf Tryz.func54 ?_
 have c:=storeFind_ok (G:=G) s.recs src.now kind key oM
 rw [hf] at c
 simp only at c
 have c2:=revoke_ok (G:=G) s.recs r.fam oM
 clear hf
 generalize revT r.fam s.recs=v at *
 refine zg [(1,{cs:=[(12,pc c)]}),(5,{cs:=[(8,pc c2)]})] [false,true] [(bif !true then true else r.client != client)=false,r.used=true] ⟨aS,(show r.used=true from aS)⟩ ?_
 exact zb []
theorem code_used (s:StT) (src:SoT) (e:RcT) (a:AsT) {r:RcT} (hr:s.recs.length≤100000) (hf:findT s.recs src.now 4 a.key=(r,true)) (h1:(r.client != a.client)=false) (h2:r.used=true):FnB Tryz.prog G 28 [deskI s src e] [.c (.ptr 0 0),.agg (encAs a)] [.c (.int .i64 13)] [(0,deskI { s with recs:=revT r.fam s.recs } src e)]:=by
 refine zf Tryz.func28 ?_
 have c:=finds_used (G:=G) s src e 4 a.client a.key hr hf h1 h2
 clear hf h1 h2
 generalize revT r.fam s.recs=v at *
 refine zg [(1,{cs:=[(5,cb [0] c)]})] [true] [((13:Int) != (0:Int))=true] rfl ?_
 exact zb []
theorem servesC_er (s s2:StT) (src:SoT) (a:AsT) (r:RcT) (hs:FitS s) (c1:FnB Tryz.prog G 28 [deskI s src .nil] [.c (.ptr 0 0),.agg (encAs a)] [.c (.int .i64 13)] [(0,deskI s2 src r)]):Pur Tryz.prog G 27 [.agg (encSt s),.agg (encSo src),.agg (encAs a),.c (fnC 28)] [.agg (encSt s2),.agg (encSo src),.agg (encGr .nil),.c (.int .i64 13)]:=by
 refine zp Tryz.func27 ?_
 have c0:=ownState_ok (G:=G) s hs
 refine zg [(1,{cs:=[(1,pc c0)]}),(2,{cs:=[(3,cb [176] c1)]})] [true] [((13:Int) != (0:Int))=true] rfl ?_
 exact zr
def keyI (i:Nat):Int:=match i with
 | 0=>105
 | j+1=>112+2*(j:Int)+1
def eR (n:Int) (w:WT) (i:Nat):RcT:=tokX 6 (keyI i) 600 false n 1 103 w.scope
def gR (n:Int) (w:WT) (i:Nat):GrT:=match i with
 | 0=>grN 104 105 (cdR n 1 w)
 | j+1=>grN (112+2*(j:Int)) (112+2*(j:Int)+1) (eR n w j)
def iR (i:Nat):Nat:=match i with
 | 0=>3
 | j+1=>9+2*j
structure StepR (n:Int) (w:WT) (i:Nat):Prop where
 find:findT (rpL n w i) 0 6 (gR n w i).ref=(eR n w i,true)
 r5:(roomK (rpL n w i) 0 5==0)=false
 r6:(roomK (rpL n w i) 0 6==0)=false
 ix:ixF (findP 6 (keyI i)) (liveT 0 (rpL n w i))=(iR i:Int)
 p1:putS (changeT (rpL n w i) 0 (iR i) { eR n w i with used:=true }) 0 (tokR 5 (112+2*(i:Int)) (0+300) (eR n w i) w.scope)=((rpL n w (i+1)).dropLast,0)
 p2:putS (rpL n w (i+1)).dropLast 0 (tokR 6 (112+2*(i:Int)+1) (0+600) (eR n w i) w.scope)=(rpL n w (i+1),0)
 l1:(rpL n w i).length=8+2*i
 l2:(rpL n w (i+1)).dropLast.length=9+2*i
theorem stepR (n:Int) (w:WT):∀ i,i<3→StepR n w i
 | 0,_=>⟨kR,kR,kR,kR,kR,kR,kR,kR⟩
 | 1,_=>⟨kR,kR,kR,kR,kR,kR,kR,kR⟩
 | 2,_=>⟨kR,kR,kR,kR,kR,kR,kR,kR⟩
 | i+3,h=>by omega
theorem renewR (n:Int) (w:WT) (i:Nat) (hi:i<3):Pur Tryz.prog G 22 [.agg (encSt (recS (rpL n w i))),.agg (encSo (srcN (112+2*(i:Int)) 0)),.c (.int .i64 n),.c (.int .i64 (gR n w i).ref),.c (.str [])] [.agg (encSt (recS (rpL n w (i+1)))),.agg (encSo (srcN (112+2*((i+1:Nat):Int)) 0)),.agg (encGr (gR n w (i+1))),.c (.int .i64 0)]:=by
 have h:=stepR n w i hi
 have hl:=h.l1
 have cc:=refresh_ok (G:=G) (recS (rpL n w i)) (srcN (112+2*(i:Int)) 0) .nil ⟨n,(gR n w i).ref,[],[],[]⟩ (by show (rpL n w i).length≤100000;omega) h.find (by show (n != n)=false;simp) rfl rfl
 have ci:=issues_ok (G:=G) (recS (rpL n w i)) (srcN (112+2*(i:Int)) 0) (eR n w i) w.scope (iR i) (by show (rpL n w i).length≤900;omega) ⟨by show (0:Int)≤0;decide,by show (0:Int)≤1000000000;decide,by show (-1000000000000:Int)≤112+2*(i:Int);omega⟩ (by show 112+2*(i:Int)<1073741824;omega) h.r5 h.r6 h.ix h.p1 (by rw [h.l2];omega) h.p2
 have c:=renew_of (recS (rpL n w i)) (srcN (112+2*(i:Int)) 0) n (gR n w i).ref (servesR_ok (recS (rpL n w i)) (srcN (112+2*(i:Int)) 0) ⟨n,(gR n w i).ref,[],[],[]⟩ (eR n w i) (recS (rpL n w (i+1))) (srcN (112+2*(i:Int)+1+1) 0) (gR n w (i+1)) (recS_fit _ oM) rfl cc ci)
 rw [show 112+2*(i:Int)+1+1=112+2*((i+1:Nat):Int) by omega] at c
 exact c
structure EndR (n:Int) (w:WT) (i:Nat):Prop where
 til:((rpL n w i).all fun x=>decide (40≤x.til))=true
 ix:ixF (findP 4 103) (rpL n w i)=((1:Nat):Int)
 at1:(rpL n w i).getD 1 .nil=usedR (cdR n 1 w)
 l0:(rpL n w i).length=8+2*i
 l1:(tokL 103 (rpL n w i)).length=2+2*i
 l2:(tokL 109 (rpL n w i)).length=2
 l3:(tokL 103 (revT 103 (rpL n w i))).length=0
 l4:(tokL 109 (revT 103 (rpL n w i))).length=2
theorem endR (n:Int) (w:WT):∀ i,i<4→EndR n w i
 | 0,_=>⟨kR,kR,kR,kR,kR,kR,kR,kR⟩
 | 1,_=>⟨kR,kR,kR,kR,kR,kR,kR,kR⟩
 | 2,_=>⟨kR,kR,kR,kR,kR,kR,kR,kR⟩
 | 3,_=>⟨kR,kR,kR,kR,kR,kR,kR,kR⟩
 | i+4,h=>by omega
theorem find_rp (n:Int) (w:WT) (i:Nat) (hi:i<4) {t:Int} (ht:t<40):findT (rpL n w i) t 4 103=(usedR (cdR n 1 w),true):=by
 have h:=endR n w i hi
 have lv:liveT t (rpL n w i)=rpL n w i:=live_all fun x hx=>by
  have:=of_decide_eq_true (List.all_eq_true.1 h.til x hx);omega
 rw [findT_at (k:=1) (by rw [lv];exact h.ix),lv,h.at1]
theorem again_rp (n t N:Int) (w:WT) (i:Nat) (hi:i<4) (ht:t<40) (to ver:List UInt8):Pur Tryz.prog G 11 [.agg (encSt (recS (rpL n w i))),.agg (encSo (srcN N t)),.c (.int .i64 n),.c (.int .i64 103),.c (.str to),.c (.str ver)] [.agg (encSt (recS (revT 103 (rpL n w i)))),.agg (encSo (srcN N t)),.agg (encGr .nil),.c (.int .i64 13)]:=by
 have h:=endR n w i hi
 have hl:=h.l0
 have cc:=code_used (G:=G) (recS (rpL n w i)) (srcN N t) .nil ⟨n,103,to,ver,[]⟩ (by show (rpL n w i).length≤100000;omega) (find_rp n w i hi ht) (by show (n != n)=false;simp) rfl
 exact redeem_of (recS (rpL n w i)) (srcN N t) n 103 to ver (servesC_er (recS (rpL n w i)) (recS (revT 103 (rpL n w i))) (srcN N t) ⟨n,103,to,ver,[]⟩ .nil (recS_fit _ oM) cc)
theorem other_rp (n t N j:Int) (w:WT) (i:Nat) (hi:i<4) (ht:t<40) (hj:n≠j) (to ver:List UInt8):Pur Tryz.prog G 11 [.agg (encSt (recS (rpL n w i))),.agg (encSo (srcN N t)),.c (.int .i64 j),.c (.int .i64 103),.c (.str to),.c (.str ver)] [.agg (encSt (recS (rpL n w i))),.agg (encSo (srcN N t)),.agg (encGr .nil),.c (.int .i64 13)]:=by
 have h:=endR n w i hi
 have hl:=h.l0
 have cc:=code_no (G:=G) (recS (rpL n w i)) (srcN N t) .nil ⟨j,103,to,ver,[]⟩ (by show (rpL n w i).length≤100000;omega) (find_rp n w i hi ht) (Or.inr (by show (n != j)=true;simp [hj]))
 exact redeem_of (recS (rpL n w i)) (srcN N t) j 103 to ver (servesC_no (recS (rpL n w i)) (srcN N t) ⟨j,103,to,ver,[]⟩ .nil (recS_fit _ oM) cc)
end Go.Proofs.Tw
end
