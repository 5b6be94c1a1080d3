/- The data of the program as plain structures, and how they lie in memory. No condition. The data of the program as plain structures, and how they lie in memory. No condition. An entry and a policy as plain structures, and how they lie in memory. No condition. The data of the program as plain structures, and how they lie in memory. No condition. stamp.Valid and the reference's Valid: the same plain test. No condition. The data of the program as plain structures, and how they lie in memory. No condition. -/
import Derived.Test.YtfhfcipelgogjaaGreatDoorBaseAt
set_option linter.unusedVariables false
set_option linter.unusedSimpArgs false
set_option maxHeartbeats 600000
set_option maxRecDepth 100000
namespace Go.Proofs.YtfhfcipelgogjaaGreatDoor
open Go.RowKit Go.ChangeShapes Go.WideShapes Go.Deep
structure TimeD where
 sec:Int
 nano:Int
 deriving DecidableEq,Inhabited
def TimeD.rd (w:World) (M:Nat→Prop) (cs:List Value) (d:TimeD):Prop:=
 cs=[.int .i64 d.sec,.int .i64 d.nano]∧I64 d.sec∧I64 d.nano
def Shape.TimeD:Shape TimeD where
 size:=2
 pos:=by decide
 rd:=TimeD.rd
 bulk d:=Shape.int.bulk d.sec+Shape.int.bulk d.nano+1
 bpos _:=by omega
 len:=fun {w M cs d} h=>by obtain ⟨e,_,_⟩:=h; subst e; rfl
 keep:=fun {w w' M cs d} h _=>by obtain ⟨e,h0,h1⟩:=h; exact ⟨e,h0,h1⟩
 more:=fun {w M M' cs d} h _=>by obtain ⟨e,h0,h1⟩:=h; exact ⟨e,h0,h1⟩
 one:=fun {w M cs d} h v hv=>by obtain ⟨e,_,_⟩:=h; subst e; simp only [List.mem_cons,List.not_mem_nil,or_false] at hv; rcases hv with rfl | rfl <;> rfl
theorem opens_TimeD:Opens Tryz.prog Shape.TimeD 44:=by
 refine ⟨by kernel_rfl,fun {H enc w fuel cs x} h=>?_⟩
 obtain ⟨xs,n,rfl,rfl,hlen,hxl,hf⟩:=DataW.trod_struct Tryz.underlying44 h
 have hl:cs.length=2:=by rw [hlen]; kernel_rfl
 clear h hlen
 obtain ⟨y0,y1,rfl⟩:∃ y0 y1,cs=[y0,y1]:=by
  match cs,hl with | [y0,y1],_=>exact ⟨y0,y1,rfl⟩
 obtain ⟨x0,x1,rfl⟩:∃ x0 x1,xs=[x0,x1]:=by
  match xs,hxl with | [x0,x1],_=>exact ⟨x0,x1,rfl⟩
 have g0:DataW.trod enc Tryz.prog w 0 (fun _=>true) true n 3 [y0]=some x0:=by
  have ck:Tryz.prog.cellsOf 3=1:=by kernel_rfl
  have g:DataW.trod enc Tryz.prog w 0 (fun _=>true) true n 3 (List.take (Tryz.prog.cellsOf 3) (List.drop 0 [y0,y1]))=some x0:=hf 0 _ rfl
  rw [ck] at g; exact g
 have g1:DataW.trod enc Tryz.prog w 0 (fun _=>true) true n 3 [y1]=some x1:=by
  have ck:Tryz.prog.cellsOf 3=1:=by kernel_rfl
  have g:DataW.trod enc Tryz.prog w 0 (fun _=>true) true n 3 (List.take (Tryz.prog.cellsOf 3) (List.drop 1 [y0,y1]))=some x1:=hf 1 _ rfl
  rw [ck] at g; exact g
 clear hf hl hxl
 obtain ⟨a0,r0,b0⟩:=(opens_int (by kernel_rfl) Tryz.underlying3).2 g0
 obtain ⟨a1,r1,b1⟩:=(opens_int (by kernel_rfl) Tryz.underlying3).2 g1
 obtain ⟨e0,i0⟩:=r0
 simp only [List.cons.injEq,and_true] at e0
 subst e0
 obtain ⟨e1,i1⟩:=r1
 simp only [List.cons.injEq,and_true] at e1
 subst e1
 refine ⟨⟨a0,a1⟩,⟨rfl,i0,i1⟩,?_⟩
 simp only [Shape.TimeD,List.map_cons,List.map_nil,Rows.uptoBulk,Rows.uptoBulkAll]
 omega
end Go.Proofs.YtfhfcipelgogjaaGreatDoor
namespace Go.Proofs.YtfhfcipelgogjaaGreatDoor
open Go.RowKit Go.ChangeShapes Go.WideShapes Go.Deep
structure LineD where
 path:ByteArray
 kind:Int
 mode:Int
 uid:Int
 gid:Int
 mtime:TimeD
 data:List UInt8
 target:ByteArray
 peer:ByteArray
 deriving DecidableEq,Inhabited
def LineD.rd (w:World) (M:Nat→Prop) (cs:List Value) (d:LineD):Prop:=
 ∃ (A1:Option Addr) (n1 c1:Nat),cs=[.string d.path,.int .i64 d.kind,.int .i64 d.mode,.int .i64 d.uid,.int .i64 d.gid,.int .i64 d.mtime.sec,.int .i64 d.mtime.nano,.slice A1 n1 c1,.string d.target,.string d.peer]∧(d.path).size≤maxLen∧I64 d.kind∧I64 d.mode∧I64 d.uid∧I64 d.gid∧I64 d.mtime.sec∧I64 d.mtime.nano∧n1≤c1∧c1≤maxLen∧Row Shape.byte w M A1 n1 d.data∧(d.target).size≤maxLen∧(d.peer).size≤maxLen
def Shape.LineD:Shape LineD where
 size:=10
 pos:=by decide
 rd:=LineD.rd
 bulk d:=Shape.str.bulk d.path+Shape.int.bulk d.kind+Shape.int.bulk d.mode+Shape.int.bulk d.uid+Shape.int.bulk d.gid+Shape.TimeD.bulk d.mtime+(Shape.slice Shape.byte).bulk d.data+Shape.str.bulk d.target+Shape.str.bulk d.peer+1
 bpos _:=by omega
 len:=fun {w M cs d} h=>by obtain ⟨_,_,_,e,_,_,_,_,_,_,_,_,_,_,_,_⟩:=h; subst e; rfl
 keep:=fun {w w' M cs d} h k=>by obtain ⟨A1,n1,c1,e,h0,h1,h2,h3,h4,h5,h6,h7,h8,h9,h10,h11⟩:=h; exact ⟨A1,n1,c1,e,h0,h1,h2,h3,h4,h5,h6,h7,h8,h9.keep k,h10,h11⟩
 more:=fun {w M M' cs d} h k=>by obtain ⟨A1,n1,c1,e,h0,h1,h2,h3,h4,h5,h6,h7,h8,h9,h10,h11⟩:=h; exact ⟨A1,n1,c1,e,h0,h1,h2,h3,h4,h5,h6,h7,h8,h9.more k,h10,h11⟩
 one:=fun {w M cs d} h v hv=>by obtain ⟨_,_,_,e,_,_,_,_,_,_,_,_,_,_,_,_⟩:=h; subst e; simp only [List.mem_cons,List.not_mem_nil,or_false] at hv; rcases hv with rfl | rfl | rfl | rfl | rfl | rfl | rfl | rfl | rfl | rfl <;> rfl
theorem opens_LineD:Opens Tryz.prog Shape.LineD 60:=by
 refine ⟨by kernel_rfl,fun {H enc w fuel cs x} h=>?_⟩
 obtain ⟨xs,n,rfl,rfl,hlen,hxl,hf⟩:=DataW.trod_struct Tryz.underlying60 h
 have hl:cs.length=10:=by rw [hlen]; kernel_rfl
 clear h hlen
 obtain ⟨y0,y1,y2,y3,y4,y5,y6,y7,y8,y9,rfl⟩:∃ y0 y1 y2 y3 y4 y5 y6 y7 y8 y9,cs=[y0,y1,y2,y3,y4,y5,y6,y7,y8,y9]:=by
  match cs,hl with | [y0,y1,y2,y3,y4,y5,y6,y7,y8,y9],_=>exact ⟨y0,y1,y2,y3,y4,y5,y6,y7,y8,y9,rfl⟩
 obtain ⟨x0,x1,x2,x3,x4,x5,x6,x7,x8,rfl⟩:∃ x0 x1 x2 x3 x4 x5 x6 x7 x8,xs=[x0,x1,x2,x3,x4,x5,x6,x7,x8]:=by
  match xs,hxl with | [x0,x1,x2,x3,x4,x5,x6,x7,x8],_=>exact ⟨x0,x1,x2,x3,x4,x5,x6,x7,x8,rfl⟩
 have g0:DataW.trod enc Tryz.prog w 0 (fun _=>true) true n 9 [y0]=some x0:=by
  have ck:Tryz.prog.cellsOf 9=1:=by kernel_rfl
  have g:DataW.trod enc Tryz.prog w 0 (fun _=>true) true n 9 (List.take (Tryz.prog.cellsOf 9) (List.drop 0 [y0,y1,y2,y3,y4,y5,y6,y7,y8,y9]))=some x0:=hf 0 _ rfl
  rw [ck] at g; exact g
 have g1:DataW.trod enc Tryz.prog w 0 (fun _=>true) true n 3 [y1]=some x1:=by
  have ck:Tryz.prog.cellsOf 3=1:=by kernel_rfl
  have g:DataW.trod enc Tryz.prog w 0 (fun _=>true) true n 3 (List.take (Tryz.prog.cellsOf 3) (List.drop 1 [y0,y1,y2,y3,y4,y5,y6,y7,y8,y9]))=some x1:=hf 1 _ rfl
  rw [ck] at g; exact g
 have g2:DataW.trod enc Tryz.prog w 0 (fun _=>true) true n 3 [y2]=some x2:=by
  have ck:Tryz.prog.cellsOf 3=1:=by kernel_rfl
  have g:DataW.trod enc Tryz.prog w 0 (fun _=>true) true n 3 (List.take (Tryz.prog.cellsOf 3) (List.drop 2 [y0,y1,y2,y3,y4,y5,y6,y7,y8,y9]))=some x2:=hf 2 _ rfl
  rw [ck] at g; exact g
 have g3:DataW.trod enc Tryz.prog w 0 (fun _=>true) true n 3 [y3]=some x3:=by
  have ck:Tryz.prog.cellsOf 3=1:=by kernel_rfl
  have g:DataW.trod enc Tryz.prog w 0 (fun _=>true) true n 3 (List.take (Tryz.prog.cellsOf 3) (List.drop 3 [y0,y1,y2,y3,y4,y5,y6,y7,y8,y9]))=some x3:=hf 3 _ rfl
  rw [ck] at g; exact g
 have g4:DataW.trod enc Tryz.prog w 0 (fun _=>true) true n 3 [y4]=some x4:=by
  have ck:Tryz.prog.cellsOf 3=1:=by kernel_rfl
  have g:DataW.trod enc Tryz.prog w 0 (fun _=>true) true n 3 (List.take (Tryz.prog.cellsOf 3) (List.drop 4 [y0,y1,y2,y3,y4,y5,y6,y7,y8,y9]))=some x4:=hf 4 _ rfl
  rw [ck] at g; exact g
 have g5:DataW.trod enc Tryz.prog w 0 (fun _=>true) true n 44 [y5,y6]=some x5:=by
  have ck:Tryz.prog.cellsOf 44=2:=by kernel_rfl
  have g:DataW.trod enc Tryz.prog w 0 (fun _=>true) true n 44 (List.take (Tryz.prog.cellsOf 44) (List.drop 5 [y0,y1,y2,y3,y4,y5,y6,y7,y8,y9]))=some x5:=hf 5 _ rfl
  rw [ck] at g; exact g
 have g6:DataW.trod enc Tryz.prog w 0 (fun _=>true) true n 58 [y7]=some x6:=by
  have ck:Tryz.prog.cellsOf 58=1:=by kernel_rfl
  have g:DataW.trod enc Tryz.prog w 0 (fun _=>true) true n 58 (List.take (Tryz.prog.cellsOf 58) (List.drop 7 [y0,y1,y2,y3,y4,y5,y6,y7,y8,y9]))=some x6:=hf 6 _ rfl
  rw [ck] at g; exact g
 have g7:DataW.trod enc Tryz.prog w 0 (fun _=>true) true n 9 [y8]=some x7:=by
  have ck:Tryz.prog.cellsOf 9=1:=by kernel_rfl
  have g:DataW.trod enc Tryz.prog w 0 (fun _=>true) true n 9 (List.take (Tryz.prog.cellsOf 9) (List.drop 8 [y0,y1,y2,y3,y4,y5,y6,y7,y8,y9]))=some x7:=hf 7 _ rfl
  rw [ck] at g; exact g
 have g8:DataW.trod enc Tryz.prog w 0 (fun _=>true) true n 9 [y9]=some x8:=by
  have ck:Tryz.prog.cellsOf 9=1:=by kernel_rfl
  have g:DataW.trod enc Tryz.prog w 0 (fun _=>true) true n 9 (List.take (Tryz.prog.cellsOf 9) (List.drop 9 [y0,y1,y2,y3,y4,y5,y6,y7,y8,y9]))=some x8:=hf 8 _ rfl
  rw [ck] at g; exact g
 clear hf hl hxl
 obtain ⟨a0,r0,b0⟩:=(opens_str (by kernel_rfl) Tryz.underlying9).2 g0
 obtain ⟨a1,r1,b1⟩:=(opens_int (by kernel_rfl) Tryz.underlying3).2 g1
 obtain ⟨a2,r2,b2⟩:=(opens_int (by kernel_rfl) Tryz.underlying3).2 g2
 obtain ⟨a3,r3,b3⟩:=(opens_int (by kernel_rfl) Tryz.underlying3).2 g3
 obtain ⟨a4,r4,b4⟩:=(opens_int (by kernel_rfl) Tryz.underlying3).2 g4
 obtain ⟨a5,r5,b5⟩:=opens_TimeD.2 g5
 obtain ⟨a6,r6,b6⟩:=(opens_slice (by kernel_rfl) Tryz.underlying58 (opens_byte (by kernel_rfl) Tryz.underlying5)).2 g6
 obtain ⟨a7,r7,b7⟩:=(opens_str (by kernel_rfl) Tryz.underlying9).2 g7
 obtain ⟨a8,r8,b8⟩:=(opens_str (by kernel_rfl) Tryz.underlying9).2 g8
 obtain ⟨e0,i0⟩:=r0
 simp only [List.cons.injEq,and_true] at e0
 subst e0
 obtain ⟨e1,i1⟩:=r1
 simp only [List.cons.injEq,and_true] at e1
 subst e1
 obtain ⟨e2,i2⟩:=r2
 simp only [List.cons.injEq,and_true] at e2
 subst e2
 obtain ⟨e3,i3⟩:=r3
 simp only [List.cons.injEq,and_true] at e3
 subst e3
 obtain ⟨e4,i4⟩:=r4
 simp only [List.cons.injEq,and_true] at e4
 subst e4
 obtain ⟨e5,i5_0,i5_1⟩:=r5
 simp only [List.cons.injEq,and_true] at e5
 obtain ⟨rfl,rfl⟩:=e5
 obtain ⟨z6,e6,A6,n6,c6,rfl,i6,j6,k6⟩:=r6
 simp only [List.cons.injEq,and_true] at e6
 subst e6
 obtain ⟨e7,i7⟩:=r7
 simp only [List.cons.injEq,and_true] at e7
 subst e7
 obtain ⟨e8,i8⟩:=r8
 simp only [List.cons.injEq,and_true] at e8
 subst e8
 refine ⟨⟨a0,a1,a2,a3,a4,a5,a6,a7,a8⟩,⟨A6,n6,c6,rfl,i0,i1,i2,i3,i4,i5_0,i5_1,i6,j6,k6,i7,i8⟩,?_⟩
 simp only [Shape.LineD,List.map_cons,List.map_nil,Rows.uptoBulk,Rows.uptoBulkAll]
 omega
theorem elem_LineD:Elem Tryz.prog 26 60 Shape.LineD 120:=⟨Tryz.underlying26,by kernel_rfl⟩
theorem whole_LineD:Whole Tryz.prog 60 10:=⟨by kernel_rfl,by kernel_rfl⟩
end Go.Proofs.YtfhfcipelgogjaaGreatDoor
namespace Go.Proofs.YtfhfcipelgogjaaGreatDoor
open Go.RowKit Go.ChangeShapes Go.WideShapes Go.Deep
structure EntryD where
 kind:Int
 name:ByteArray
 link:ByteArray
 mode:Int
 uid:Int
 gid:Int
 user:ByteArray
 group:ByteArray
 mtime:TimeD
 data:List UInt8
 deriving DecidableEq,Inhabited
def EntryD.rd (w:World) (M:Nat→Prop) (cs:List Value) (d:EntryD):Prop:=
 ∃ (A1:Option Addr) (n1 c1:Nat),cs=[.int .i64 d.kind,.string d.name,.string d.link,.int .i64 d.mode,.int .i64 d.uid,.int .i64 d.gid,.string d.user,.string d.group,.int .i64 d.mtime.sec,.int .i64 d.mtime.nano,.slice A1 n1 c1]∧I64 d.kind∧(d.name).size≤maxLen∧(d.link).size≤maxLen∧I64 d.mode∧I64 d.uid∧I64 d.gid∧(d.user).size≤maxLen∧(d.group).size≤maxLen∧I64 d.mtime.sec∧I64 d.mtime.nano∧n1≤c1∧c1≤maxLen∧Row Shape.byte w M A1 n1 d.data
def Shape.EntryD:Shape EntryD where
 size:=11
 pos:=by decide
 rd:=EntryD.rd
 bulk d:=Shape.int.bulk d.kind+Shape.str.bulk d.name+Shape.str.bulk d.link+Shape.int.bulk d.mode+Shape.int.bulk d.uid+Shape.int.bulk d.gid+Shape.str.bulk d.user+Shape.str.bulk d.group+Shape.TimeD.bulk d.mtime+(Shape.slice Shape.byte).bulk d.data+1
 bpos _:=by omega
 len:=fun {w M cs d} h=>by obtain ⟨_,_,_,e,_,_,_,_,_,_,_,_,_,_,_,_,_⟩:=h; subst e; rfl
 keep:=fun {w w' M cs d} h k=>by obtain ⟨A1,n1,c1,e,h0,h1,h2,h3,h4,h5,h6,h7,h8,h9,h10,h11,h12⟩:=h; exact ⟨A1,n1,c1,e,h0,h1,h2,h3,h4,h5,h6,h7,h8,h9,h10,h11,h12.keep k⟩
 more:=fun {w M M' cs d} h k=>by obtain ⟨A1,n1,c1,e,h0,h1,h2,h3,h4,h5,h6,h7,h8,h9,h10,h11,h12⟩:=h; exact ⟨A1,n1,c1,e,h0,h1,h2,h3,h4,h5,h6,h7,h8,h9,h10,h11,h12.more k⟩
 one:=fun {w M cs d} h v hv=>by obtain ⟨_,_,_,e,_,_,_,_,_,_,_,_,_,_,_,_,_⟩:=h; subst e; simp only [List.mem_cons,List.not_mem_nil,or_false] at hv; rcases hv with rfl | rfl | rfl | rfl | rfl | rfl | rfl | rfl | rfl | rfl | rfl <;> rfl
theorem opens_EntryD:Opens Tryz.prog Shape.EntryD 66:=by
 refine ⟨by kernel_rfl,fun {H enc w fuel cs x} h=>?_⟩
 obtain ⟨xs,n,rfl,rfl,hlen,hxl,hf⟩:=DataW.trod_struct Tryz.underlying66 h
 have hl:cs.length=11:=by rw [hlen]; kernel_rfl
 clear h hlen
 obtain ⟨y0,y1,y2,y3,y4,y5,y6,y7,y8,y9,y10,rfl⟩:∃ y0 y1 y2 y3 y4 y5 y6 y7 y8 y9 y10,cs=[y0,y1,y2,y3,y4,y5,y6,y7,y8,y9,y10]:=by
  match cs,hl with | [y0,y1,y2,y3,y4,y5,y6,y7,y8,y9,y10],_=>exact ⟨y0,y1,y2,y3,y4,y5,y6,y7,y8,y9,y10,rfl⟩
 obtain ⟨x0,x1,x2,x3,x4,x5,x6,x7,x8,x9,rfl⟩:∃ x0 x1 x2 x3 x4 x5 x6 x7 x8 x9,xs=[x0,x1,x2,x3,x4,x5,x6,x7,x8,x9]:=by
  match xs,hxl with | [x0,x1,x2,x3,x4,x5,x6,x7,x8,x9],_=>exact ⟨x0,x1,x2,x3,x4,x5,x6,x7,x8,x9,rfl⟩
 have g0:DataW.trod enc Tryz.prog w 0 (fun _=>true) true n 3 [y0]=some x0:=by
  have ck:Tryz.prog.cellsOf 3=1:=by kernel_rfl
  have g:DataW.trod enc Tryz.prog w 0 (fun _=>true) true n 3 (List.take (Tryz.prog.cellsOf 3) (List.drop 0 [y0,y1,y2,y3,y4,y5,y6,y7,y8,y9,y10]))=some x0:=hf 0 _ rfl
  rw [ck] at g; exact g
 have g1:DataW.trod enc Tryz.prog w 0 (fun _=>true) true n 9 [y1]=some x1:=by
  have ck:Tryz.prog.cellsOf 9=1:=by kernel_rfl
  have g:DataW.trod enc Tryz.prog w 0 (fun _=>true) true n 9 (List.take (Tryz.prog.cellsOf 9) (List.drop 1 [y0,y1,y2,y3,y4,y5,y6,y7,y8,y9,y10]))=some x1:=hf 1 _ rfl
  rw [ck] at g; exact g
 have g2:DataW.trod enc Tryz.prog w 0 (fun _=>true) true n 9 [y2]=some x2:=by
  have ck:Tryz.prog.cellsOf 9=1:=by kernel_rfl
  have g:DataW.trod enc Tryz.prog w 0 (fun _=>true) true n 9 (List.take (Tryz.prog.cellsOf 9) (List.drop 2 [y0,y1,y2,y3,y4,y5,y6,y7,y8,y9,y10]))=some x2:=hf 2 _ rfl
  rw [ck] at g; exact g
 have g3:DataW.trod enc Tryz.prog w 0 (fun _=>true) true n 3 [y3]=some x3:=by
  have ck:Tryz.prog.cellsOf 3=1:=by kernel_rfl
  have g:DataW.trod enc Tryz.prog w 0 (fun _=>true) true n 3 (List.take (Tryz.prog.cellsOf 3) (List.drop 3 [y0,y1,y2,y3,y4,y5,y6,y7,y8,y9,y10]))=some x3:=hf 3 _ rfl
  rw [ck] at g; exact g
 have g4:DataW.trod enc Tryz.prog w 0 (fun _=>true) true n 3 [y4]=some x4:=by
  have ck:Tryz.prog.cellsOf 3=1:=by kernel_rfl
  have g:DataW.trod enc Tryz.prog w 0 (fun _=>true) true n 3 (List.take (Tryz.prog.cellsOf 3) (List.drop 4 [y0,y1,y2,y3,y4,y5,y6,y7,y8,y9,y10]))=some x4:=hf 4 _ rfl
  rw [ck] at g; exact g
 have g5:DataW.trod enc Tryz.prog w 0 (fun _=>true) true n 3 [y5]=some x5:=by
  have ck:Tryz.prog.cellsOf 3=1:=by kernel_rfl
  have g:DataW.trod enc Tryz.prog w 0 (fun _=>true) true n 3 (List.take (Tryz.prog.cellsOf 3) (List.drop 5 [y0,y1,y2,y3,y4,y5,y6,y7,y8,y9,y10]))=some x5:=hf 5 _ rfl
  rw [ck] at g; exact g
 have g6:DataW.trod enc Tryz.prog w 0 (fun _=>true) true n 9 [y6]=some x6:=by
  have ck:Tryz.prog.cellsOf 9=1:=by kernel_rfl
  have g:DataW.trod enc Tryz.prog w 0 (fun _=>true) true n 9 (List.take (Tryz.prog.cellsOf 9) (List.drop 6 [y0,y1,y2,y3,y4,y5,y6,y7,y8,y9,y10]))=some x6:=hf 6 _ rfl
  rw [ck] at g; exact g
 have g7:DataW.trod enc Tryz.prog w 0 (fun _=>true) true n 9 [y7]=some x7:=by
  have ck:Tryz.prog.cellsOf 9=1:=by kernel_rfl
  have g:DataW.trod enc Tryz.prog w 0 (fun _=>true) true n 9 (List.take (Tryz.prog.cellsOf 9) (List.drop 7 [y0,y1,y2,y3,y4,y5,y6,y7,y8,y9,y10]))=some x7:=hf 7 _ rfl
  rw [ck] at g; exact g
 have g8:DataW.trod enc Tryz.prog w 0 (fun _=>true) true n 44 [y8,y9]=some x8:=by
  have ck:Tryz.prog.cellsOf 44=2:=by kernel_rfl
  have g:DataW.trod enc Tryz.prog w 0 (fun _=>true) true n 44 (List.take (Tryz.prog.cellsOf 44) (List.drop 8 [y0,y1,y2,y3,y4,y5,y6,y7,y8,y9,y10]))=some x8:=hf 8 _ rfl
  rw [ck] at g; exact g
 have g9:DataW.trod enc Tryz.prog w 0 (fun _=>true) true n 58 [y10]=some x9:=by
  have ck:Tryz.prog.cellsOf 58=1:=by kernel_rfl
  have g:DataW.trod enc Tryz.prog w 0 (fun _=>true) true n 58 (List.take (Tryz.prog.cellsOf 58) (List.drop 10 [y0,y1,y2,y3,y4,y5,y6,y7,y8,y9,y10]))=some x9:=hf 9 _ rfl
  rw [ck] at g; exact g
 clear hf hl hxl
 obtain ⟨a0,r0,b0⟩:=(opens_int (by kernel_rfl) Tryz.underlying3).2 g0
 obtain ⟨a1,r1,b1⟩:=(opens_str (by kernel_rfl) Tryz.underlying9).2 g1
 obtain ⟨a2,r2,b2⟩:=(opens_str (by kernel_rfl) Tryz.underlying9).2 g2
 obtain ⟨a3,r3,b3⟩:=(opens_int (by kernel_rfl) Tryz.underlying3).2 g3
 obtain ⟨a4,r4,b4⟩:=(opens_int (by kernel_rfl) Tryz.underlying3).2 g4
 obtain ⟨a5,r5,b5⟩:=(opens_int (by kernel_rfl) Tryz.underlying3).2 g5
 obtain ⟨a6,r6,b6⟩:=(opens_str (by kernel_rfl) Tryz.underlying9).2 g6
 obtain ⟨a7,r7,b7⟩:=(opens_str (by kernel_rfl) Tryz.underlying9).2 g7
 obtain ⟨a8,r8,b8⟩:=opens_TimeD.2 g8
 obtain ⟨a9,r9,b9⟩:=(opens_slice (by kernel_rfl) Tryz.underlying58 (opens_byte (by kernel_rfl) Tryz.underlying5)).2 g9
 obtain ⟨e0,i0⟩:=r0
 simp only [List.cons.injEq,and_true] at e0
 subst e0
 obtain ⟨e1,i1⟩:=r1
 simp only [List.cons.injEq,and_true] at e1
 subst e1
 obtain ⟨e2,i2⟩:=r2
 simp only [List.cons.injEq,and_true] at e2
 subst e2
 obtain ⟨e3,i3⟩:=r3
 simp only [List.cons.injEq,and_true] at e3
 subst e3
 obtain ⟨e4,i4⟩:=r4
 simp only [List.cons.injEq,and_true] at e4
 subst e4
 obtain ⟨e5,i5⟩:=r5
 simp only [List.cons.injEq,and_true] at e5
 subst e5
 obtain ⟨e6,i6⟩:=r6
 simp only [List.cons.injEq,and_true] at e6
 subst e6
 obtain ⟨e7,i7⟩:=r7
 simp only [List.cons.injEq,and_true] at e7
 subst e7
 obtain ⟨e8,i8_0,i8_1⟩:=r8
 simp only [List.cons.injEq,and_true] at e8
 obtain ⟨rfl,rfl⟩:=e8
 obtain ⟨z9,e9,A9,n9,c9,rfl,i9,j9,k9⟩:=r9
 simp only [List.cons.injEq,and_true] at e9
 subst e9
 refine ⟨⟨a0,a1,a2,a3,a4,a5,a6,a7,a8,a9⟩,⟨A9,n9,c9,rfl,i0,i1,i2,i3,i4,i5,i6,i7,i8_0,i8_1,i9,j9,k9⟩,?_⟩
 simp only [Shape.EntryD,List.map_cons,List.map_nil,Rows.uptoBulk,Rows.uptoBulkAll]
 omega
structure ConfigD where
 maxEntries:Int
 maxBytes:Int
 maxDepth:Int
 maxName:Int
 maxPax:Int
 strip:Int
 links:Int
 replace:Int
 umask:Int
 keepSetid:Bool
 keepIds:Bool
 include_:List ByteArray
 exclude:List ByteArray
 deriving DecidableEq,Inhabited
def ConfigD.rd (w:World) (M:Nat→Prop) (cs:List Value) (d:ConfigD):Prop:=
 ∃ (A1:Option Addr) (n1 c1:Nat) (A2:Option Addr) (n2 c2:Nat),cs=[.int .i64 d.maxEntries,.int .i64 d.maxBytes,.int .i64 d.maxDepth,.int .i64 d.maxName,.int .i64 d.maxPax,.int .i64 d.strip,.int .i64 d.links,.int .i64 d.replace,.int .i64 d.umask,.bool d.keepSetid,.bool d.keepIds,.slice A1 n1 c1,.slice A2 n2 c2]∧I64 d.maxEntries∧I64 d.maxBytes∧I64 d.maxDepth∧I64 d.maxName∧I64 d.maxPax∧I64 d.strip∧I64 d.links∧I64 d.replace∧I64 d.umask∧n1≤c1∧c1≤maxLen∧Row Shape.str w M A1 n1 d.include_∧n2≤c2∧c2≤maxLen∧Row Shape.str w M A2 n2 d.exclude
def Shape.ConfigD:Shape ConfigD where
 size:=13
 pos:=by decide
 rd:=ConfigD.rd
 bulk d:=Shape.int.bulk d.maxEntries+Shape.int.bulk d.maxBytes+Shape.int.bulk d.maxDepth+Shape.int.bulk d.maxName+Shape.int.bulk d.maxPax+Shape.int.bulk d.strip+Shape.int.bulk d.links+Shape.int.bulk d.replace+Shape.int.bulk d.umask+Shape.bool.bulk d.keepSetid+Shape.bool.bulk d.keepIds+(Shape.slice Shape.str).bulk d.include_+(Shape.slice Shape.str).bulk d.exclude+1
 bpos _:=by omega
 len:=fun {w M cs d} h=>by obtain ⟨_,_,_,_,_,_,e,_,_,_,_,_,_,_,_,_,_,_,_,_,_,_⟩:=h; subst e; rfl
 keep:=fun {w w' M cs d} h k=>by obtain ⟨A1,n1,c1,A2,n2,c2,e,h0,h1,h2,h3,h4,h5,h6,h7,h8,h9,h10,h11,h12,h13,h14⟩:=h; exact ⟨A1,n1,c1,A2,n2,c2,e,h0,h1,h2,h3,h4,h5,h6,h7,h8,h9,h10,h11.keep k,h12,h13,h14.keep k⟩
 more:=fun {w M M' cs d} h k=>by obtain ⟨A1,n1,c1,A2,n2,c2,e,h0,h1,h2,h3,h4,h5,h6,h7,h8,h9,h10,h11,h12,h13,h14⟩:=h; exact ⟨A1,n1,c1,A2,n2,c2,e,h0,h1,h2,h3,h4,h5,h6,h7,h8,h9,h10,h11.more k,h12,h13,h14.more k⟩
 one:=fun {w M cs d} h v hv=>by obtain ⟨_,_,_,_,_,_,e,_,_,_,_,_,_,_,_,_,_,_,_,_,_,_⟩:=h; subst e; simp only [List.mem_cons,List.not_mem_nil,or_false] at hv; rcases hv with rfl | rfl | rfl | rfl | rfl | rfl | rfl | rfl | rfl | rfl | rfl | rfl | rfl <;> rfl
theorem opens_ConfigD:Opens Tryz.prog Shape.ConfigD 42:=by
 refine ⟨by kernel_rfl,fun {H enc w fuel cs x} h=>?_⟩
 obtain ⟨xs,n,rfl,rfl,hlen,hxl,hf⟩:=DataW.trod_struct Tryz.underlying42 h
 have hl:cs.length=13:=by rw [hlen]; kernel_rfl
 clear h hlen
 obtain ⟨y0,y1,y2,y3,y4,y5,y6,y7,y8,y9,y10,y11,y12,rfl⟩:∃ y0 y1 y2 y3 y4 y5 y6 y7 y8 y9 y10 y11 y12,cs=[y0,y1,y2,y3,y4,y5,y6,y7,y8,y9,y10,y11,y12]:=by
  match cs,hl with | [y0,y1,y2,y3,y4,y5,y6,y7,y8,y9,y10,y11,y12],_=>exact ⟨y0,y1,y2,y3,y4,y5,y6,y7,y8,y9,y10,y11,y12,rfl⟩
 obtain ⟨x0,x1,x2,x3,x4,x5,x6,x7,x8,x9,x10,x11,x12,rfl⟩:∃ x0 x1 x2 x3 x4 x5 x6 x7 x8 x9 x10 x11 x12,xs=[x0,x1,x2,x3,x4,x5,x6,x7,x8,x9,x10,x11,x12]:=by
  match xs,hxl with | [x0,x1,x2,x3,x4,x5,x6,x7,x8,x9,x10,x11,x12],_=>exact ⟨x0,x1,x2,x3,x4,x5,x6,x7,x8,x9,x10,x11,x12,rfl⟩
 have g0:DataW.trod enc Tryz.prog w 0 (fun _=>true) true n 3 [y0]=some x0:=by
  have ck:Tryz.prog.cellsOf 3=1:=by kernel_rfl
  have g:DataW.trod enc Tryz.prog w 0 (fun _=>true) true n 3 (List.take (Tryz.prog.cellsOf 3) (List.drop 0 [y0,y1,y2,y3,y4,y5,y6,y7,y8,y9,y10,y11,y12]))=some x0:=hf 0 _ rfl
  rw [ck] at g; exact g
 have g1:DataW.trod enc Tryz.prog w 0 (fun _=>true) true n 3 [y1]=some x1:=by
  have ck:Tryz.prog.cellsOf 3=1:=by kernel_rfl
  have g:DataW.trod enc Tryz.prog w 0 (fun _=>true) true n 3 (List.take (Tryz.prog.cellsOf 3) (List.drop 1 [y0,y1,y2,y3,y4,y5,y6,y7,y8,y9,y10,y11,y12]))=some x1:=hf 1 _ rfl
  rw [ck] at g; exact g
 have g2:DataW.trod enc Tryz.prog w 0 (fun _=>true) true n 3 [y2]=some x2:=by
  have ck:Tryz.prog.cellsOf 3=1:=by kernel_rfl
  have g:DataW.trod enc Tryz.prog w 0 (fun _=>true) true n 3 (List.take (Tryz.prog.cellsOf 3) (List.drop 2 [y0,y1,y2,y3,y4,y5,y6,y7,y8,y9,y10,y11,y12]))=some x2:=hf 2 _ rfl
  rw [ck] at g; exact g
 have g3:DataW.trod enc Tryz.prog w 0 (fun _=>true) true n 3 [y3]=some x3:=by
  have ck:Tryz.prog.cellsOf 3=1:=by kernel_rfl
  have g:DataW.trod enc Tryz.prog w 0 (fun _=>true) true n 3 (List.take (Tryz.prog.cellsOf 3) (List.drop 3 [y0,y1,y2,y3,y4,y5,y6,y7,y8,y9,y10,y11,y12]))=some x3:=hf 3 _ rfl
  rw [ck] at g; exact g
 have g4:DataW.trod enc Tryz.prog w 0 (fun _=>true) true n 3 [y4]=some x4:=by
  have ck:Tryz.prog.cellsOf 3=1:=by kernel_rfl
  have g:DataW.trod enc Tryz.prog w 0 (fun _=>true) true n 3 (List.take (Tryz.prog.cellsOf 3) (List.drop 4 [y0,y1,y2,y3,y4,y5,y6,y7,y8,y9,y10,y11,y12]))=some x4:=hf 4 _ rfl
  rw [ck] at g; exact g
 have g5:DataW.trod enc Tryz.prog w 0 (fun _=>true) true n 3 [y5]=some x5:=by
  have ck:Tryz.prog.cellsOf 3=1:=by kernel_rfl
  have g:DataW.trod enc Tryz.prog w 0 (fun _=>true) true n 3 (List.take (Tryz.prog.cellsOf 3) (List.drop 5 [y0,y1,y2,y3,y4,y5,y6,y7,y8,y9,y10,y11,y12]))=some x5:=hf 5 _ rfl
  rw [ck] at g; exact g
 have g6:DataW.trod enc Tryz.prog w 0 (fun _=>true) true n 3 [y6]=some x6:=by
  have ck:Tryz.prog.cellsOf 3=1:=by kernel_rfl
  have g:DataW.trod enc Tryz.prog w 0 (fun _=>true) true n 3 (List.take (Tryz.prog.cellsOf 3) (List.drop 6 [y0,y1,y2,y3,y4,y5,y6,y7,y8,y9,y10,y11,y12]))=some x6:=hf 6 _ rfl
  rw [ck] at g; exact g
 have g7:DataW.trod enc Tryz.prog w 0 (fun _=>true) true n 3 [y7]=some x7:=by
  have ck:Tryz.prog.cellsOf 3=1:=by kernel_rfl
  have g:DataW.trod enc Tryz.prog w 0 (fun _=>true) true n 3 (List.take (Tryz.prog.cellsOf 3) (List.drop 7 [y0,y1,y2,y3,y4,y5,y6,y7,y8,y9,y10,y11,y12]))=some x7:=hf 7 _ rfl
  rw [ck] at g; exact g
 have g8:DataW.trod enc Tryz.prog w 0 (fun _=>true) true n 3 [y8]=some x8:=by
  have ck:Tryz.prog.cellsOf 3=1:=by kernel_rfl
  have g:DataW.trod enc Tryz.prog w 0 (fun _=>true) true n 3 (List.take (Tryz.prog.cellsOf 3) (List.drop 8 [y0,y1,y2,y3,y4,y5,y6,y7,y8,y9,y10,y11,y12]))=some x8:=hf 8 _ rfl
  rw [ck] at g; exact g
 have g9:DataW.trod enc Tryz.prog w 0 (fun _=>true) true n 4 [y9]=some x9:=by
  have ck:Tryz.prog.cellsOf 4=1:=by kernel_rfl
  have g:DataW.trod enc Tryz.prog w 0 (fun _=>true) true n 4 (List.take (Tryz.prog.cellsOf 4) (List.drop 9 [y0,y1,y2,y3,y4,y5,y6,y7,y8,y9,y10,y11,y12]))=some x9:=hf 9 _ rfl
  rw [ck] at g; exact g
 have g10:DataW.trod enc Tryz.prog w 0 (fun _=>true) true n 4 [y10]=some x10:=by
  have ck:Tryz.prog.cellsOf 4=1:=by kernel_rfl
  have g:DataW.trod enc Tryz.prog w 0 (fun _=>true) true n 4 (List.take (Tryz.prog.cellsOf 4) (List.drop 10 [y0,y1,y2,y3,y4,y5,y6,y7,y8,y9,y10,y11,y12]))=some x10:=hf 10 _ rfl
  rw [ck] at g; exact g
 have g11:DataW.trod enc Tryz.prog w 0 (fun _=>true) true n 40 [y11]=some x11:=by
  have ck:Tryz.prog.cellsOf 40=1:=by kernel_rfl
  have g:DataW.trod enc Tryz.prog w 0 (fun _=>true) true n 40 (List.take (Tryz.prog.cellsOf 40) (List.drop 11 [y0,y1,y2,y3,y4,y5,y6,y7,y8,y9,y10,y11,y12]))=some x11:=hf 11 _ rfl
  rw [ck] at g; exact g
 have g12:DataW.trod enc Tryz.prog w 0 (fun _=>true) true n 40 [y12]=some x12:=by
  have ck:Tryz.prog.cellsOf 40=1:=by kernel_rfl
  have g:DataW.trod enc Tryz.prog w 0 (fun _=>true) true n 40 (List.take (Tryz.prog.cellsOf 40) (List.drop 12 [y0,y1,y2,y3,y4,y5,y6,y7,y8,y9,y10,y11,y12]))=some x12:=hf 12 _ rfl
  rw [ck] at g; exact g
 clear hf hl hxl
 obtain ⟨a0,r0,b0⟩:=(opens_int (by kernel_rfl) Tryz.underlying3).2 g0
 obtain ⟨a1,r1,b1⟩:=(opens_int (by kernel_rfl) Tryz.underlying3).2 g1
 obtain ⟨a2,r2,b2⟩:=(opens_int (by kernel_rfl) Tryz.underlying3).2 g2
 obtain ⟨a3,r3,b3⟩:=(opens_int (by kernel_rfl) Tryz.underlying3).2 g3
 obtain ⟨a4,r4,b4⟩:=(opens_int (by kernel_rfl) Tryz.underlying3).2 g4
 obtain ⟨a5,r5,b5⟩:=(opens_int (by kernel_rfl) Tryz.underlying3).2 g5
 obtain ⟨a6,r6,b6⟩:=(opens_int (by kernel_rfl) Tryz.underlying3).2 g6
 obtain ⟨a7,r7,b7⟩:=(opens_int (by kernel_rfl) Tryz.underlying3).2 g7
 obtain ⟨a8,r8,b8⟩:=(opens_int (by kernel_rfl) Tryz.underlying3).2 g8
 obtain ⟨a9,r9,b9⟩:=(opens_bool (by kernel_rfl) Tryz.underlying4).2 g9
 obtain ⟨a10,r10,b10⟩:=(opens_bool (by kernel_rfl) Tryz.underlying4).2 g10
 obtain ⟨a11,r11,b11⟩:=(opens_slice (by kernel_rfl) Tryz.underlying40 (opens_str (by kernel_rfl) Tryz.underlying9)).2 g11
 obtain ⟨a12,r12,b12⟩:=(opens_slice (by kernel_rfl) Tryz.underlying40 (opens_str (by kernel_rfl) Tryz.underlying9)).2 g12
 obtain ⟨e0,i0⟩:=r0
 simp only [List.cons.injEq,and_true] at e0
 subst e0
 obtain ⟨e1,i1⟩:=r1
 simp only [List.cons.injEq,and_true] at e1
 subst e1
 obtain ⟨e2,i2⟩:=r2
 simp only [List.cons.injEq,and_true] at e2
 subst e2
 obtain ⟨e3,i3⟩:=r3
 simp only [List.cons.injEq,and_true] at e3
 subst e3
 obtain ⟨e4,i4⟩:=r4
 simp only [List.cons.injEq,and_true] at e4
 subst e4
 obtain ⟨e5,i5⟩:=r5
 simp only [List.cons.injEq,and_true] at e5
 subst e5
 obtain ⟨e6,i6⟩:=r6
 simp only [List.cons.injEq,and_true] at e6
 subst e6
 obtain ⟨e7,i7⟩:=r7
 simp only [List.cons.injEq,and_true] at e7
 subst e7
 obtain ⟨e8,i8⟩:=r8
 simp only [List.cons.injEq,and_true] at e8
 subst e8
 have e9:[_]=[Value.bool a9]:=r9
 simp only [List.cons.injEq,and_true] at e9
 subst e9
 have e10:[_]=[Value.bool a10]:=r10
 simp only [List.cons.injEq,and_true] at e10
 subst e10
 obtain ⟨z11,e11,A11,n11,c11,rfl,i11,j11,k11⟩:=r11
 simp only [List.cons.injEq,and_true] at e11
 subst e11
 obtain ⟨z12,e12,A12,n12,c12,rfl,i12,j12,k12⟩:=r12
 simp only [List.cons.injEq,and_true] at e12
 subst e12
 refine ⟨⟨a0,a1,a2,a3,a4,a5,a6,a7,a8,a9,a10,a11,a12⟩,⟨A11,n11,c11,A12,n12,c12,rfl,i0,i1,i2,i3,i4,i5,i6,i7,i8,i11,j11,k11,i12,j12,k12⟩,?_⟩
 simp only [Shape.ConfigD,List.map_cons,List.map_nil,Rows.uptoBulk,Rows.uptoBulkAll]
 omega
end Go.Proofs.YtfhfcipelgogjaaGreatDoor
namespace Go.Proofs.YtfhfcipelgogjaaGreatDoor
open Go.RowKit Go.ChangeShapes Go.WideShapes Go.Deep
structure EntD where
 name:ByteArray
 id:Int
 deriving DecidableEq,Inhabited
def EntD.rd (w:World) (M:Nat→Prop) (cs:List Value) (d:EntD):Prop:=
 cs=[.string d.name,.int .i64 d.id]∧(d.name).size≤maxLen∧I64 d.id
def Shape.EntD:Shape EntD where
 size:=2
 pos:=by decide
 rd:=EntD.rd
 bulk d:=Shape.str.bulk d.name+Shape.int.bulk d.id+1
 bpos _:=by omega
 len:=fun {w M cs d} h=>by obtain ⟨e,_,_⟩:=h; subst e; rfl
 keep:=fun {w w' M cs d} h _=>by obtain ⟨e,h0,h1⟩:=h; exact ⟨e,h0,h1⟩
 more:=fun {w M M' cs d} h _=>by obtain ⟨e,h0,h1⟩:=h; exact ⟨e,h0,h1⟩
 one:=fun {w M cs d} h v hv=>by obtain ⟨e,_,_⟩:=h; subst e; simp only [List.mem_cons,List.not_mem_nil,or_false] at hv; rcases hv with rfl | rfl <;> rfl
theorem elem_EntD:Elem Tryz.prog 77 103 Shape.EntD 24:=⟨Tryz.underlying77,by kernel_rfl⟩
structure NodeD where
 id:Int
 kind:Int
 mode:Int
 uid:Int
 gid:Int
 mtime:TimeD
 data:List UInt8
 target:ByteArray
 ents:List EntD
 deriving DecidableEq,Inhabited
def NodeD.rd (w:World) (M:Nat→Prop) (cs:List Value) (d:NodeD):Prop:=
 ∃ (A1:Option Addr) (n1 c1:Nat) (A2:Option Addr) (n2 c2:Nat),cs=[.int .i64 d.id,.int .i64 d.kind,.int .i64 d.mode,.int .i64 d.uid,.int .i64 d.gid,.int .i64 d.mtime.sec,.int .i64 d.mtime.nano,.slice A1 n1 c1,.string d.target,.slice A2 n2 c2]∧I64 d.id∧I64 d.kind∧I64 d.mode∧I64 d.uid∧I64 d.gid∧I64 d.mtime.sec∧I64 d.mtime.nano∧n1≤c1∧c1≤maxLen∧Row Shape.byte w M A1 n1 d.data∧(d.target).size≤maxLen∧n2≤c2∧c2≤maxLen∧Row Shape.EntD w M A2 n2 d.ents
def Shape.NodeD:Shape NodeD where
 size:=10
 pos:=by decide
 rd:=NodeD.rd
 bulk d:=Shape.int.bulk d.id+Shape.int.bulk d.kind+Shape.int.bulk d.mode+Shape.int.bulk d.uid+Shape.int.bulk d.gid+Shape.TimeD.bulk d.mtime+(Shape.slice Shape.byte).bulk d.data+Shape.str.bulk d.target+(Shape.slice Shape.EntD).bulk d.ents+1
 bpos _:=by omega
 len:=fun {w M cs d} h=>by obtain ⟨_,_,_,_,_,_,e,_,_,_,_,_,_,_,_,_,_,_,_,_,_⟩:=h; subst e; rfl
 keep:=fun {w w' M cs d} h k=>by obtain ⟨A1,n1,c1,A2,n2,c2,e,h0,h1,h2,h3,h4,h5,h6,h7,h8,h9,h10,h11,h12,h13⟩:=h; exact ⟨A1,n1,c1,A2,n2,c2,e,h0,h1,h2,h3,h4,h5,h6,h7,h8,h9.keep k,h10,h11,h12,h13.keep k⟩
 more:=fun {w M M' cs d} h k=>by obtain ⟨A1,n1,c1,A2,n2,c2,e,h0,h1,h2,h3,h4,h5,h6,h7,h8,h9,h10,h11,h12,h13⟩:=h; exact ⟨A1,n1,c1,A2,n2,c2,e,h0,h1,h2,h3,h4,h5,h6,h7,h8,h9.more k,h10,h11,h12,h13.more k⟩
 one:=fun {w M cs d} h v hv=>by obtain ⟨_,_,_,_,_,_,e,_,_,_,_,_,_,_,_,_,_,_,_,_,_⟩:=h; subst e; simp only [List.mem_cons,List.not_mem_nil,or_false] at hv; rcases hv with rfl | rfl | rfl | rfl | rfl | rfl | rfl | rfl | rfl | rfl <;> rfl
end Go.Proofs.YtfhfcipelgogjaaGreatDoor
namespace Go.Proofs.YtfhfcipelgogjaaGreatDoor
open Go.RowKit
def stampOk (s n:Int):Bool:=decide (0≤n∧n<1000000000∧-1099511627777≤s∧s≤1099511627776∧(s≠-1099511627777∨0<n))
theorem below_alloc_self (w:World) (o:Obj):Below w.heap.size w (w.alloc o):=
 ⟨rfl,rfl,rfl,by simp,fun n hn=>Below.heap_alloc w o n hn⟩
theorem stampValid (s n:Int) (w:World) :
  Calls Tryz.prog 73 #[.agg #[.int .i64 s,.int .i64 n]] w fun e w'=>e=.returned (.bool (stampOk s n))∧Below w.heap.size w w':=by
 unfold stampOk
 by_cases h0:n<0
 ·have hd:decide (n<0)=true:=by simpa using h0
  go_enter Tryz.func73,Tryz.ntmps73
  go_wp2
  go_ret
  exact ⟨by simp <;> omega,below_alloc_self w _⟩
 have hd0:decide (n<0)=false:=by simpa using h0
 by_cases h1:1000000000≤n
 ·have hd:decide (n≥1000000000)=true:=by simpa using h1
  go_enter Tryz.func73,Tryz.ntmps73
  go_wp2
  go_ret
  exact ⟨by simp <;> omega,below_alloc_self w _⟩
 have hd1:decide (n≥1000000000)=false:=by simpa using h1
 by_cases h2:s=-1099511627777
 ·subst h2
  go_enter Tryz.func73,Tryz.ntmps73
  go_wp2
  go_ret
  exact ⟨by simp <;> omega,below_alloc_self w _⟩
 have hd2:(s == -1099511627777)=false:=by simpa using h2
 go_enter Tryz.func73,Tryz.ntmps73
 by_cases h3:-1099511627777<s
 ·have hd3:decide (s>-1099511627777)=true:=by simpa using h3
  go_wp2
  go_ret
  exact ⟨by simp <;> omega,below_alloc_self w _⟩
 ·have hd3:decide (s>-1099511627777)=false:=by simpa using h3
  go_wp2
  go_ret
  exact ⟨by simp <;> omega,below_alloc_self w _⟩
end Go.Proofs.YtfhfcipelgogjaaGreatDoor
namespace Go.Proofs.YtfhfcipelgogjaaGreatDoor
open Go.RowKit Go.ChangeShapes Go.WideShapes Go.Deep
structure GivenD where
 lines:List LineD
 entries:List EntryD
 cfg:ConfigD
 now:TimeD
 deriving DecidableEq,Inhabited
def GivenD.rd (w:World) (M:Nat→Prop) (cs:List Value) (d:GivenD):Prop:=
 ∃ (A1:Option Addr) (n1 c1:Nat) (A2:Option Addr) (n2 c2:Nat) (A3:Option Addr) (n3 c3:Nat) (A4:Option Addr) (n4 c4:Nat),cs=[.slice A1 n1 c1,.slice A2 n2 c2,.int .i64 d.cfg.maxEntries,.int .i64 d.cfg.maxBytes,.int .i64 d.cfg.maxDepth,.int .i64 d.cfg.maxName,.int .i64 d.cfg.maxPax,.int .i64 d.cfg.strip,.int .i64 d.cfg.links,.int .i64 d.cfg.replace,.int .i64 d.cfg.umask,.bool d.cfg.keepSetid,.bool d.cfg.keepIds,.slice A3 n3 c3,.slice A4 n4 c4,.int .i64 d.now.sec,.int .i64 d.now.nano]∧n1≤c1∧c1≤maxLen∧Row Shape.LineD w M A1 n1 d.lines∧n2≤c2∧c2≤maxLen∧Row Shape.EntryD w M A2 n2 d.entries∧I64 d.cfg.maxEntries∧I64 d.cfg.maxBytes∧I64 d.cfg.maxDepth∧I64 d.cfg.maxName∧I64 d.cfg.maxPax∧I64 d.cfg.strip∧I64 d.cfg.links∧I64 d.cfg.replace∧I64 d.cfg.umask∧n3≤c3∧c3≤maxLen∧Row Shape.str w M A3 n3 d.cfg.include_∧n4≤c4∧c4≤maxLen∧Row Shape.str w M A4 n4 d.cfg.exclude∧I64 d.now.sec∧I64 d.now.nano
def Shape.GivenD:Shape GivenD where
 size:=17
 pos:=by decide
 rd:=GivenD.rd
 bulk d:=(Shape.slice Shape.LineD).bulk d.lines+(Shape.slice Shape.EntryD).bulk d.entries+Shape.ConfigD.bulk d.cfg+Shape.TimeD.bulk d.now+1
 bpos _:=by omega
 len:=fun {w M cs d} h=>by obtain ⟨_,_,_,_,_,_,_,_,_,_,_,_,e,_,_,_,_,_,_,_,_,_,_,_,_,_,_,_,_,_,_,_,_,_,_,_⟩:=h; subst e; rfl
 keep:=fun {w w' M cs d} h k=>by obtain ⟨A1,n1,c1,A2,n2,c2,A3,n3,c3,A4,n4,c4,e,h0,h1,h2,h3,h4,h5,h6,h7,h8,h9,h10,h11,h12,h13,h14,h15,h16,h17,h18,h19,h20,h21,h22⟩:=h; exact ⟨A1,n1,c1,A2,n2,c2,A3,n3,c3,A4,n4,c4,e,h0,h1,h2.keep k,h3,h4,h5.keep k,h6,h7,h8,h9,h10,h11,h12,h13,h14,h15,h16,h17.keep k,h18,h19,h20.keep k,h21,h22⟩
 more:=fun {w M M' cs d} h k=>by obtain ⟨A1,n1,c1,A2,n2,c2,A3,n3,c3,A4,n4,c4,e,h0,h1,h2,h3,h4,h5,h6,h7,h8,h9,h10,h11,h12,h13,h14,h15,h16,h17,h18,h19,h20,h21,h22⟩:=h; exact ⟨A1,n1,c1,A2,n2,c2,A3,n3,c3,A4,n4,c4,e,h0,h1,h2.more k,h3,h4,h5.more k,h6,h7,h8,h9,h10,h11,h12,h13,h14,h15,h16,h17.more k,h18,h19,h20.more k,h21,h22⟩
 one:=fun {w M cs d} h v hv=>by obtain ⟨_,_,_,_,_,_,_,_,_,_,_,_,e,_,_,_,_,_,_,_,_,_,_,_,_,_,_,_,_,_,_,_,_,_,_,_⟩:=h; subst e; simp only [List.mem_cons,List.not_mem_nil,or_false] at hv; rcases hv with rfl | rfl | rfl | rfl | rfl | rfl | rfl | rfl | rfl | rfl | rfl | rfl | rfl | rfl | rfl | rfl | rfl <;> rfl
theorem opens_GivenD:Opens Tryz.prog Shape.GivenD 46:=by
 refine ⟨by kernel_rfl,fun {H enc w fuel cs x} h=>?_⟩
 obtain ⟨xs,n,rfl,rfl,hlen,hxl,hf⟩:=DataW.trod_struct Tryz.underlying46 h
 have hl:cs.length=17:=by rw [hlen]; kernel_rfl
 clear h hlen
 obtain ⟨y0,y1,y2,y3,y4,y5,y6,y7,y8,y9,y10,y11,y12,y13,y14,y15,y16,rfl⟩:∃ y0 y1 y2 y3 y4 y5 y6 y7 y8 y9 y10 y11 y12 y13 y14 y15 y16,cs=[y0,y1,y2,y3,y4,y5,y6,y7,y8,y9,y10,y11,y12,y13,y14,y15,y16]:=by
  match cs,hl with | [y0,y1,y2,y3,y4,y5,y6,y7,y8,y9,y10,y11,y12,y13,y14,y15,y16],_=>exact ⟨y0,y1,y2,y3,y4,y5,y6,y7,y8,y9,y10,y11,y12,y13,y14,y15,y16,rfl⟩
 obtain ⟨x0,x1,x2,x3,rfl⟩:∃ x0 x1 x2 x3,xs=[x0,x1,x2,x3]:=by
  match xs,hxl with | [x0,x1,x2,x3],_=>exact ⟨x0,x1,x2,x3,rfl⟩
 have g0:DataW.trod enc Tryz.prog w 0 (fun _=>true) true n 26 [y0]=some x0:=by
  have ck:Tryz.prog.cellsOf 26=1:=by kernel_rfl
  have g:DataW.trod enc Tryz.prog w 0 (fun _=>true) true n 26 (List.take (Tryz.prog.cellsOf 26) (List.drop 0 [y0,y1,y2,y3,y4,y5,y6,y7,y8,y9,y10,y11,y12,y13,y14,y15,y16]))=some x0:=hf 0 _ rfl
  rw [ck] at g; exact g
 have g1:DataW.trod enc Tryz.prog w 0 (fun _=>true) true n 39 [y1]=some x1:=by
  have ck:Tryz.prog.cellsOf 39=1:=by kernel_rfl
  have g:DataW.trod enc Tryz.prog w 0 (fun _=>true) true n 39 (List.take (Tryz.prog.cellsOf 39) (List.drop 1 [y0,y1,y2,y3,y4,y5,y6,y7,y8,y9,y10,y11,y12,y13,y14,y15,y16]))=some x1:=hf 1 _ rfl
  rw [ck] at g; exact g
 have g2:DataW.trod enc Tryz.prog w 0 (fun _=>true) true n 42 [y2,y3,y4,y5,y6,y7,y8,y9,y10,y11,y12,y13,y14]=some x2:=by
  have ck:Tryz.prog.cellsOf 42=13:=by kernel_rfl
  have g:DataW.trod enc Tryz.prog w 0 (fun _=>true) true n 42 (List.take (Tryz.prog.cellsOf 42) (List.drop 2 [y0,y1,y2,y3,y4,y5,y6,y7,y8,y9,y10,y11,y12,y13,y14,y15,y16]))=some x2:=hf 2 _ rfl
  rw [ck] at g; exact g
 have g3:DataW.trod enc Tryz.prog w 0 (fun _=>true) true n 44 [y15,y16]=some x3:=by
  have ck:Tryz.prog.cellsOf 44=2:=by kernel_rfl
  have g:DataW.trod enc Tryz.prog w 0 (fun _=>true) true n 44 (List.take (Tryz.prog.cellsOf 44) (List.drop 15 [y0,y1,y2,y3,y4,y5,y6,y7,y8,y9,y10,y11,y12,y13,y14,y15,y16]))=some x3:=hf 3 _ rfl
  rw [ck] at g; exact g
 clear hf hl hxl
 obtain ⟨a0,r0,b0⟩:=(opens_slice (by kernel_rfl) Tryz.underlying26 opens_LineD).2 g0
 obtain ⟨a1,r1,b1⟩:=(opens_slice (by kernel_rfl) Tryz.underlying39 opens_EntryD).2 g1
 obtain ⟨a2,r2,b2⟩:=opens_ConfigD.2 g2
 obtain ⟨a3,r3,b3⟩:=opens_TimeD.2 g3
 obtain ⟨z0,e0,A0,n0,c0,rfl,i0,j0,k0⟩:=r0
 simp only [List.cons.injEq,and_true] at e0
 subst e0
 obtain ⟨z1,e1,A1,n1,c1,rfl,i1,j1,k1⟩:=r1
 simp only [List.cons.injEq,and_true] at e1
 subst e1
 obtain ⟨A2_1,n2_1,c2_1,A2_2,n2_2,c2_2,e2,i2_0,i2_1,i2_2,i2_3,i2_4,i2_5,i2_6,i2_7,i2_8,i2_9,i2_10,i2_11,i2_12,i2_13,i2_14⟩:=r2
 simp only [List.cons.injEq,and_true] at e2
 obtain ⟨rfl,rfl,rfl,rfl,rfl,rfl,rfl,rfl,rfl,rfl,rfl,rfl,rfl⟩:=e2
 obtain ⟨e3,i3_0,i3_1⟩:=r3
 simp only [List.cons.injEq,and_true] at e3
 obtain ⟨rfl,rfl⟩:=e3
 refine ⟨⟨a0,a1,a2,a3⟩,⟨A0,n0,c0,A1,n1,c1,A2_1,n2_1,c2_1,A2_2,n2_2,c2_2,rfl,i0,j0,k0,i1,j1,k1,i2_0,i2_1,i2_2,i2_3,i2_4,i2_5,i2_6,i2_7,i2_8,i2_9,i2_10,i2_11,i2_12,i2_13,i2_14,i3_0,i3_1⟩,?_⟩
 simp only [Shape.GivenD,List.map_cons,List.map_nil,Rows.uptoBulk,Rows.uptoBulkAll]
 omega
end Go.Proofs.YtfhfcipelgogjaaGreatDoor
